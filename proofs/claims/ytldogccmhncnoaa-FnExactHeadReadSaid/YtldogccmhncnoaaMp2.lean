/- A part of the proof: contracts of functions, or plain facts on which these lean. -/
import Derived.Laws.Concat
import Derived.Laws.StructEq
import Derived.Test.YtldogccmhncnoaaMp1
namespace Go.Proofs.Ytldogccmhncnoaa
open Go
set_option linter.unusedVariables false
set_option linter.unusedSimpArgs false
set_option maxRecDepth 100000
set_option maxHeartbeats 16000000

section
open Go
inductive TK where
 | none | int (k:IntKind) | bool | str | ptr | slc (e:TypeId) | strct (fs:List (Nat × Nat × TypeId)) | fn
 deriving Inhabited
structure TD where
 k:TK
 size:Nat
 bytes:Nat
 zero:List V
 wr:Bool
 bld:Bool:=false
 deriving Inhabited
def TD.agg (d:TD):Bool:=match d.k with | .strct _=>true | _=>false
def eraseC:V→V
 | .rows _ xs=>.rows none xs
 | .nils=>.rows none []
 | v=>v
def erase1:V→V
 | .agg cs=>.agg (cs.map eraseC)
 | v=>eraseC v
def constC:Value→V
 | .int k n=>.int k n
 | .bool b=>.bool b
 | .string s=>.str s.data.toList
 | .slice none 0 0=>.nils
 | .pointer none=>.nilp
 | _=>.junk
def constV:Value→V
 | .agg cs=>if cs.toList.all Value.oneCell' then .agg (cs.toList.map constC) else .junk
 | v=>constC v
def evalT (t:Nat→V):Operand→V
 | .tmp i=>t i
 | .const v=>constV v
 | .global _=>.junk
 | .func f=>.fn f []
def putT (t:Nat→V) (dst:Option Nat) (v:V):Nat→V :=
 match dst with
 | some d=>fun i=>if i=d then v else t i
 | none=>t
def splice:List V→Nat→List V→List V
 | cs,0,[]=>cs
 | c :: cs,0,x :: xs=>x :: splice cs 0 xs
 | c :: cs,n+1,xs=>c :: splice cs n xs
 | [],_,_=>[]
def byteOfV:V→UInt8
 | .int _ n=>UInt8.ofNat n.toNat
 | _=>0
def intBits (op:BinOp) (k:IntKind) (x y:Int):Int :=
 match op with
 | .and=>k.wrap (BitVec.ofInt k.bits x &&& BitVec.ofInt k.bits y).toNat
 | .or=>k.wrap (BitVec.ofInt k.bits x ||| BitVec.ofInt k.bits y).toNat
 | .xor=>k.wrap (BitVec.ofInt k.bits x ^^^ BitVec.ofInt k.bits y).toNat
 | _=>k.wrap (BitVec.ofInt k.bits x &&& ~~~ BitVec.ofInt k.bits y).toNat
def atS (k:V→List Blk→Prop) (S:List Blk) (v:V):Prop:=k v S
def boolK (k:V→Prop) (b:Bool):Prop:=k (.bool b)
def nboolK (k:V→Prop) (b:Bool):Prop:=k (.bool (!b))
def aggK (k:V→Prop) (cs:List V):Prop:=k (.agg cs)
def guardK (b want:Bool) (p q:Prop):Prop:=(b=want→p)∧(b=(!want)→q)
section
variable (P:Program) (D:Nat→TD)
def eqT (k:TK) (x y:V):Option Bool :=
 match k,x,y with
 | .int _,.int a m,.int b n=>if a=b then some (decide (m=n)) else none
 | .bool,.bool a,.bool b=>some (a == b)
 | .str,.str a,.str b=>some (decide (a=b))
 | _,_,_=>none
def eqFs (D:Nat→TD):Nat→List (Nat × Nat × TypeId)→List V→List V→Option Bool
 | _,[],[],[]=>some true
 | i,(o,s,t) :: fs,x :: xs,y :: ys=>if o=i∧s=1 then match eqT (D t).k x y,eqFs D (i+1) fs xs ys with
   | some a,some b=>some (a && b)
   | _,_=>none
  else none
 | _,_,_,_=>none
def evEqS (t:TypeId) (xs ys:List V) (k:Bool→Prop):Prop :=
 match (D t).k with
 | .strct fs=>match eqFs D 0 fs xs ys with
  | some b=>k b
  | none=>False
 | _=>False
def evBin (op:BinOp) (t:TypeId) (x y:V) (k:V→Prop):Prop :=
 match op,x,y with
 | .add,.int a m,.int b n=>a=b∧k (.int a (a.wrap (m+n)))
 | .sub,.int a m,.int b n=>a=b∧k (.int a (a.wrap (m - n)))
 | .mul,.int a m,.int b n=>a=b∧k (.int a (a.wrap (m * n)))
 | .quo,.int a m,.int b n=>a=b∧n≠0∧k (.int a (a.wrap (m.tdiv n)))
 | .rem,.int a m,.int b n=>a=b∧n≠0∧k (.int a (m.tmod n))
 | .and,.int a m,.int b n=>a=b∧k (.int a (intBits .and a m n))
 | .or,.int a m,.int b n=>a=b∧k (.int a (intBits .or a m n))
 | .xor,.int a m,.int b n=>a=b∧k (.int a (intBits .xor a m n))
 | .andNot,.int a m,.int b n=>a=b∧k (.int a (intBits .andNot a m n))
 | .shl,.int a m,.int b n=>0≤n∧k (.int a (a.wrap (m * 2 ^ min n.toNat a.bits)))
 | .shr,.int a m,.int b n=>0≤n∧k (.int a (m.fdiv (2 ^ min n.toNat a.bits)))
 | .eql,.int a m,.int b n=>a=b∧k (.bool (decide (m=n)))
 | .neq,.int a m,.int b n=>a=b∧k (.bool (!decide (m=n)))
 | .lss,.int a m,.int b n=>a=b∧k (.bool (decide (m < n)))
 | .leq,.int a m,.int b n=>a=b∧k (.bool (decide (m≤n)))
 | .gtr,.int a m,.int b n=>a=b∧k (.bool (decide (m > n)))
 | .geq,.int a m,.int b n=>a=b∧k (.bool (decide (m ≥ n)))
 | .add,.str s,.str u=>s.length+u.length≤4611686018427387904∧k (.str (s++u))
 | .eql,.str s,.str u=>k (.bool (decide (s=u)))
 | .neq,.str s,.str u=>k (.bool (!decide (s=u)))
 | .eql,.bool a,.bool b=>(D t).k=.bool∧k (.bool (a == b))
 | .neq,.bool a,.bool b=>(D t).k=.bool∧k (.bool (!(a == b)))
 | .eql,.ptr _ _,.nilp=>(D t).k=.ptr∧k (.bool false)
 | .neq,.ptr _ _,.nilp=>(D t).k=.ptr∧k (.bool true)
 | .eql,.nilp,.nilp=>(D t).k=.ptr∧k (.bool true)
 | .neq,.nilp,.nilp=>(D t).k=.ptr∧k (.bool false)
 | .neq,.ptr b o,.ptr b' o'=>(D t).bld=true∧(D t).k=.ptr∧b=b'∧o=o'∧k (.bool false)
 | .eql,.agg xs,.agg ys=>evEqS D t xs ys (boolK k)
 | .neq,.agg xs,.agg ys=>evEqS D t xs ys (nboolK k)
 | _,_,_=>False
def evUn (op:UnOp) (x:V) (k:V→Prop):Prop :=
 match op,x with
 | .not,.bool b=>k (.bool (!b))
 | .neg,.int a n=>k (.int a (a.wrap (0 - n)))
 | _,_=>False
def evConv (src dst:TypeId) (x:V) (k:V→Prop):Prop :=
 ((D src).k matches .none)=false∧match (D dst).k,x with
 | .int a,.int _ n=>k (.int a (a.wrap n))
 | .str,.str s=>k (.str s)
 | .str,.rows _ xs=>(∃e,(D src).k=.slc e∧(D e).k=.int .u8)∧(xs.all fun v=>match v with | .int .u8 _=>true | _=>false)=true∧k (.str (xs.map byteOfV))
 | .str,.nils=>(∃e,(D src).k=.slc e∧(D e).k=.int .u8)∧k (.str [])
 | _,_=>False
def isU8:V→Bool
 | .int .u8 _=>true
 | _=>false
def isB8:V→Bool
 | .int .u8 n=>decide (0≤n) && decide (n < 256)
 | _=>false
def u8s (s:List UInt8):List V:=s.map fun b=>.int .u8 (b.toNat:Int)
def ConvPtr (P:Program) (src dst:TypeId) (ty m:Nat):Prop :=
 ∀(w:World) (g:Nat) (arr:Array Value) (fr:Nat × Nat),w.heap[g]?=some (.cells arr ty fr)→m≤arr.size→(convert src dst (.pointer (some ⟨g,0,none⟩))).run P w=.ok (.pointer (some ⟨g,0,none⟩)) w
def convHeap (src dst:TypeId) (n:Nat) (k:V→Prop) (B:Option Blk):Prop :=
 match B with
 | some (.cells _ cs)=>(D dst).k=.str∧(∃e,(D src).k=.slc e∧(D e).k=.int .u8)∧n≤cs.length∧(cs.take n).all isU8=true∧k (.str ((cs.take n).map byteOfV))
 | _=>False
def convPtr (src dst:TypeId) (b o:Nat) (k:V→Prop) (B:Option Blk):Prop :=
 match B with
 | some (.cells sz cs)=>o=0∧1000000≤sz∧ConvPtr P src dst (sz / 1000000 - 1) cs.length∧k (.ptr b 0)
 | _=>False
def convStr (src dst:TypeId) (s:List UInt8) (S:List Blk) (k:V→List Blk→Prop) (K:TK):Prop :=
 match K with
 | .slc e=>(D src).k=.str∧(D e).k=.int .u8∧(D e).wr=true∧k (.heap S.length s.length) (S++[.cells (1000000 * (e+1)+1) (u8s s)])
 | _=>evConv D src dst (.str s) (atS k S)
def evConvS (src dst:TypeId) (x:V) (S:List Blk) (k:V→List Blk→Prop):Prop :=
 match x with
 | .heap b n=>convHeap D src dst n (atS k S) S[b]?
 | .ptr b o=>convPtr P src dst b o (atS k S) S[b]?
 | .str s=>convStr D src dst s S k (D dst).k
 | x=>evConv D src dst x (atS k S)
def evPart (t:TypeId) (cs:List V) (off:Nat) (k:V→Prop):Prop :=
 match (D t).k with
 | .none=>False
 | .strct _=>off+(D t).size≤cs.length∧k (.agg ((cs.drop off).take (D t).size))
 | _=>match cs[off]? with
  | some v=>k v
  | none=>False
def evLoad (t:TypeId) (a:V) (S:List Blk) (k:V→Prop):Prop :=
 match a with
 | .ptr b off=>match S[b]? with
  | some (.cells _ cs)=>evPart D t cs off k
  | _=>False
 | .eptr x off=>(x.cells.all V.one)=true∧evPart D t x.cells off k
 | _=>False
def evStore (t:TypeId) (a x:V) (S:List Blk) (k:List Blk→Prop):Prop :=
 match a with
 | .ptr b off=>match S[b]? with
  | some (.cells sz cs)=>((D t).k matches .none)=false∧x.cells.length=(D t).size∧x.cells.all V.one=true∧off+x.cells.length≤cs.length ∧
    k (S.set b (.cells sz (splice cs off (if sz % 1000000=0 then x.cells else x.cells.map eraseC))))
  | _=>False
 | _=>False
def evFill (fs:List (Nat × Nat × TypeId)):List (Nat × V)→List V→(List V→Prop)→Prop
 | [],cs,k=>k cs
 | (i,x) :: ps,cs,k=>match fs[i]? with
  | some (off,sz,_)=>x.cells.length=sz∧off+sz≤cs.length∧x.cells.all V.one=true∧evFill fs ps (splice cs off x.cells) k
  | none=>False
def evBuild (t:TypeId) (parts:List (Nat × V)) (k:V→Prop):Prop :=
 match (D t).k with
 | .strct fs=>(D t).zero.all V.one=true∧evFill fs parts (D t).zero (aggK k)
 | _=>False
def evBuildSlice (t:TypeId) (len:Nat) (parts:List (Nat × V)) (S:List Blk) (k:V→List Blk→Prop):Prop :=
 match (D t).k with
 | .slc e=>((D e).k matches .none)=false∧0 < (D e).size∧len * (D e).size≤16777216∧parts.map (·.1)=List.range len∧(parts.all fun x=>x.2.cells.length == (D e).size && x.2.cells.all V.one)=true ∧
   if (D e).wr then k (.heap S.length len) (S++[.cells (D e).size ((parts.map fun x=>(x.2.cells.map eraseC)).flatten)])
   else k (.rows (some S.length) (parts.map fun x=>erase1 x.2)) (S++[.right (D e).size])
 | _=>False
def evIndexAddr (t:TypeId) (x i:V) (k:V→Prop):Prop :=
 match x,i with
 | .rows _ xs,.int _ n=>0≤n∧n < xs.length∧(∃e,(D t).k=.slc e∧((D e).k matches .none)=false∧(xs.all fun v=>v.cells.length == (D e).size)=true)∧k (.eptr (xs.getD n.toNat .junk) 0)
 | .heap b l,.int _ n=>0≤n∧n < l∧match (D t).k with
  | .slc e=>((D e).k matches .none)=false∧k (.ptr b (n.toNat * (D e).size))
  | _=>False
 | _,_=>False
def evIndex (t:TypeId) (x i:V) (k:V→Prop):Prop :=
 match x,i with
 | .str s,.int _ n=>(D t).k=.str∧0≤n∧n < s.length∧k (.int .u8 ((s.getD n.toNat 0).toNat:Int))
 | _,_=>False
def evEnd (x:Option V) (d:Nat) (k:Int→Prop):Prop :=
 match x with
 | none=>k d
 | some (.int _ n)=>k n
 | _=>False
def slcStrL (s:List UInt8) (k:V→Prop) (h l:Int):Prop:=0≤l∧l≤h∧h≤s.length∧k (.str ((s.take h.toNat).drop l.toNat))
def slcStrH (s:List UInt8) (lo:Option V) (k:V→Prop) (h:Int):Prop:=evEnd lo 0 (slcStrL s k h)
def slcRowL (xs:List V) (k:V→Prop) (h l:Int):Prop:=0≤l∧l≤h∧h≤xs.length∧k (.rows none ((xs.take h.toNat).drop l.toNat))
def slcRowH (xs:List V) (lo:Option V) (k:V→Prop) (h:Int):Prop:=evEnd lo 0 (slcRowL xs k h)
def slcHeapL (b n:Nat) (k:V→Prop) (h l:Int):Prop:=l=0∧0≤h∧h≤n∧k (.heap b h.toNat)
def slcHeapH (b n:Nat) (lo:Option V) (k:V→Prop) (h:Int):Prop:=evEnd lo 0 (slcHeapL b n k h)
def evSlice (t:TypeId) (x:V) (lo hi:Option V) (k:V→Prop):Prop :=
 match x with
 | .str s=>(D t).k=.str∧evEnd hi s.length (slcStrH s lo k)
 | .rows _ xs=>(∃e,(D t).k=.slc e∧((D e).k matches .none)=false∧(xs.all fun v=>v.cells.length == (D e).size)=true)∧evEnd hi xs.length (slcRowH xs lo k)
 | .heap b n=>(∃e,(D t).k=.slc e∧((D e).k matches .none)=false)∧evEnd hi n (slcHeapH b n lo k)
 | _=>False
def evFieldAddr (t:TypeId) (x:V) (f:Nat) (k:V→Prop):Prop :=
 match (D t).k with
 | .strct fs=>match fs[f]? with
  | some (off,sz,u)=>sz≠0∧((D u).k matches .none)=false∧match x with
   | .ptr b o=>k (.ptr b (o+off))
   | .eptr e o=>k (.eptr e (o+off))
   | _=>False
  | none=>False
 | _=>False
def evField (t:TypeId) (x:V) (f:Nat) (k:V→Prop):Prop :=
 match (D t).k,x with
 | .strct fs,.agg cs=>match fs[f]? with
  | some (off,_,u)=>evPart D u cs off k
  | none=>False
 | _,_=>False
def evExtract (x:V) (i:Nat) (k:V→Prop):Prop :=
 match x with
 | .tup vs=>match vs[i]? with
  | some v=>k v
  | none=>False
 | _=>False
def evLen (t:TypeId) (x:V) (k:V→Prop):Prop :=
 match x with
 | .str s=>(D t).k=.str∧k (.int .i64 s.length)
 | .rows _ xs=>(∃e,(D t).k=.slc e)∧k (.int .i64 xs.length)
 | .nils=>(∃e,(D t).k=.slc e)∧k (.int .i64 0)
 | .heap _ n=>(∃e,(D t).k=.slc e)∧k (.int .i64 n)
 | _=>False
def mkE (e:TypeId):Nat:=if (D e).bld then 1000000 * (e+1)+(D e).size else (D e).size
def srcCells (x:V) (sz:Nat) (S:List Blk) (k:Nat→List V→Prop):Prop :=
 match x with
 | .nils=>k 0 []
 | .heap b n=>match S[b]? with
  | some (.cells sz' cs)=>sz'=sz∧n * sz≤cs.length∧k n (cs.take (n * sz))
  | _=>False
 | .rows _ xs=>(xs.all fun v=>v.cells.length == sz)=true∧k xs.length (xs.flatMap V.cells)
 | _=>False
def srcRows (e:TypeId) (x:V) (k:List V→Prop):Prop :=
 match x with
 | .nils=>k []
 | .rows _ ys=>k ys
 | .str s=>(D e).k=.int .u8∧k (s.map fun b=>.int .u8 (b.toNat:Int))
 | _=>False
def appCells (e:TypeId) (s x:V) (S:List Blk) (k:V→List Blk→Prop) (m:Nat) (ys:List V):Prop :=
 m≤1073741824∧match s with
  | .nils=>k (.heap S.length m) (S++[.cells (mkE D e) (ys.map eraseC)])
  | .heap b n=>match S[b]? with
   | some (.cells sz cs)=>sz=mkE D e∧cs.length=n * (D e).size∧n≤1073741824∧(match x with | .heap b' _=>b'≠b | _=>True)∧k (.heap S.length (n+m)) (S.set b .dead++[.cells sz (cs++ys.map eraseC)])
   | _=>False
  | _=>False
def appStr (e:TypeId) (s:V) (l:List UInt8) (S:List Blk) (k:V→List Blk→Prop):Prop :=
 (D e).k=.int .u8∧(D e).size=1∧match s with
  | .nils=>(l=[]→k .nils S)∧(l≠[]→appCells D e .nils (.str l) S k l.length (u8s l))
  | s=>appCells D e s (.str l) S k l.length (u8s l)
def appW (e:TypeId) (s x:V) (S:List Blk) (k:V→List Blk→Prop):Prop :=
 match x with
 | .str l=>appStr D e s l S k
 | x=>srcCells x (D e).size S (appCells D e s x S k)
def appRows (e:TypeId) (s:V) (S:List Blk) (k:V→List Blk→Prop) (ys:List V):Prop :=
 ys.length≤1073741824∧(ys.all fun v=>v.cells.length == (D e).size)=true∧match s with
  | .nils=>k (.rows (some S.length) ys) (S++[.right (D e).size])
  | .rows (some τ) xs=>match S[τ]? with
   | some (.right sz)=>sz=(D e).size∧xs.length≤1073741824∧(xs.all fun v=>v.cells.length == (D e).size)=true∧k (.rows (some S.length) (xs++ys)) (S.set τ .dead++[.right sz])
   | _=>False
  | _=>False
def evAppend (t u:TypeId) (s x:V) (S:List Blk) (k:V→List Blk→Prop):Prop :=
 match (D t).k with
 | .slc e=>((D e).k matches .none)=false∧0 < (D e).size∧(D e).bytes≤4096∧(match (D u).k with | .slc _ | .str=>true | _=>false)=true ∧
  if (D e).wr then appW D e s x S k
  else srcRows D e x (appRows D e s S k)
 | _=>False
def evMin (x y:V) (k:V→Prop):Prop :=
 match x,y with
 | .int a m,.int _ n=>k (.int a (if n < m then n else m))
 | _,_=>False
def minK (z:V) (k:V→Prop) (u:V):Prop:=evMin u z k
def evMax (x y:V) (k:V→Prop):Prop :=
 match x,y with
 | .int a m,.int _ n=>k (.int a (if n > m then n else m))
 | _,_=>False
def Enters (P:Program) (f:FuncId):Prop:=∃fn,P.funcs[f]?=some fn∧fn.body.isNone=false∧(fn.name == "runtime.NumGoroutine")=false
def DCall (P:Program) (f:FuncId) (args:List V) (S:List Blk) (r:V) (S':List Blk):Prop :=
 ∀(G:Gh) (w:World) (cargs:Array Value),AllR G w args cargs.toList→Rel G w S →
  Calls P f cargs w fun e w'=>∃c G',e=.returned c∧VR G' w' r c∧Rel G' w' S'∧Evol G w S G' w' S'
def XCall (P:Program) (f:FuncId) (args:List V) (r:V):Prop :=
 ∀(G:Gh) (w:World) (cargs:Array Value),AllR G w args cargs.toList→∃c,(callFunc f cargs).run P w=.ok (.value c) w∧VR G w r c
def VCallE (P:Program) (f:FuncId) (args:List V) (S:List Blk) (k:V→List Blk→Prop):Prop :=
 Enters P f∧∃r S',k r S'∧DCall P f args S r S'
def VCall (P:Program) (f:FuncId) (args:List V) (S:List Blk) (k:V→List Blk→Prop):Prop :=
 VCallE P f args S k∨∃r,k r S∧XCall P f args r
def eraseArgs:List V→List V
 | [.nils,.int k n]=>[.nils,.int k n]
 | l=>l.map erase1
def evFn (P:Program) (f:V) (args:List V) (S:List Blk) (k:V→List Blk→Prop):Prop :=
 match f with
 | .fn g cap=>VCall P g (eraseArgs (args++cap)) S k
 | _=>False
def evData (x:V) (k:V→Prop):Prop :=
 match x with
 | .nils=>k .nilp
 | .heap b n=>1≤n∧k (.ptr b 0)
 | _=>False
def RowPtr (P:Program) (t:TypeId) (e:TypeId):Prop:=P.underlying t=some (.pointer e)∧P.cellsOf e=1
def ustrB (t:TypeId) (b n:Nat) (S:List Blk) (k:V→List Blk→Prop) (B:Option Blk):Prop :=
 match B with
 | some (.cells sz cs)=>1000000≤sz∧RowPtr P t (sz / 1000000 - 1)∧1≤n∧n≤cs.length∧n≤9223372036854775807∧(cs.take n).all isB8=true∧k (.str ((cs.take n).map byteOfV)) (S.set b .dead)
 | _=>False
def evUStr (t:TypeId) (x n:V) (S:List Blk) (k:V→List Blk→Prop):Prop :=
 match x,n with
 | .nilp,.int K n=>n=0∧K=.i64∧k (.str []) S
 | .ptr b o,.int K n=>o=0∧K=.i64∧0≤n∧ustrB P t b n.toNat S k S[b]?
 | _,_=>False
def evBuiltin (b:Builtin) (ats:List TypeId) (args:List V) (S:List Blk) (k:V→List Blk→Prop):Prop :=
 match b,ats,args with
 | .len,t :: _,[x]=>evLen D t x (atS k S)
 | .append,[t,u],[s,x]=>evAppend D t u s x S k
 | .min,_,[x,y]=>evMin x y (atS k S)
 | .min,_,[x,y,z]=>evMin x y (minK z (atS k S))
 | .max,_,[x,y]=>evMax x y (atS k S)
 | .unsafeSliceData,_,[x]=>evData x (atS k S)
 | .unsafeString,[t,_],[x,n]=>evUStr P t x n S k
 | _,_,_=>False
def evMakeFunc (fn:Fn) (first captured:List V) (k:V→Prop):Prop :=
 match fn,first with
 | .func f,[]=>k (.fn f captured)
 | _,_=>False
def evNil (x:V) (k:V→Prop):Prop :=
 match x with
 | .ptr b o=>k (.ptr b o)
 | .eptr x o=>k (.eptr x o)
 | .fn f c=>k (.fn f c)
 | _=>False
def evMakeSlice (t:TypeId) (l c:V) (S:List Blk) (k:V→List Blk→Prop):Prop :=
 match (D t).k,l,c with
 | .slc e,.int _ m,.int _ n=>m=n∧0≤m∧m≤1073741824∧((D e).k matches .none)=false∧0 < (D e).size∧(D e).bytes≤4096∧(D e).wr=true ∧
   k (.heap S.length m.toNat) (S++[.cells (D e).size (List.replicate m.toNat (D e).zero).flatten])
 | _,_,_=>False
def evOp (o:Op) (ρ:Operand→V) (S:List Blk) (k:V→List Blk→Prop):Prop :=
 match o with
 | .move x=>k (ρ x) S
 | .assign x=>k (ρ x) S
 | .pick c a b=>match ρ c with
  | .bool t=>guardK t true (k (ρ a) S) (k (ρ b) S)
  | _=>False
 | .alloc t=>((D t).k matches .none)=false∧(D t).zero.all V.one=true∧k (.ptr S.length 0) (S++[.cells (if (D t).bld then 1000000 * (t+1) else 0) (D t).zero])
 | .box t x=>(ρ x).cells.all V.one=true∧k (.ptr S.length 0) (S++[.cells 0 (ρ x).cells])
 | .build t parts=>evBuild D t (parts.toList.map fun p=>(p.1,ρ p.2)) (atS k S)
 | .buildSlice t len parts=>evBuildSlice D t len (parts.toList.map fun p=>(p.1,ρ p.2)) S k
 | .load t a=>evLoad D t (ρ a) S (atS k S)
 | .store t a x=>evStore D t (ρ a) (ρ x) S (k .junk)
 | .nilCheck x=>evNil (ρ x) (atS k S)
 | .binOp op t x y _=>evBin D op t (ρ x) (ρ y) (atS k S)
 | .unOp op _ x=>evUn op (ρ x) (atS k S)
 | .convert src dst x=>evConvS P D src dst (ρ x) S k
 | .makeFunc fn first captured=>evMakeFunc fn (first.toList.map ρ) (captured.toList.map ρ) (atS k S)
 | .makeSlice t l c=>evMakeSlice D t (ρ l) (ρ c) S k
 | .slice t x lo hi none=>evSlice D t (ρ x) (lo.map ρ) (hi.map ρ) (atS k S)
 | .fieldAddr t x f=>evFieldAddr D t (ρ x) f (atS k S)
 | .field t x f=>evField D t (ρ x) f (atS k S)
 | .indexAddr t x i=>evIndexAddr D t (ρ x) (ρ i) (atS k S)
 | .index t x i=>evIndex D t (ρ x) (ρ i) (atS k S)
 | .extract x i=>evExtract (ρ x) i (atS k S)
 | .call c=>match c.callee with
  | .value f=>evFn P (ρ f) (c.args.toList.map ρ) S k
  | .builtin b=>evBuiltin P D b c.argTypes.toList (c.args.toList.map ρ) S k
  | _=>False
 | _=>False
def dstAt (ops:List Oper) (j:Nat):Option Nat:=(ops[j]?).bind (·.dst)
def evOps (full:List Oper):List Oper→(Nat→V)→List Blk→((Nat→V)→List Blk→Prop)→Prop
 | [],t,S,k=>k t S
 | o :: os,t,S,k=>match o.guard with
  | none=>evOp P D o.op (evalT t) S fun v S'=>evOps full os (putT t o.dst v) S' k
  | some (j,want)=>match dstAt full j with
   | some d=>match t d with
    | .bool b=>guardK b want (evOp P D o.op (evalT (putT t (some d) (.bool want))) S fun v S'=>evOps full os (putT (putT t (some d) (.bool want)) o.dst v) S' k)
      (evOps full os (putT (putT t (some d) (.bool (!want))) o.dst (.tup [])) S k)
    | .tup []=>evOps full os (putT t o.dst (.tup [])) S k
    | _=>False
   | none=>False
def stepK (full os:List Oper) (t:Nat→V) (d:Option Nat) (k:(Nat→V)→List Blk→Prop) (v:V) (S:List Blk):Prop:=evOps P D full os (putT t d v) S k
def guardOps (full os:List Oper) (o:Op) (dst:Option Nat) (d:Nat) (want:Bool) (t:Nat→V) (S:List Blk) (k:(Nat→V)→List Blk→Prop) (x:V):Prop :=
 match x with
 | .bool b=>guardK b want (evOp P D o (evalT (putT t (some d) (.bool want))) S (stepK P D full os (putT t (some d) (.bool want)) dst k))
   (evOps P D full os (putT (putT t (some d) (.bool (!want))) dst (.tup [])) S k)
 | .tup []=>evOps P D full os (putT t dst (.tup [])) S k
 | _=>False
def guardAt (full os:List Oper) (o:Op) (dst:Option Nat) (want:Bool) (t:Nat→V) (S:List Blk) (k:(Nat→V)→List Blk→Prop) (d:Option Nat):Prop :=
 match d with
 | some d=>guardOps P D full os o dst d want t S k (t d)
 | none=>False
end
section
variable {P:Program} {D:Nat→TD} (full os:List Oper) (o:Op) (d:Option Nat) (ty:TypeId) (ps:String) (af:Array Edge) (t:Nat→V) (S:List Blk) (k:(Nat→V)→List Blk→Prop)
theorem evOps_nil:evOps P D full [] t S k=k t S:=by simp only [evOps]
theorem evOps_none:evOps P D full ({ dst:=d,op:=o,type:=ty,pos:=ps,after:=af,guard:=none } :: os) t S k=evOp P D o (evalT t) S (stepK P D full os t d k):=by simp only [evOps]; rfl
theorem evOps_some (j:Nat) (want:Bool):evOps P D full ({ dst:=d,op:=o,type:=ty,pos:=ps,after:=af,guard:=some (j,want) } :: os) t S k =
  guardAt P D full os o d want t S k (dstAt full j):=by
 simp only [evOps]
 cases dstAt full j with
 | none=>rfl
 | some x =>
  simp only [guardAt]
  cases t x with
  | tup vs=>cases vs <;> rfl
  | _=>rfl
theorem stepK_eq (v:V):stepK P D full os t d k v S=evOps P D full os (putT t d v) S k:=rfl
theorem guardK_tt (p q:Prop):guardK true true p q=p:=by simp [guardK]
theorem guardK_ff (p q:Prop):guardK false false p q=p:=by simp [guardK]
theorem guardK_tf (p q:Prop):guardK true false p q=q:=by simp [guardK]
theorem guardK_ft (p q:Prop):guardK false true p q=q:=by simp [guardK]
theorem guardK_t (b:Bool) (p q:Prop):guardK b true p q=((b=true→p)∧(b=false→q)):=by simp [guardK]
theorem guardK_f (b:Bool) (p q:Prop):guardK b false p q=((b=false→p)∧(b=true→q)):=by simp [guardK]
end
end
section
open Go
def TyOk (P:Program) (t:TypeId) (d:TD):Prop :=
 d.k=.none∨((∃i z,P.info? t=some i∧i.size=d.size∧i.bytes=d.bytes∧i.zero=some z∧z.cells.toList.map constC=d.zero∧z.cells.toList.all Value.oneCell'=true∧z.cells.size=d.size) ∧
  match d.k with
  | .none=>True
  | .int q=>P.underlying t=some (.int q)
  | .bool=>P.underlying t=some .bool
  | .str=>P.underlying t=some .string
  | .ptr=>∃e,P.underlying t=some (.pointer e)
  | .slc e=>P.underlying t=some (.slice e)
  | .fn=>∃a b c,P.underlying t=some (.func a b c)
  | .strct fs=>∃fields:Array Field,P.underlying t=some (.struct fields)∧fields.toList.map (fun f=>(f.offset,f.type))=fs.map (fun x=>(x.1,x.2.2)) ∧
    (∀x ∈ fs,∃i,P.info? x.2.2=some i∧i.size=x.2.1)∧(∀f ∈ fields.toList,f.name≠ "_")∧P.stoodInHeld t=false∧P.eqGuardType P.depth t=false)
structure TypesOk (P:Program) (D:Nat→TD):Prop where
 ty:∀t,TyOk P t (D t)
 mix:P.follows .mixedOrders=true
 small:∀t,(D t).size < 1000000
 ptr:∀t,(D t).bld=true→(D t).k=.ptr→∃e j,P.underlying t=some (.pointer e)∧P.info? e=some j
def RunOk (P:Program) (o:Oper) (ρ:Operand→V) (S:List Blk) (v:V) (S':List Blk):Prop :=
 ∀(G:Gh) (ev:Operand→Value) (w:World),(∀x ∈ o.op.operands,VR G w (ρ x) (ev x))→Rel G w S →
  ∃c w' G',((execOp ev o).run P w=.ok (.value c) w'∨((execOp ev o).run P w=.ok .skip w'∧c=undef))∧VR G' w' v c∧Rel G' w' S'∧Evol G w S G' w' S'
def PureOk (P:Program) (o:Oper) (ρ:Operand→V) (v:V):Prop :=
 ∀(G:Gh) (ev:Operand→Value) (w:World),(∀x ∈ o.op.operands,VR G w (ρ x) (ev x))→∃c,(execOp ev o).run P w=.ok (.value c) w∧VR G w v c
theorem PureOk.run {P:Program} {o:Oper} {ρ:Operand→V} {v:V} (h:PureOk P o ρ v) (S:List Blk):RunOk P o ρ S v S:=by
 intro G ev w hx hR
 obtain ⟨c,hr,hv⟩:=h G ev w hx
 exact ⟨c,w,G,.inl hr,hv,hR,Evol.refl _ _ _⟩
def CellsAt (G:Gh) (w:World) (b o:Nat) (cs:List V):Prop :=
 ∀(i:Nat) (v:V),cs[i]?=some v→∃u,w.cell? ⟨b,o+i,none⟩=some u∧VR G w v u∧u.oneCell'=true
theorem addr_add (b o n:Nat):(⟨b,o,none⟩:Addr).add n=⟨b,o+n,none⟩:=by
 unfold Addr.add
 split <;> simp_all
section
variable {P:Program} {D:Nat→TD} (hD:TypesOk P D)
include hD
theorem ty_info {t:TypeId} (h:((D t).k matches .none)=false):∃i z,P.info? t=some i∧i.size=(D t).size∧i.bytes=(D t).bytes∧i.zero=some z∧z.cells.toList.map constC=(D t).zero ∧
  z.cells.toList.all Value.oneCell'=true∧z.cells.size=(D t).size:=by
 rcases hD.ty t with g | ⟨g,_⟩
 ·rw [g] at h; cases h
 ·exact g
theorem ty_slc {t e:TypeId} (h:(D t).k=.slc e):P.underlying t=some (.slice e):=by
 rcases hD.ty t with g | ⟨_,g⟩
 ·rw [h] at g; cases g
 ·rw [h] at g; exact g
theorem ty_str {t:TypeId} (h:(D t).k=.str):P.underlying t=some .string:=by
 rcases hD.ty t with g | ⟨_,g⟩
 ·rw [h] at g; cases g
 ·rw [h] at g; exact g
theorem ty_int {t:TypeId} {q:IntKind} (h:(D t).k=.int q):P.underlying t=some (.int q):=by
 rcases hD.ty t with g | ⟨_,g⟩
 ·rw [h] at g; cases g
 ·rw [h] at g; exact g
theorem ty_bool {t:TypeId} (h:(D t).k=.bool):P.underlying t=some .bool:=by
 rcases hD.ty t with g | ⟨_,g⟩
 ·rw [h] at g; cases g
 ·rw [h] at g; exact g
theorem ty_ptr {t:TypeId} (h:(D t).k=.ptr):∃e,P.underlying t=some (.pointer e):=by
 rcases hD.ty t with g | ⟨_,g⟩
 ·rw [h] at g; cases g
 ·rw [h] at g; exact g
theorem ty_fn {t:TypeId} (h:(D t).k=.fn):∃a b c,P.underlying t=some (.func a b c):=by
 rcases hD.ty t with g | ⟨_,g⟩
 ·rw [h] at g; cases g
 ·rw [h] at g; exact g
theorem ty_strct {t:TypeId} {fs:List (Nat × Nat × TypeId)} (h:(D t).k=.strct fs):∃fields:Array Field,P.underlying t=some (.struct fields) ∧
  fields.toList.map (fun f=>(f.offset,f.type))=fs.map (fun x=>(x.1,x.2.2)) ∧
    (∀x ∈ fs,∃i,P.info? x.2.2=some i∧i.size=x.2.1)∧(∀f ∈ fields.toList,f.name≠ "_")∧P.stoodInHeld t=false∧P.eqGuardType P.depth t=false:=by
 rcases hD.ty t with g | ⟨_,g⟩
 ·rw [h] at g; cases g
 ·rw [h] at g; exact g
theorem run_size {t:TypeId} (h:((D t).k matches .none)=false) (w:World):(sizeOf t).run P w=.ok (D t).size w:=by
 obtain ⟨i,z,hi,hs,_⟩:=ty_info hD h
 simp [sizeOf,typeInfo,hi,hs]
theorem run_isAgg {t:TypeId} (h:((D t).k matches .none)=false) (w:World):(isAgg t).run P w=.ok (D t).agg w:=by
 unfold TD.agg
 cases hk:(D t).k with
 | none=>rw [hk] at h; cases h
 | int q=>simp [isAgg,run_underlying (ty_int hD hk)]
 | bool=>simp [isAgg,run_underlying (ty_bool hD hk)]
 | str=>simp [isAgg,run_underlying (ty_str hD hk)]
 | ptr=>obtain ⟨e,he⟩:=ty_ptr hD hk; simp [isAgg,run_underlying he]
 | slc e=>simp [isAgg,run_underlying (ty_slc hD hk)]
 | fn=>obtain ⟨a,b,c,he⟩:=ty_fn hD hk; simp [isAgg,run_underlying he]
 | strct fs=>obtain ⟨fields,he,_⟩:=ty_strct hD hk; simp [isAgg,run_underlying he]
theorem load_of_part {t:TypeId} {cs:List V} {off:Nat} {k:V→Prop} (h:evPart D t cs off k) :
  ∃v,k v∧∀(G:Gh) (w:World) (b o:Nat),CellsAt G w b o cs→∃c,(Instr.loadAt t (.pointer (some ⟨b,o+off,none⟩))).run P w=.ok c w∧VR G w v c:=by
 unfold evPart at h
 have key:∀(hn:((D t).k matches .none)=false),(D t).agg=true→off+(D t).size≤cs.length→∀(G:Gh) (w:World) (b o:Nat),CellsAt G w b o cs →
   ∃c,(Instr.loadAt t (.pointer (some ⟨b,o+off,none⟩))).run P w=.ok c w∧VR G w (.agg ((cs.drop off).take (D t).size)) c:=by
  intro hn ha hle G w b o hc
  have hget:∀j,j < (D t).size→∃u v,cs[off+j]?=some v∧w.cell? ⟨b,o+(off+j),none⟩=some u∧VR G w v u∧u.oneCell'=true:=by
   intro j hj
   obtain ⟨u,hu⟩:=hc (off+j) cs[off+j] (List.getElem?_eq_getElem (by omega))
   exact ⟨u,_,List.getElem?_eq_getElem (by omega),hu⟩
  have hf:∀j,j < (D t).size→w.cell? ((⟨b,o+off,none⟩:Addr).add j)=some ((w.cell? ⟨b,o+(off+j),none⟩).getD undef):=by
   intro j hj
   obtain ⟨u,v,_,hu,_⟩:=hget j hj
   rw [addr_add,Nat.add_assoc,hu]; rfl
  refine ⟨.agg ((List.range (D t).size).map fun j=>(w.cell? ⟨b,o+(off+j),none⟩).getD undef).toArray,?_,.agg ?_ ?_ ?_⟩
  ·simp only [Instr.loadAt,Instr.sureAddr,loadVar,Sem.run_bind,Sem.run_pure,Result.andThen_ok,run_isAgg hD hn,ha,if_true,run_size hD hn,run_loadCells w _ _ _ hf]
  ·simp; omega
  ·intro i v u hv hu
   rw [List.getElem?_take] at hv
   split at hv
   ·rename_i hi
    obtain ⟨u',v',hv',hu',hr,_⟩:=hget i hi
    rw [List.getElem?_drop,hv'] at hv
    cases hv
    simp [hi,hu'] at hu
    rw [←hu]; exact hr
   ·cases hv
  ·intro u hu
   simp at hu
   obtain ⟨j,hj,rfl⟩:=hu
   obtain ⟨u',v',_,hu',_,ho⟩:=hget j hj
   rw [hu']; exact ho
 have key2:∀(hn:((D t).k matches .none)=false) (ha:(D t).agg=false) (v:V),cs[off]?=some v→∀(G:Gh) (w:World) (b o:Nat),CellsAt G w b o cs →
   ∃c,(Instr.loadAt t (.pointer (some ⟨b,o+off,none⟩))).run P w=.ok c w∧VR G w v c:=by
  intro hn ha v hv G w b o hc
  obtain ⟨u,hu,hr,_⟩:=hc off v hv
  exact ⟨u,by simp [Instr.loadAt,Instr.sureAddr,loadVar,run_isAgg hD hn,ha,hu],hr⟩
 cases hk:(D t).k with
 | none=>simp [hk] at h
 | strct fs =>
  simp only [hk] at h
  exact ⟨_,h.2,key (by simp [hk]) (by simp [TD.agg,hk]) h.1⟩
 | _ =>
  simp only [hk] at h
  split at h
  ·rename_i v hv
   exact ⟨v,h,key2 (by simp [hk]) (by simp [TD.agg,hk]) v hv⟩
  ·exact h.elim
omit hD in
theorem cells_of_blk {G:Gh} {w:World} {S:List Blk} (hR:Rel G w S) {b sz:Nat} {cs:List V} (hS:S[b]?=some (.cells sz cs)) (hk:G.ok b=true):CellsAt G w (G.blk b) 0 cs:=by
 intro i v hv
 obtain ⟨arr,ty,h1,h2,h3,h4,h5,h6⟩:=hR.live b _ hS rfl hk
 have hlt:i < cs.length:=by
  rcases Nat.lt_or_ge i cs.length with g | g
  ·exact g
  ·rw [List.getElem?_eq_none g] at hv; cases hv
 have hu:arr[i]?=some arr[i]:=Array.getElem?_eq_getElem (by omega)
 refine ⟨arr[i],?_,h6 i v _ hv hu⟩
 rw [cell_blk h1,Nat.zero_add]; exact hu
omit hD in
theorem cells_of_eptr {G:Gh} {w:World} {b o:Nat} {cs:List V} {vs:List Value} (hl:cs.length=vs.length)
  (hv:∀(i:Nat) (v:V) (u:Value),cs[i]?=some v→vs[i]?=some u→VR G w v u) (ho:∀u ∈ vs,u.oneCell'=true) (hh:Held w b o vs):CellsAt G w b o cs:=by
 intro i v hi
 have hlt:i < vs.length:=by
  rcases Nat.lt_or_ge i cs.length with g | g
  ·omega
  ·rw [List.getElem?_eq_none g] at hi; cases hi
 exact ⟨vs[i],hh i _ (List.getElem?_eq_getElem hlt),hv i v _ hi (List.getElem?_eq_getElem hlt),ho _ (List.getElem_mem _)⟩
theorem ev_load {o:Oper} {t:TypeId} {x:Operand} (ho:o.op=.load t x) {ρ:Operand→V} {S:List Blk} {k:V→Prop} (h:evLoad D t (ρ x) S k):∃v,k v∧RunOk P o ρ S v S:=by
 unfold evLoad at h
 cases hx:ρ x <;> simp only [hx] at h
 case ptr b off =>
  split at h
  ·rename_i sz cs hS
   obtain ⟨v,hkv,hv⟩:=load_of_part hD h
   refine ⟨v,hkv,?_⟩
   intro G ev w hop hR
   have h1:=hop x (by simp [ho,Op.operands])
   rw [hx] at h1
   generalize hc:ev x=c at h1
   cases h1 with
   | ptr hb hk =>
    obtain ⟨u,hr,hvr⟩:=hv G w (G.blk b) 0 (cells_of_blk hR hS hk)
    rw [Nat.zero_add] at hr
    exact ⟨u,w,G,.inl (by simp [execOp,ho,hc,hr]),hvr,hR,Evol.refl _ _ _⟩
  ·exact h.elim
 case eptr e off =>
  obtain ⟨v,hkv,hv⟩:=load_of_part hD h.2
  refine ⟨v,hkv,?_⟩
  intro G ev w hop hR
  have h1:=hop x (by simp [ho,Op.operands])
  rw [hx] at h1
  generalize hc:ev x=c at h1
  cases h1 with
  | eptr vs hl hv' ho' hh hp =>
   obtain ⟨u,hr,hvr⟩:=hv G w _ _ (cells_of_eptr hl hv' ho' hh)
   exact ⟨u,w,G,.inl (by simp [execOp,ho,hc,hr]),hvr,hR,Evol.refl _ _ _⟩
 all_goals exact h.elim
end
section
variable {P:Program} {D:Nat→TD}
theorem ev_move {o:Oper} {x:Operand} (ho:o.op=.move x∨o.op=.assign x) (ρ:Operand→V):PureOk P o ρ (ρ x):=by
 intro G ev w hop
 rcases ho with ho | ho
 ·exact ⟨ev x,by simp [execOp,ho],hop x (by simp [ho,Op.operands])⟩
 ·exact ⟨ev x,by simp [execOp,ho],hop x (by simp [ho,Op.operands])⟩
theorem ev_pick {o:Oper} {c x y:Operand} (ho:o.op=.pick c x y) (ρ:Operand→V) (t:Bool) (hc:ρ c=.bool t):PureOk P o ρ (if t then ρ x else ρ y):=by
 intro G ev w hop
 have h1:=hop c (by simp [ho,Op.operands])
 have h2:=hop x (by simp [ho,Op.operands])
 have h3:=hop y (by simp [ho,Op.operands])
 rw [hc] at h1
 generalize hcc:ev c=cc at h1
 cases h1
 cases t
 ·exact ⟨ev y,by simp [execOp,ho,hcc,asBool],h3⟩
 ·exact ⟨ev x,by simp [execOp,ho,hcc,asBool],h2⟩
theorem ev_un {o:Oper} {op:UnOp} {t:TypeId} {x:Operand} (ho:o.op=.unOp op t x) {ρ:Operand→V} {k:V→Prop} (h:evUn op (ρ x) k):∃v,k v∧PureOk P o ρ v:=by
 unfold evUn at h
 split at h
 ·rename_i b hx
  refine ⟨_,h,fun G ev w hop=>?_⟩
  have h1:=hop x (by simp [ho,Op.operands])
  rw [hx] at h1
  generalize hc:ev x=c at h1
  cases h1
  exact ⟨.bool (!b),by simp [execOp,ho,hc,Op.unary],.bool _⟩
 ·rename_i a n hx
  refine ⟨_,h,fun G ev w hop=>?_⟩
  have h1:=hop x (by simp [ho,Op.operands])
  rw [hx] at h1
  generalize hc:ev x=c at h1
  cases h1
  exact ⟨.int a (a.wrap (0 - n)),by simp [execOp,ho,hc,Op.unary,Op.intArith],.int _ _⟩
 ·exact h.elim
theorem ev_extract {o:Oper} {x:Operand} {i:Nat} (ho:o.op=.extract x i) {ρ:Operand→V} {k:V→Prop} (h:evExtract (ρ x) i k):∃v,k v∧PureOk P o ρ v:=by
 unfold evExtract at h
 split at h
 ·rename_i vs hx
  split at h
  ·rename_i v hv
   refine ⟨v,h,fun G ev w hop=>?_⟩
   have h1:=hop x (by simp [ho,Op.operands])
   rw [hx] at h1
   generalize hc:ev x=c at h1
   cases h1 with
   | tup hl hr =>
    rename_i c
    have hlt:i < c.size:=by
     rcases Nat.lt_or_ge i vs.length with g | g
     ·omega
     ·rw [List.getElem?_eq_none g] at hv; cases hv
    have hci:c[i]?=some c[i]:=Array.getElem?_eq_getElem hlt
    exact ⟨c[i],by simp [execOp,ho,hc,Instr.extract,hlt],hr i v _ hv hci⟩
  ·exact h.elim
 ·exact h.elim
theorem ev_nil {o:Oper} {x:Operand} (ho:o.op=.nilCheck x) {ρ:Operand→V} {k:V→Prop} (h:evNil (ρ x) k):∃v,k v∧PureOk P o ρ v:=by
 unfold evNil at h
 split at h
 ·rename_i b of hx
  refine ⟨_,h,fun G ev w hop=>?_⟩
  have h1:=hop x (by simp [ho,Op.operands])
  rw [hx] at h1
  generalize hc:ev x=c at h1
  cases h1 with
  | ptr hb hk=>exact ⟨_,by simp [execOp,ho,hc],.ptr hb hk⟩
 ·rename_i e of hx
  refine ⟨_,h,fun G ev w hop=>?_⟩
  have h1:=hop x (by simp [ho,Op.operands])
  rw [hx] at h1
  generalize hc:ev x=c at h1
  cases h1 with
  | eptr vs hl hv' ho' hh hp=>exact ⟨_,by simp [execOp,ho,hc],.eptr vs hl hv' ho' hh hp⟩
 ·rename_i f cap hx
  refine ⟨_,h,fun G ev w hop=>?_⟩
  have h1:=hop x (by simp [ho,Op.operands])
  rw [hx] at h1
  generalize hc:ev x=c at h1
  cases h1 with
  | fn hl hr=>exact ⟨_,by simp [execOp,ho,hc],.fn hl hr⟩
 ·exact h.elim
theorem ev_makeFunc {o:Oper} {fn:Fn} {first captured:Array Operand} (ho:o.op=.makeFunc fn first captured) {ρ:Operand→V} {k:V→Prop}
  (h:evMakeFunc fn (first.toList.map ρ) (captured.toList.map ρ) k):∃v,k v∧PureOk P o ρ v:=by
 unfold evMakeFunc at h
 split at h
 ·rename_i f hf
  refine ⟨_,h,fun G ev w hop=>?_⟩
  have hfirst:first=#[]:=by
   have:first.toList=[]:=by simpa using hf
   simpa using congrArg List.toArray this
  subst hfirst
  refine ⟨.func (.func f) #[] (captured.map ev),by simp [execOp,ho,Instr.makeFunc],.fn (by simp) ?_⟩
  intro i v u hv hu
  simp at hv hu
  obtain ⟨x,hx,rfl⟩:=hv
  rw [hx] at hu
  simp at hu
  subst hu
  exact hop x (by simp [ho,Op.operands]; exact Array.mem_of_getElem? hx)
 ·exact h.elim
end
end
end Go.Proofs.Ytldogccmhncnoaa
