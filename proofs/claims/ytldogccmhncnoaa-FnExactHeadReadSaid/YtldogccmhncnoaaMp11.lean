/- A part of the proof: contracts of functions, or plain facts on which these lean. -/
import Derived.IntWalk
import Derived.Test.YtldogccmhncnoaaMp10
namespace Go.Proofs.Ytldogccmhncnoaa
open Go
set_option linter.unusedVariables false
set_option linter.unusedSimpArgs false
set_option maxRecDepth 100000
set_option maxHeartbeats 16000000

section
open Go
section
variable {P:Program} {D:Nat→TD} {pf:Option FuncId→Bool} (ρ:Operand→V) (S:List Blk) (k:V→List Blk→Prop) (q:V→Prop) (x y z c a b:Operand) (t u e n m i d:Nat) (v w:V) (cs ds xs:List V) (s r:List UInt8) (X Y:Int) (K L:IntKind) (B:Bool) (tok:Option Nat)
 (j J:Nat) (hist:List (List Blk)) (pend:List (Nat × Nat)) (h4:HK) (tt:Nat→V) (full os:List Oper) (kt:(Nat→V)→List Blk→Prop) (o:Op) (dst:Option Nat) (js:List Nat)
theorem ev_1:evOp P D (.move x) ρ S k=k (ρ x) S:=by simp only [evOp]
theorem ev_2:evOp P D (.assign x) ρ S k=k (ρ x) S:=by simp only [evOp]
def pickK (v:V) (p r:Prop):Prop:=match v with | .bool t=>guardK t true p r | _=>False
theorem ev_3:evOp P D (.pick c a b) ρ S k=pickK (ρ c) (k (ρ a) S) (k (ρ b) S):=by simp only [evOp,pickK]; rfl
theorem pickK_b (p r:Prop):pickK (.bool B) p r=guardK B true p r:=by simp only [pickK]
@[congr] theorem pickK_congr {v v':V} {p r:Prop} (h:v=v'):pickK v p r=pickK v' p r:=by rw [h]
theorem ev_4:evOp P D (.alloc t) ρ S k=(((D t).k matches .none)=false∧(D t).zero.all V.one=true∧k (.ptr S.length 0) (S++[.cells (if (D t).bld then 1000000 * (t+1) else 0) (D t).zero])):=by simp only [evOp]; rfl
theorem ev_5:evOp P D (.box t x) ρ S k=((ρ x).cells.all V.one=true∧k (.ptr S.length 0) (S++[.cells 0 (ρ x).cells])):=by simp only [evOp]
def pairOf (ρ:Operand→V) (p:Nat × Operand):Nat × V:=(p.1,ρ p.2)
theorem pairOf_eq:pairOf ρ (n,x)=(n,ρ x):=rfl
theorem ev_6 (ps:Array (Nat × Operand)):evOp P D (.build t ps) ρ S k=evBuild D t (ps.toList.map (pairOf ρ)) (atS k S):=by simp only [evOp]; rfl
theorem ev_7 (ps:Array (Nat × Operand)):evOp P D (.buildSlice t n ps) ρ S k=evBuildSlice D t n (ps.toList.map (pairOf ρ)) S k:=by simp only [evOp]; rfl
theorem ev_8:evOp P D (.load t x) ρ S k=evLoad D t (ρ x) S (atS k S):=by simp only [evOp]
theorem ev_9:evOp P D (.store t a x) ρ S k=evStore D t (ρ a) (ρ x) S (k .junk):=by simp only [evOp]
theorem ev_10:evOp P D (.nilCheck x) ρ S k=evNil (ρ x) (atS k S):=by simp only [evOp]
theorem ev_11 (op:BinOp):evOp P D (.binOp op t x y u) ρ S k=evBin D op t (ρ x) (ρ y) (atS k S):=by simp only [evOp]
theorem ev_12 (op:UnOp):evOp P D (.unOp op t x) ρ S k=evUn op (ρ x) (atS k S):=by simp only [evOp]
theorem ev_13:evOp P D (.convert t u x) ρ S k=evConvS P D t u (ρ x) S k:=by simp only [evOp]
theorem ev_14 (f:Fn) (p r:Array Operand):evOp P D (.makeFunc f p r) ρ S k=evMakeFunc f (p.toList.map ρ) (r.toList.map ρ) (atS k S):=by simp only [evOp]
theorem ev_15:evOp P D (.makeSlice t x y) ρ S k=evMakeSlice D t (ρ x) (ρ y) S k:=by simp only [evOp]
theorem ev_16 (lo hi:Option Operand):evOp P D (.slice t x lo hi none) ρ S k=evSlice D t (ρ x) (lo.map ρ) (hi.map ρ) (atS k S):=by simp only [evOp]
theorem ev_17:evOp P D (.fieldAddr t x n) ρ S k=evFieldAddr D t (ρ x) n (atS k S):=by simp only [evOp]
theorem ev_18:evOp P D (.field t x n) ρ S k=evField D t (ρ x) n (atS k S):=by simp only [evOp]
theorem ev_19:evOp P D (.indexAddr t x y) ρ S k=evIndexAddr D t (ρ x) (ρ y) (atS k S):=by simp only [evOp]
theorem ev_20:evOp P D (.index t x y) ρ S k=evIndex D t (ρ x) (ρ y) (atS k S):=by simp only [evOp]
theorem ev_21:evOp P D (.extract x n) ρ S k=evExtract (ρ x) n (atS k S):=by simp only [evOp]
theorem ev_22 (asV:Array Operand) (ts:Array TypeId):evOp P D (.call { callee:=.value x,args:=asV,argTypes:=ts }) ρ S k=evFn P (ρ x) (asV.toList.map ρ) S k:=by simp only [evOp]
theorem ev_23 (bb:Builtin) (asV:Array Operand) (ts:Array TypeId):evOp P D (.call { callee:=.builtin bb,args:=asV,argTypes:=ts }) ρ S k=evBuiltin P D bb ts.toList (asV.toList.map ρ) S k:=by simp only [evOp]
attribute [push_cast] ev_1 ev_2 ev_3 pickK_b ev_4 ev_5 pairOf_eq ev_6 ev_7 ev_8 ev_9 ev_10 ev_11 ev_12 ev_13 ev_14 ev_15 ev_16 ev_17 ev_18 ev_19 ev_20 ev_21 ev_22 ev_23
@[push_cast] theorem cV_int:constV (.int K X)=.int K X:=rfl
@[push_cast] theorem cV_bool:constV (.bool B)=.bool B:=rfl
@[push_cast] theorem cV_str (s:ByteArray):constV (.string s)=.str s.data.toList:=rfl
@[push_cast] theorem cV_nils:constV (.slice none 0 0)=.nils:=rfl
@[push_cast] theorem cV_nilp:constV (.pointer none)=.nilp:=rfl
@[push_cast] theorem cV_agg (cs:Array Value):constV (.agg cs)=if cs.toList.all Value.oneCell' then .agg (cs.toList.map constC) else .junk:=rfl
@[push_cast] theorem cC_int:constC (.int K X)=.int K X:=rfl
@[push_cast] theorem cC_bool:constC (.bool B)=.bool B:=rfl
@[push_cast] theorem cC_str (s:ByteArray):constC (.string s)=.str s.data.toList:=rfl
@[push_cast] theorem cC_nils:constC (.slice none 0 0)=.nils:=rfl
@[push_cast] theorem cC_nilp:constC (.pointer none)=.nilp:=rfl
@[push_cast] theorem b_1:evBin D .add t (.int K X) (.int L Y) q=(K=L∧q (.int K (K.wrap (X+Y)))):=by simp only [evBin]
@[push_cast] theorem b_2:evBin D .sub t (.int K X) (.int L Y) q=(K=L∧q (.int K (K.wrap (X - Y)))):=by simp only [evBin]
@[push_cast] theorem b_3:evBin D .mul t (.int K X) (.int L Y) q=(K=L∧q (.int K (K.wrap (X * Y)))):=by simp only [evBin]
@[push_cast] theorem b_4:evBin D .quo t (.int K X) (.int L Y) q=(K=L∧Y≠0∧q (.int K (K.wrap (X.tdiv Y)))):=by simp only [evBin]
@[push_cast] theorem b_5:evBin D .rem t (.int K X) (.int L Y) q=(K=L∧Y≠0∧q (.int K (X.tmod Y))):=by simp only [evBin]
@[push_cast] theorem b_6:evBin D .and t (.int K X) (.int L Y) q=(K=L∧q (.int K (intBits .and K X Y))):=by simp only [evBin]
@[push_cast] theorem b_7:evBin D .or t (.int K X) (.int L Y) q=(K=L∧q (.int K (intBits .or K X Y))):=by simp only [evBin]
@[push_cast] theorem b_8:evBin D .xor t (.int K X) (.int L Y) q=(K=L∧q (.int K (intBits .xor K X Y))):=by simp only [evBin]
@[push_cast] theorem b_9:evBin D .andNot t (.int K X) (.int L Y) q=(K=L∧q (.int K (intBits .andNot K X Y))):=by simp only [evBin]
@[push_cast] theorem b_10:evBin D .shl t (.int K X) (.int L Y) q=(0≤Y∧q (.int K (K.wrap (X * 2 ^ min Y.toNat K.bits)))):=by simp only [evBin]
@[push_cast] theorem b_11:evBin D .shr t (.int K X) (.int L Y) q=(0≤Y∧q (.int K (X.fdiv (2 ^ min Y.toNat K.bits)))):=by simp only [evBin]
@[push_cast] theorem b_12:evBin D .eql t (.int K X) (.int L Y) q=(K=L∧q (.bool (decide (X=Y)))):=by simp only [evBin]
@[push_cast] theorem b_13:evBin D .neq t (.int K X) (.int L Y) q=(K=L∧q (.bool (!decide (X=Y)))):=by simp only [evBin]
@[push_cast] theorem b_14:evBin D .lss t (.int K X) (.int L Y) q=(K=L∧q (.bool (decide (X < Y)))):=by simp only [evBin]
@[push_cast] theorem b_15:evBin D .leq t (.int K X) (.int L Y) q=(K=L∧q (.bool (decide (X≤Y)))):=by simp only [evBin]
@[push_cast] theorem b_16:evBin D .gtr t (.int K X) (.int L Y) q=(K=L∧q (.bool (decide (Y < X)))):=by simp only [evBin,GT.gt]
@[push_cast] theorem b_17:evBin D .geq t (.int K X) (.int L Y) q=(K=L∧q (.bool (decide (Y≤X)))):=by simp only [evBin,GE.ge]
@[push_cast] theorem b_18:evBin D .add t (.str s) (.str r) q=(s.length+r.length≤4611686018427387904∧q (.str (s++r))):=by simp only [evBin]
@[push_cast] theorem b_19:evBin D .eql t (.str s) (.str r) q=q (.bool (decide (s=r))):=by simp only [evBin]
@[push_cast] theorem b_20:evBin D .neq t (.str s) (.str r) q=q (.bool (!decide (s=r))):=by simp only [evBin]
@[push_cast] theorem b_21 (B2:Bool):evBin D .eql t (.bool B) (.bool B2) q=((D t).k=.bool∧q (.bool (B == B2))):=by simp only [evBin]
@[push_cast] theorem b_22 (B2:Bool):evBin D .neq t (.bool B) (.bool B2) q=((D t).k=.bool∧q (.bool (!(B == B2)))):=by simp only [evBin]
@[push_cast] theorem b_23:evBin D .eql t (.ptr n m) .nilp q=((D t).k=.ptr∧q (.bool false)):=by simp only [evBin]
@[push_cast] theorem b_24:evBin D .neq t (.ptr n m) .nilp q=((D t).k=.ptr∧q (.bool true)):=by simp only [evBin]
@[push_cast] theorem b_25:evBin D .eql t .nilp .nilp q=((D t).k=.ptr∧q (.bool true)):=by simp only [evBin]
@[push_cast] theorem b_26:evBin D .neq t .nilp .nilp q=((D t).k=.ptr∧q (.bool false)):=by simp only [evBin]
@[push_cast] theorem b_27:evBin D .eql t (.agg cs) (.agg ds) q=evEqS D t cs ds (boolK q):=by simp only [evBin]
@[push_cast] theorem b_28:evBin D .neq t (.agg cs) (.agg ds) q=evEqS D t cs ds (nboolK q):=by simp only [evBin]
@[push_cast] theorem u_1:evUn .not (.bool B) q=q (.bool (!B)):=by simp only [evUn]
@[push_cast] theorem u_2:evUn .neg (.int K X) q=q (.int K (K.wrap (0 - X))):=by simp only [evUn]
def eqsK (kb:Bool→Prop):Option Bool→Prop
 | some b=>kb b
 | none=>False
def eqK (D:Nat→TD) (cs ds:List V) (kb:Bool→Prop):TK→Prop
 | .strct fs=>eqsK kb (eqFs D 0 fs cs ds)
 | _=>False
@[push_cast] theorem eqS_1 (kb:Bool→Prop):evEqS D t cs ds kb=eqK D cs ds kb (D t).k:=by
 simp only [evEqS]; cases (D t).k <;> rfl
@[push_cast] theorem eqK_1 (kb:Bool→Prop) (fs:List (Nat × Nat × TypeId)):eqK D cs ds kb (.strct fs)=eqsK kb (eqFs D 0 fs cs ds):=rfl
@[push_cast] theorem eqsK_1 (kb:Bool→Prop):eqsK kb (some B)=kb B:=rfl
def convK (D:Nat→TD) (src:TypeId) (x:V) (k:V→Prop) (kd:TK):Prop:=match kd,x with
 | .int a,.int _ n=>k (.int a (a.wrap n))
 | .str,.str s=>k (.str s)
 | .str,.rows _ xs=>(∃e,(D src).k=.slc e∧(D e).k=.int .u8)∧(xs.all fun v=>match v with | .int .u8 _=>true | _=>false)=true∧k (.str (xs.map byteOfV))
 | .str,.nils=>(∃e,(D src).k=.slc e∧(D e).k=.int .u8)∧k (.str [])
 | _,_=>False
@[push_cast] theorem conv_0:evConv D t u v q=(((D t).k matches .none)=false∧convK D t v q (D u).k):=rfl
@[push_cast] theorem conv_1:convK D t (.int L X) q (.int K)=q (.int K (K.wrap X)):=by simp only [convK]
@[push_cast] theorem conv_2:convK D t (.str s) q .str=q (.str s):=by simp only [convK]
@[push_cast] theorem isU8_1:isU8 (.int .u8 X)=true:=rfl
@[push_cast] theorem conv_3:convK D t (.rows tok xs) q .str=((∃e,(D t).k=.slc e∧(D e).k=.int .u8)∧xs.all isU8=true∧q (.str (xs.map byteOfV))):=by simp only [convK]; rfl
@[push_cast] theorem conv_4:convK D t .nils q .str=((∃e,(D t).k=.slc e∧(D e).k=.int .u8)∧q (.str [])):=by simp only [convK]
@[push_cast] theorem byteOf_1:byteOfV (.int K X)=UInt8.ofNat X.toNat:=rfl
def cellK (k:V→Prop):Option V→Prop
 | some v=>k v
 | none=>False
@[push_cast] theorem cellK_1:cellK q (some v)=q v:=rfl
def partK (D:Nat→TD) (t:TypeId) (cs:List V) (off:Nat) (k:V→Prop):TK→Prop
 | .none=>False
 | .strct _=>off+(D t).size≤cs.length∧k (.agg ((cs.drop off).take (D t).size))
 | _=>cellK k cs[off]?
@[push_cast] theorem part_0:evPart D t cs n q=partK D t cs n q (D t).k:=by
 simp only [evPart]; cases (D t).k <;> simp only [partK] <;> (try rfl) <;> (cases cs[n]? <;> rfl)
@[push_cast] theorem part_1 (fs:List (Nat × Nat × TypeId)):partK D t cs n q (.strct fs)=(n+(D t).size≤cs.length∧q (.agg ((cs.drop n).take (D t).size))):=by simp only [partK]
@[push_cast] theorem part_2:partK D t cs n q (.int K)=cellK q cs[n]?:=by simp only [partK]
@[push_cast] theorem part_3:partK D t cs n q .bool=cellK q cs[n]?:=by simp only [partK]
@[push_cast] theorem part_4:partK D t cs n q .str=cellK q cs[n]?:=by simp only [partK]
@[push_cast] theorem part_5:partK D t cs n q .ptr=cellK q cs[n]?:=by simp only [partK]
@[push_cast] theorem part_6:partK D t cs n q (.slc e)=cellK q cs[n]?:=by simp only [partK]
@[push_cast] theorem part_7:partK D t cs n q .fn=cellK q cs[n]?:=by simp only [partK]
def loadK (D:Nat→TD) (t off:Nat) (k:V→Prop):Option Blk→Prop
 | some (.cells _ cs)=>evPart D t cs off k
 | _=>False
@[push_cast] theorem load_1:evLoad D t (.ptr n m) S q=loadK D t m q S[n]?:=by
 simp only [evLoad]; cases S[n]? with
 | none=>rfl
 | some B=>cases B <;> rfl
@[push_cast] theorem load_2:evLoad D t (.eptr v m) S q=(v.cells.all V.one=true∧evPart D t v.cells m q):=by simp only [evLoad]
@[push_cast] theorem loadK_1:loadK D t m q (some (.cells n cs))=evPart D t cs m q:=rfl
def storeK (D:Nat→TD) (t b off:Nat) (x:V) (S:List Blk) (k:List Blk→Prop):Option Blk→Prop
 | some (.cells sz cs)=>((D t).k matches .none)=false∧x.cells.length=(D t).size∧x.cells.all V.one=true∧off+x.cells.length≤cs.length∧k (S.set b (.cells sz (splice cs off (if sz % 1000000=0 then x.cells else x.cells.map eraseC))))
 | _=>False
@[push_cast] theorem store_1 (kS:List Blk→Prop):evStore D t (.ptr n m) v S kS=storeK D t n m v S kS S[n]?:=by
 simp only [evStore]; cases S[n]? with
 | none=>rfl
 | some B=>cases B <;> rfl
@[push_cast] theorem storeK_1 (sz:Nat) (kS:List Blk→Prop):storeK D t n m v S kS (some (.cells sz cs))=(((D t).k matches .none)=false∧v.cells.length=(D t).size∧v.cells.all V.one=true∧m+v.cells.length≤cs.length∧kS (S.set n (.cells sz (splice cs m (if sz % 1000000=0 then v.cells else v.cells.map eraseC))))):=rfl
def fillK (fs:List (Nat × Nat × TypeId)) (x:V) (ps:List (Nat × V)) (cs:List V) (k:List V→Prop):Option (Nat × Nat × TypeId)→Prop
 | some (off,sz,_)=>x.cells.length=sz∧off+sz≤cs.length∧x.cells.all V.one=true∧evFill fs ps (splice cs off x.cells) k
 | none=>False
@[push_cast] theorem fill_0 (fs:List (Nat × Nat × TypeId)) (kc:List V→Prop):evFill fs [] cs kc=kc cs:=by simp only [evFill]
@[push_cast] theorem fill_1 (fs:List (Nat × Nat × TypeId)) (ps:List (Nat × V)) (kc:List V→Prop):evFill fs ((n,v) :: ps) cs kc=fillK fs v ps cs kc fs[n]?:=by
 simp only [evFill]; cases fs[n]? <;> rfl
@[push_cast] theorem fillK_1 (fs:List (Nat × Nat × TypeId)) (ps:List (Nat × V)) (kc:List V→Prop):fillK fs v ps cs kc (some (n,m,t))=(v.cells.length=m∧n+m≤cs.length∧v.cells.all V.one=true∧evFill fs ps (splice cs n v.cells) kc):=rfl
def buildK (D:Nat→TD) (t:Nat) (ps:List (Nat × V)) (k:V→Prop):TK→Prop
 | .strct fs=>(D t).zero.all V.one=true∧evFill fs ps (D t).zero (aggK k)
 | _=>False
@[push_cast] theorem build_0 (ps:List (Nat × V)):evBuild D t ps q=buildK D t ps q (D t).k:=by simp only [evBuild]; cases (D t).k <;> rfl
@[push_cast] theorem build_1 (ps:List (Nat × V)) (fs:List (Nat × Nat × TypeId)):buildK D t ps q (.strct fs)=((D t).zero.all V.one=true∧evFill fs ps (D t).zero (aggK q)):=rfl
def okPart (D:Nat→TD) (e:Nat) (x:Nat × V):Bool:=x.2.cells.length == (D e).size && x.2.cells.all V.one
def fstOf (x:Nat × V):Nat:=x.1
def erPair (x:Nat × V):V:=erase1 x.2
def erCells (x:Nat × V):List V:=x.2.cells.map eraseC
@[push_cast] theorem okPart_1:okPart D e (n,v)=(v.cells.length == (D e).size && v.cells.all V.one):=rfl
@[push_cast] theorem fstOf_1:fstOf (n,v)=n:=rfl
@[push_cast] theorem erPair_1:erPair (n,v)=erase1 v:=rfl
@[push_cast] theorem erCells_1:erCells (n,v)=v.cells.map eraseC:=rfl
def bsK (D:Nat→TD) (len:Nat) (ps:List (Nat × V)) (S:List Blk) (k:V→List Blk→Prop):TK→Prop
 | .slc e=>((D e).k matches .none)=false∧0 < (D e).size∧len * (D e).size≤16777216∧ps.map fstOf=List.range len∧ps.all (okPart D e)=true ∧
   if (D e).wr then k (.heap S.length len) (S++[.cells (D e).size ((ps.map erCells).flatten)])
   else k (.rows (some S.length) (ps.map erPair)) (S++[.right (D e).size])
 | _=>False
@[push_cast] theorem bs_0 (ps:List (Nat × V)):evBuildSlice D t n ps S k=bsK D n ps S k (D t).k:=by simp only [evBuildSlice]; cases (D t).k <;> rfl
@[push_cast] theorem bs_1 (ps:List (Nat × V)):bsK D n ps S k (.slc e)=(((D e).k matches .none)=false∧0 < (D e).size∧n * (D e).size≤16777216∧ps.map fstOf=List.range n∧ps.all (okPart D e)=true ∧
   if (D e).wr then k (.heap S.length n) (S++[.cells (D e).size ((ps.map erCells).flatten)])
   else k (.rows (some S.length) (ps.map erPair)) (S++[.right (D e).size])):=rfl
def frzK (D:Nat→TD) (len:Nat) (ps:List (Nat × V)) (k:V→Prop):TK→Prop
 | .slc e=>((D e).k matches .none)=false∧0 < (D e).size∧len * (D e).size≤16777216∧ps.map fstOf=List.range len∧ps.all (okPart D e)=true∧(D e).wr=false∧k (.rows none (ps.map erPair))
 | _=>False
@[push_cast] theorem frz_0 (ps:List (Nat × V)):evFrozen D t n ps q=frzK D n ps q (D t).k:=by simp only [evFrozen]; cases (D t).k <;> rfl
@[push_cast] theorem frz_1 (ps:List (Nat × V)):frzK D n ps q (.slc e)=(((D e).k matches .none)=false∧0 < (D e).size∧n * (D e).size≤16777216∧ps.map fstOf=List.range n∧ps.all (okPart D e)=true∧(D e).wr=false∧q (.rows none (ps.map erPair))):=rfl
def lenIs (m:Nat) (v:V):Bool:=v.cells.length == m
@[push_cast] theorem lenIs_1:lenIs m v=(v.cells.length == m):=rfl
@[push_cast] theorem ia_1:evIndexAddr D t (.rows tok xs) (.int K X) q=(0≤X∧X < xs.length∧(∃e,(D t).k=.slc e∧((D e).k matches .none)=false∧xs.all (lenIs (D e).size)=true)∧q (.eptr (xs.getD X.toNat .junk) 0)):=by simp only [evIndexAddr]; rfl
def haK (D:Nat→TD) (b:Nat) (X:Int) (k:V→Prop):TK→Prop
 | .slc e=>((D e).k matches .none)=false∧k (.ptr b (X.toNat * (D e).size))
 | _=>False
@[push_cast] theorem ia_2:evIndexAddr D t (.heap n m) (.int K X) q=(0≤X∧X < m∧haK D n X q (D t).k):=by simp only [evIndexAddr]; cases (D t).k <;> rfl
@[push_cast] theorem haK_1:haK D n X q (.slc e)=(((D e).k matches .none)=false∧q (.ptr n (X.toNat * (D e).size))):=rfl
@[push_cast] theorem ix_1:evIndex D t (.str s) (.int K X) q=((D t).k=.str∧0≤X∧X < s.length∧q (.int .u8 ((s.getD X.toNat 0).toNat:Int))):=by simp only [evIndex]
@[push_cast] theorem end_1 (kI:Int→Prop):evEnd none n kI=kI n:=by simp only [evEnd]
@[push_cast] theorem end_2 (kI:Int→Prop):evEnd (some (.int K X)) n kI=kI X:=by simp only [evEnd]
@[push_cast] theorem sl_1 (lo hi:Option V):evSlice D t (.str s) lo hi q=((D t).k=.str∧evEnd hi s.length (slcStrH s lo q)):=by simp only [evSlice]
@[push_cast] theorem sl_2 (lo hi:Option V):evSlice D t (.rows tok xs) lo hi q=((∃e,(D t).k=.slc e∧((D e).k matches .none)=false∧xs.all (lenIs (D e).size)=true)∧evEnd hi xs.length (slcRowH xs lo q)):=by simp only [evSlice]; rfl
@[push_cast] theorem sl_3 (lo hi:Option V):evSlice D t (.heap n m) lo hi q=((∃e,(D t).k=.slc e∧((D e).k matches .none)=false)∧evEnd hi m (slcHeapH n m lo q)):=by simp only [evSlice]; rfl
def faP (off:Nat) (k:V→Prop):V→Prop
 | .ptr b o=>k (.ptr b (o+off))
 | .eptr e o=>k (.eptr e (o+off))
 | _=>False
def faF (D:Nat→TD) (x:V) (k:V→Prop):Option (Nat × Nat × TypeId)→Prop
 | some (off,sz,u)=>sz≠0∧((D u).k matches .none)=false∧faP off k x
 | none=>False
def faK (D:Nat→TD) (x:V) (f:Nat) (k:V→Prop):TK→Prop
 | .strct fs=>faF D x k fs[f]?
 | _=>False
@[push_cast] theorem fa_0:evFieldAddr D t v n q=faK D v n q (D t).k:=by
 simp only [evFieldAddr]; cases (D t).k <;> simp only [faK]
 rename_i fs
 cases fs[n]? with
 | none=>rfl
 | some p=>obtain ⟨a,b,c⟩:=p; cases v <;> rfl
@[push_cast] theorem fa_1 (fs:List (Nat × Nat × TypeId)):faK D v n q (.strct fs)=faF D v q fs[n]?:=rfl
@[push_cast] theorem fa_2:faF D v q (some (n,m,t))=(m≠0∧((D t).k matches .none)=false∧faP n q v):=rfl
@[push_cast] theorem fa_3:faP i q (.ptr n m)=q (.ptr n (m+i)):=rfl
@[push_cast] theorem fa_4:faP i q (.eptr v m)=q (.eptr v (m+i)):=rfl
def flF (D:Nat→TD) (cs:List V) (k:V→Prop):Option (Nat × Nat × TypeId)→Prop
 | some (off,_,u)=>evPart D u cs off k
 | none=>False
def flK (D:Nat→TD) (cs:List V) (f:Nat) (k:V→Prop):TK→Prop
 | .strct fs=>flF D cs k fs[f]?
 | _=>False
@[push_cast] theorem fl_0:evField D t (.agg cs) n q=flK D cs n q (D t).k:=by
 simp only [evField]; cases (D t).k <;> simp only [flK]
 rename_i fs
 cases fs[n]? <;> rfl
@[push_cast] theorem fl_1 (fs:List (Nat × Nat × TypeId)):flK D cs n q (.strct fs)=flF D cs q fs[n]?:=rfl
@[push_cast] theorem fl_2:flF D cs q (some (n,m,t))=evPart D t cs n q:=rfl
@[push_cast] theorem ex_1:evExtract (.tup cs) n q=cellK q cs[n]?:=by simp only [evExtract]; cases cs[n]? <;> rfl
@[push_cast] theorem len_1:evLen D t (.str s) q=((D t).k=.str∧q (.int .i64 s.length)):=by simp only [evLen]
@[push_cast] theorem len_2:evLen D t (.rows tok xs) q=((∃e,(D t).k=.slc e)∧q (.int .i64 xs.length)):=by simp only [evLen]
@[push_cast] theorem len_3:evLen D t .nils q=((∃e,(D t).k=.slc e)∧q (.int .i64 0)):=by simp only [evLen]
@[push_cast] theorem len_4:evLen D t (.heap n m) q=((∃e,(D t).k=.slc e)∧q (.int .i64 m)):=by simp only [evLen]
def scK (n sz:Nat) (k:Nat→List V→Prop):Option Blk→Prop
 | some (.cells sz' cs)=>sz'=sz∧n * sz≤cs.length∧k n (cs.take (n * sz))
 | _=>False
@[push_cast] theorem sc_1 (kc:Nat→List V→Prop):srcCells .nils i S kc=kc 0 []:=by simp only [srcCells]
@[push_cast] theorem sc_2 (kc:Nat→List V→Prop):srcCells (.heap n m) i S kc=scK m i kc S[n]?:=by
 simp only [srcCells]; cases S[n]? with
 | none=>rfl
 | some B=>cases B <;> rfl
@[push_cast] theorem sc_3 (kc:Nat→List V→Prop):srcCells (.rows tok xs) i S kc=(xs.all (lenIs i)=true∧kc xs.length (xs.flatMap V.cells)):=by simp only [srcCells]; rfl
@[push_cast] theorem scK_1 (kc:Nat→List V→Prop):scK n i kc (some (.cells m cs))=(m=i∧n * i≤cs.length∧kc n (cs.take (n * i))):=rfl
def u8V (b:UInt8):V:=.int .u8 (b.toNat:Int)
@[push_cast] theorem sr_1 (kl:List V→Prop):srcRows D e .nils kl=kl []:=by simp only [srcRows]
@[push_cast] theorem sr_2 (kl:List V→Prop):srcRows D e (.rows tok xs) kl=kl xs:=by simp only [srcRows]
@[push_cast] theorem sr_3 (kl:List V→Prop):srcRows D e (.str s) kl=((D e).k=.int .u8∧kl (s.map u8V)):=by simp only [srcRows]; rfl
def slOrStr:TK→Bool | .slc _ | .str=>true | _=>false
@[push_cast] theorem slOrStr_1:slOrStr (.slc e)=true:=rfl
@[push_cast] theorem slOrStr_2:slOrStr .str=true:=rfl
def apK (D:Nat→TD) (u:Nat) (s x:V) (S:List Blk) (k:V→List Blk→Prop):TK→Prop
 | .slc e=>((D e).k matches .none)=false∧0 < (D e).size∧(D e).bytes≤4096∧slOrStr (D u).k=true ∧
  if (D e).wr then appW D e s x S k
  else srcRows D e x (appRows D e s S k)
 | _=>False
@[push_cast] theorem ap_0:evAppend D t u v w S k=apK D u v w S k (D t).k:=by
 simp only [evAppend]; cases (D t).k <;> rfl
@[push_cast] theorem ap_1:apK D u v w S k (.slc e)=(((D e).k matches .none)=false∧0 < (D e).size∧(D e).bytes≤4096∧slOrStr (D u).k=true ∧
  if (D e).wr then appW D e v w S k else srcRows D e w (appRows D e v S k)):=rfl
@[push_cast] theorem mkE_eq:mkE D e=if (D e).bld then 1000000 * (e+1)+(D e).size else (D e).size:=rfl
@[push_cast] theorem aw_1:appW D e v (.heap n m) S k=srcCells (.heap n m) (D e).size S (appCells D e v (.heap n m) S k):=by simp only [appW]
@[push_cast] theorem aw_2:appW D e v .nils S k=srcCells .nils (D e).size S (appCells D e v .nils S k):=by simp only [appW]
@[push_cast] theorem aw_3:appW D e v (.rows tok xs) S k=srcCells (.rows tok xs) (D e).size S (appCells D e v (.rows tok xs) S k):=by simp only [appW]
@[push_cast] theorem aw_4:appW D e v (.str s) S k=appStr D e v s S k:=by simp only [appW]
@[push_cast] theorem as_1:appStr D e .nils s S k=((D e).k=.int .u8∧(D e).size=1∧(s=[]→k .nils S)∧(s≠[]→appCells D e .nils (.str s) S k s.length (u8s s))):=by simp only [appStr]
@[push_cast] theorem as_2:appStr D e (.heap n m) s S k=((D e).k=.int .u8∧(D e).size=1∧appCells D e (.heap n m) (.str s) S k s.length (u8s s)):=by simp only [appStr]
@[push_cast] theorem cs_1:evConvS P D t u (.int K X) S k=evConv D t u (.int K X) (atS k S):=by simp only [evConvS]
@[push_cast] theorem cs_2:evConvS P D t u (.rows tok xs) S k=evConv D t u (.rows tok xs) (atS k S):=by simp only [evConvS]
@[push_cast] theorem cs_3:evConvS P D t u .nils S k=evConv D t u .nils (atS k S):=by simp only [evConvS]
@[push_cast] theorem cs_4:evConvS P D t u (.str s) S k=convStr D t u s S k (D u).k:=by simp only [evConvS]
@[push_cast] theorem cs_5:evConvS P D t u (.heap n m) S k=convHeap D t u m (atS k S) S[n]?:=by simp only [evConvS]
@[push_cast] theorem cs_6:evConvS P D t u (.ptr n m) S k=convPtr P t u n m (atS k S) S[n]?:=by simp only [evConvS]
@[push_cast] theorem cst_1:convStr D t u s S k .str=evConv D t u (.str s) (atS k S):=by simp only [convStr]
@[push_cast] theorem cst_2:convStr D t u s S k (.slc e)=((D t).k=.str∧(D e).k=.int .u8∧(D e).wr=true∧k (.heap S.length s.length) (S++[.cells (1000000 * (e+1)+1) (u8s s)])):=by simp only [convStr]
@[push_cast] theorem ch_1:convHeap D t u n q (some (.cells m cs))=((D u).k=.str∧(∃e,(D t).k=.slc e∧(D e).k=.int .u8)∧n≤cs.length∧(cs.take n).all isU8=true∧q (.str ((cs.take n).map byteOfV))):=by simp only [convHeap]
@[push_cast] theorem cp_1:convPtr P t u n m q (some (.cells i cs))=(m=0∧1000000≤i∧ConvPtr P t u (i / 1000000 - 1) cs.length∧q (.ptr n 0)):=by simp only [convPtr]
@[push_cast] theorem bu_6 (ts:List TypeId):evBuiltin P D .unsafeSliceData ts [v] S k=evData v (atS k S):=by simp only [evBuiltin]
@[push_cast] theorem bu_7:evBuiltin P D .unsafeString [t,u] [v,w] S k=evUStr P t v w S k:=by simp only [evBuiltin]
@[push_cast] theorem da_1:evData .nils q=q .nilp:=by simp only [evData]
@[push_cast] theorem da_2:evData (.heap n m) q=(1≤m∧q (.ptr n 0)):=by simp only [evData]
@[push_cast] theorem us_1:evUStr P t .nilp (.int K X) S k=(X=0∧K=.i64∧k (.str []) S):=by simp only [evUStr]
@[push_cast] theorem us_2:evUStr P t (.ptr n m) (.int K X) S k=(m=0∧K=.i64∧0≤X∧ustrB P t n X.toNat S k S[n]?):=by simp only [evUStr]
@[push_cast] theorem us_3:ustrB P t n m S k (some (.cells i cs))=(1000000≤i∧RowPtr P t (i / 1000000 - 1)∧1≤m∧m≤cs.length∧m≤9223372036854775807∧(cs.take m).all isB8=true∧k (.str ((cs.take m).map byteOfV)) (S.set n .dead)):=by simp only [ustrB]
@[push_cast] theorem b_29 (n' m':Nat):evBin D .neq t (.ptr n m) (.ptr n' m') q=((D t).bld=true∧(D t).k=.ptr∧n=n'∧m=m'∧q (.bool false)):=by simp only [evBin]
@[push_cast] theorem mi_1:evMin (.int K X) (.int L Y) q=q (.int K (if Y < X then Y else X)):=by simp only [evMin]
@[push_cast] theorem ma_1:evMax (.int K X) (.int L Y) q=q (.int K (if Y > X then Y else X)):=by simp only [evMax]
@[push_cast] theorem fn_1 (f:FuncId):evFn P (.fn f cs) ds S k=VCall P f (eraseArgs (ds++cs)) S k:=by simp only [evFn]
@[push_cast] theorem ea_0:eraseArgs []=[]:=rfl
@[push_cast] theorem ea_1:eraseArgs [v]=[erase1 v]:=by cases v <;> rfl
@[push_cast] theorem ea_3 (v1 v2 v3:V):eraseArgs (v1 :: v2 :: v3 :: cs)=(v1 :: v2 :: v3 :: cs).map erase1:=by cases v1 <;> first | rfl | (cases v2 <;> rfl)
@[push_cast] theorem ea_n (n:Int):eraseArgs [.nils,.int K n]=[.nils,.int K n]:=rfl
@[push_cast] theorem ea_int (n:Int):eraseArgs [.int K n,v]=[.int K n,erase1 v]:=rfl
@[push_cast] theorem ea_bool (b:Bool):eraseArgs [.bool b,v]=[.bool b,erase1 v]:=rfl
@[push_cast] theorem ea_str (s:List UInt8):eraseArgs [.str s,v]=[.str s,erase1 v]:=rfl
@[push_cast] theorem ea_agg (cs:List V):eraseArgs [.agg cs,v]=[erase1 (.agg cs),erase1 v]:=rfl
@[push_cast] theorem ea_rows (xs:List V) (tok:Option Nat):eraseArgs [.rows tok xs,v]=[.rows none xs,erase1 v]:=rfl
@[push_cast] theorem ea_heap (b n:Nat):eraseArgs [.heap b n,v]=[.heap b n,erase1 v]:=rfl
@[push_cast] theorem ea_ptr (b n:Nat):eraseArgs [.ptr b n,v]=[.ptr b n,erase1 v]:=rfl
@[push_cast] theorem ea_eptr (x:V) (n:Nat):eraseArgs [.eptr x n,v]=[.eptr x n,erase1 v]:=rfl
@[push_cast] theorem ea_nilp:eraseArgs [.nilp,v]=[.nilp,erase1 v]:=rfl
@[push_cast] theorem ea_nn:eraseArgs [.nils,.nils]=[.rows none [],.rows none []]:=rfl
@[push_cast] theorem ea_nr (xs:List V) (tok:Option Nat):eraseArgs [.nils,.rows tok xs]=[.rows none [],.rows none xs]:=rfl
@[push_cast] theorem ea_nf (f:FuncId) (cs:List V):eraseArgs [.nils,.fn f cs]=[.rows none [],.fn f cs]:=rfl
@[push_cast] theorem pu_1 (f:FuncId):evPure P (.fn f cs) ds q=PCall P f (eraseArgs (ds++cs)) q:=by simp only [evPure]
@[push_cast] theorem bu_1 (ts:List TypeId):evBuiltin P D .len (t :: ts) [v] S k=evLen D t v (atS k S):=by simp only [evBuiltin]
@[push_cast] theorem bu_2:evBuiltin P D .append [t,u] [v,w] S k=evAppend D t u v w S k:=by simp only [evBuiltin]
@[push_cast] theorem bu_3 (ts:List TypeId):evBuiltin P D .min ts [v,w] S k=evMin v w (atS k S):=by simp only [evBuiltin]
@[push_cast] theorem bu_4 (ts:List TypeId) (z:V):evBuiltin P D .min ts [v,w,z] S k=evMin v w (minK z (atS k S)):=by simp only [evBuiltin]
@[push_cast] theorem bu_5 (ts:List TypeId):evBuiltin P D .max ts [v,w] S k=evMax v w (atS k S):=by simp only [evBuiltin]
@[push_cast] theorem mf_1 (f:FuncId):evMakeFunc (.func f) [] cs q=q (.fn f cs):=by simp only [evMakeFunc]
@[push_cast] theorem ni_1:evNil (.ptr n m) q=q (.ptr n m):=by simp only [evNil]
@[push_cast] theorem ni_2:evNil (.eptr v m) q=q (.eptr v m):=by simp only [evNil]
@[push_cast] theorem ni_3 (f:FuncId):evNil (.fn f cs) q=q (.fn f cs):=by simp only [evNil]
def msK (D:Nat→TD) (X Y:Int) (S:List Blk) (k:V→List Blk→Prop):TK→Prop
 | .slc e=>X=Y∧0≤X∧X≤1073741824∧((D e).k matches .none)=false∧0 < (D e).size∧(D e).bytes≤4096∧(D e).wr=true∧k (.heap S.length X.toNat) (S++[.cells (D e).size (List.replicate X.toNat (D e).zero).flatten])
 | _=>False
@[push_cast] theorem ms_0:evMakeSlice D t (.int K X) (.int L Y) S k=msK D X Y S k (D t).k:=by simp only [evMakeSlice]; cases (D t).k <;> rfl
@[push_cast] theorem ms_1:msK D X Y S k (.slc e)=(X=Y∧0≤X∧X≤1073741824∧((D e).k matches .none)=false∧0 < (D e).size∧(D e).bytes≤4096∧(D e).wr=true∧k (.heap S.length X.toNat) (S++[.cells (D e).size (List.replicate X.toNat (D e).zero).flatten])):=rfl
@[push_cast] theorem ga_1 (W:Bool):guardAt P D full os o dst W tt S kt (some n)=guardOps P D full os o dst n W tt S kt (tt n):=rfl
@[push_cast] theorem go_1 (W:Bool):guardOps P D full os o dst n W tt S kt (.bool B)=guardK B W (evOp P D o (evalT (putT tt (some n) (.bool W))) S (stepK P D full os (putT tt (some n) (.bool W)) dst kt)) (evOps P D full os (putT (putT tt (some n) (.bool (!W))) dst (.tup [])) S kt):=rfl
@[push_cast] theorem go_2 (W:Bool):guardOps P D full os o dst n W tt S kt (.tup [])=evOps P D full os (putT tt dst (.tup [])) S kt:=rfl
@[push_cast] theorem gda_1 (W:Bool):guardDrawAt P D pf full os o dst W j js tt S hist pend kt (some n)=guardDraw P D pf full os o dst n W j js tt S hist pend kt (tt n):=rfl
@[push_cast] theorem gd_1 (W:Bool):guardDraw P D pf full os o dst n W j js tt S hist pend kt (.bool B)=guardK B W (evDrawOp P D pf o (evalT (putT tt (some n) (.bool W))) j (js.headD 0) S hist pend (drawK P D pf full os j js.tail (putT tt (some n) (.bool W)) dst kt))
   (evDraw P D pf full os (j+1) js.tail (putT (putT tt (some n) (.bool (!W))) dst (.tup [])) S hist pend kt):=rfl
@[push_cast] theorem gd_2 (W:Bool):guardDraw P D pf full os o dst n W j js tt S hist pend kt (.tup [])=evDraw P D pf full os (j+1) js.tail (putT tt dst (.tup [])) S hist pend kt:=rfl
@[congr] theorem guardOps_congr {W:Bool} {v v':V} (h:v=v'):guardOps P D full os o dst n W tt S kt v=guardOps P D full os o dst n W tt S kt v':=by rw [h]
@[congr] theorem guardDraw_congr {W:Bool} {v v':V} (h:v=v'):guardDraw P D pf full os o dst n W j js tt S hist pend kt v=guardDraw P D pf full os o dst n W j js tt S hist pend kt v':=by rw [h]
@[congr] theorem guardK_congr {b b' W:Bool} {p r:Prop} (h:b=b'):guardK b W p r=guardK b' W p r:=by rw [h]
def alcI (zs:Bool) (k:V→List Blk→Prop) (v:V) (S':List Blk):Prop:=zs=false∧k v S'
def frmJ (J:Nat) (xs:List V) (S:List Blk) (k:V→List Blk→Prop):V→List Blk→Prop:=k
def alcJ (J:Nat) (zs:Bool) (k:V→List Blk→Prop):V→List Blk→Prop:=if 999999 < J then alcI zs k else k
theorem frmJ_eq (xs:List V) (k:V→List Blk→Prop):frmJ J xs S k=frmK J xs S k:=by
 funext v S'
 rfl
theorem alcJ_eq (xs:Bool) (k:V→List Blk→Prop):alcJ J xs k=alcK J xs k:=by
 funext v S'
 unfold alcJ alcK alcI
 split <;> rfl
@[push_cast] theorem alcI_eq (xs:Bool) (k:V→List Blk→Prop) (S':List Blk):alcI xs k v S'=(xs=false∧k v S'):=rfl
def dloadK (D:Nat→TD) (t J:Nat) (S:List Blk) (hist:List (List Blk)) (pend:List (Nat × Nat)) (k:HK):V→Prop
 | .ptr b off=>histOk b S hist∧evLoad D t (.ptr b off) S (at4 k S hist ((b,J) :: pend))
 | x=>evLoad D t x S (at4 k S hist pend)
@[push_cast] theorem dr_1:evDrawOp P D pf (.load t x) ρ j J S hist pend h4=dloadK D t J S hist pend h4 (ρ x):=by
 simp only [evDrawOp]; cases ρ x <;> rfl
@[push_cast] theorem dl_1:dloadK D t J S hist pend h4 (.ptr n m)=(histOk n S hist∧evLoad D t (.ptr n m) S (at4 h4 S hist ((n,J) :: pend))):=rfl
@[push_cast] theorem dl_2:dloadK D t J S hist pend h4 (.eptr v m)=evLoad D t (.eptr v m) S (at4 h4 S hist pend):=rfl
@[push_cast] theorem dr_2 (ps:Array (Nat × Operand)):evDrawOp P D pf (.buildSlice t n ps) ρ j J S hist pend h4=if pf none then evFrozen D t n (ps.toList.map (pairOf ρ)) (at4 h4 S hist pend) else evOp P D (.buildSlice t n ps) ρ S (fixK j S hist pend h4):=by simp only [evDrawOp]; rfl
@[push_cast] theorem dr_3 (f:FuncId) (asV:Array Operand) (ts:Array TypeId):evDrawOp P D pf (.call { callee:=.value (.func f),args:=asV,argTypes:=ts }) ρ j J S hist pend h4 =
  if pf (some f) then evPure P (ρ (.func f)) (asV.toList.map ρ) (at4 h4 S hist pend) else evOp P D (.call { callee:=.value (.func f),args:=asV,argTypes:=ts }) ρ S (frmJ J (asV.toList.map ρ) S (fixK j S hist pend h4)):=by
 rw [frmJ_eq]
 by_cases hp:pf (some f)=true <;> simp [evDrawOp,isFixed,hp]
@[push_cast] theorem dr_4 (asV:Array Operand) (ts:Array TypeId):evDrawOp P D pf (.call { callee:=.value (.tmp n),args:=asV,argTypes:=ts }) ρ j J S hist pend h4=evOp P D (.call { callee:=.value (.tmp n),args:=asV,argTypes:=ts }) ρ S (fixK j S hist pend h4):=by
 simp only [evDrawOp,isFixed,if_true]
@[push_cast] theorem dr_5 (asV:Array Operand) (ts:Array TypeId):evDrawOp P D pf (.call { callee:=.builtin .append,args:=asV,argTypes:=ts }) ρ j J S hist pend h4=evOp P D (.call { callee:=.builtin .append,args:=asV,argTypes:=ts }) ρ S (fixK j S hist pend h4):=by
 simp only [evDrawOp,isFixed,if_true]
@[push_cast] theorem dr_6 (asV:Array Operand) (ts:Array TypeId):evDrawOp P D pf (.call { callee:=.builtin .len,args:=asV,argTypes:=ts }) ρ j J S hist pend h4=evOp P D (.call { callee:=.builtin .len,args:=asV,argTypes:=ts }) ρ S (looseK h4 hist pend):=by
 simp [evDrawOp,isFixed]
@[push_cast] theorem dr_7 (asV:Array Operand) (ts:Array TypeId):evDrawOp P D pf (.call { callee:=.builtin .min,args:=asV,argTypes:=ts }) ρ j J S hist pend h4=evOp P D (.call { callee:=.builtin .min,args:=asV,argTypes:=ts }) ρ S (looseK h4 hist pend):=by
 simp [evDrawOp,isFixed]
@[push_cast] theorem dr_8:evDrawOp P D pf (.alloc t) ρ j J S hist pend h4=evOp P D (.alloc t) ρ S (alcJ J ((D t).bld || (D t).zero.isEmpty) (fixK j S hist pend h4)):=by rw [alcJ_eq]; simp only [evDrawOp]
@[push_cast] theorem dr_9:evDrawOp P D pf (.box t x) ρ j J S hist pend h4=evOp P D (.box t x) ρ S (fixK j S hist pend h4):=by simp only [evDrawOp,isFixed,if_true]
@[push_cast] theorem dr_10:evDrawOp P D pf (.store t a x) ρ j J S hist pend h4=evOp P D (.store t a x) ρ S (fixK j S hist pend h4):=by simp only [evDrawOp,isFixed,if_true]
@[push_cast] theorem dr_11:evDrawOp P D pf (.makeSlice t a x) ρ j J S hist pend h4=evOp P D (.makeSlice t a x) ρ S (fixK j S hist pend h4):=by simp only [evDrawOp,isFixed,if_true]
@[push_cast] theorem dr_12:evDrawOp P D pf (.move x) ρ j J S hist pend h4=h4 (ρ x) S hist pend:=by simp [evDrawOp,isFixed,evOp,looseK]
@[push_cast] theorem dr_13:evDrawOp P D pf (.assign x) ρ j J S hist pend h4=h4 (ρ x) S hist pend:=by simp [evDrawOp,isFixed,evOp,looseK]
@[push_cast] theorem dr_14:evDrawOp P D pf (.pick c a b) ρ j J S hist pend h4=evOp P D (.pick c a b) ρ S (looseK h4 hist pend):=by simp [evDrawOp,isFixed]
@[push_cast] theorem dr_15 (ps:Array (Nat × Operand)):evDrawOp P D pf (.build t ps) ρ j J S hist pend h4=evOp P D (.build t ps) ρ S (looseK h4 hist pend):=by simp [evDrawOp,isFixed]
@[push_cast] theorem dr_16:evDrawOp P D pf (.nilCheck x) ρ j J S hist pend h4=evOp P D (.nilCheck x) ρ S (looseK h4 hist pend):=by simp [evDrawOp,isFixed]
@[push_cast] theorem dr_17 (op:BinOp):evDrawOp P D pf (.binOp op t x y u) ρ j J S hist pend h4=evOp P D (.binOp op t x y u) ρ S (looseK h4 hist pend):=by simp [evDrawOp,isFixed]
@[push_cast] theorem dr_18 (op:UnOp):evDrawOp P D pf (.unOp op t x) ρ j J S hist pend h4=evOp P D (.unOp op t x) ρ S (looseK h4 hist pend):=by simp [evDrawOp,isFixed]
def dconvK (P:Program) (D:Nat→TD) (t u J:Nat) (S:List Blk) (hist:List (List Blk)) (pend:List (Nat × Nat)) (k:HK):V→Prop
 | .heap b n=>histOk b S hist∧convHeap D t u n (at4 k S hist ((b,J) :: pend)) S[b]?
 | .ptr b o=>histOk b S hist∧convPtr P t u b o (at4 k S hist ((b,J) :: pend)) S[b]?
 | y=>evConv D t u y (at4 k S hist pend)
@[push_cast] theorem dr_19:evDrawOp P D pf (.convert t u x) ρ j J S hist pend h4=dconvK P D t u J S hist pend h4 (ρ x):=by
 simp only [evDrawOp]; cases ρ x <;> rfl
@[push_cast] theorem dc_1:dconvK P D t u J S hist pend h4 (.heap n m)=(histOk n S hist∧convHeap D t u m (at4 h4 S hist ((n,J) :: pend)) S[n]?):=rfl
@[push_cast] theorem dc_2:dconvK P D t u J S hist pend h4 (.ptr n m)=(histOk n S hist∧convPtr P t u n m (at4 h4 S hist ((n,J) :: pend)) S[n]?):=rfl
@[push_cast] theorem dc_3:dconvK P D t u J S hist pend h4 (.int K X)=evConv D t u (.int K X) (at4 h4 S hist pend):=rfl
@[push_cast] theorem dc_4:dconvK P D t u J S hist pend h4 (.str s)=evConv D t u (.str s) (at4 h4 S hist pend):=rfl
@[push_cast] theorem dc_5:dconvK P D t u J S hist pend h4 (.rows tok xs)=evConv D t u (.rows tok xs) (at4 h4 S hist pend):=rfl
@[push_cast] theorem dc_6:dconvK P D t u J S hist pend h4 .nils=evConv D t u .nils (at4 h4 S hist pend):=rfl
@[push_cast] theorem dr_27 (asV:Array Operand) (ts:Array TypeId):evDrawOp P D pf (.call { callee:=.builtin .unsafeSliceData,args:=asV,argTypes:=ts }) ρ j J S hist pend h4=evOp P D (.call { callee:=.builtin .unsafeSliceData,args:=asV,argTypes:=ts }) ρ S (looseK h4 hist pend):=by
 simp [evDrawOp,isFixed]
@[push_cast] theorem dr_28 (asV:Array Operand) (ts:Array TypeId):evDrawOp P D pf (.call { callee:=.builtin .unsafeString,args:=asV,argTypes:=ts }) ρ j J S hist pend h4=evOp P D (.call { callee:=.builtin .unsafeString,args:=asV,argTypes:=ts }) ρ S (fixK j S hist pend h4):=by
 simp only [evDrawOp,isFixed,if_true]
@[push_cast] theorem dr_20 (f:Fn) (p r:Array Operand):evDrawOp P D pf (.makeFunc f p r) ρ j J S hist pend h4=evOp P D (.makeFunc f p r) ρ S (looseK h4 hist pend):=by simp [evDrawOp,isFixed]
@[push_cast] theorem dr_21 (lo hi:Option Operand):evDrawOp P D pf (.slice t x lo hi none) ρ j J S hist pend h4=evOp P D (.slice t x lo hi none) ρ S (looseK h4 hist pend):=by simp [evDrawOp,isFixed]
@[push_cast] theorem dr_22:evDrawOp P D pf (.fieldAddr t x n) ρ j J S hist pend h4=evOp P D (.fieldAddr t x n) ρ S (looseK h4 hist pend):=by simp [evDrawOp,isFixed]
@[push_cast] theorem dr_23:evDrawOp P D pf (.field t x n) ρ j J S hist pend h4=evOp P D (.field t x n) ρ S (looseK h4 hist pend):=by simp [evDrawOp,isFixed]
@[push_cast] theorem dr_24:evDrawOp P D pf (.indexAddr t x y) ρ j J S hist pend h4=evOp P D (.indexAddr t x y) ρ S (looseK h4 hist pend):=by simp [evDrawOp,isFixed]
@[push_cast] theorem dr_25:evDrawOp P D pf (.index t x y) ρ j J S hist pend h4=evOp P D (.index t x y) ρ S (looseK h4 hist pend):=by simp [evDrawOp,isFixed]
@[push_cast] theorem dr_26:evDrawOp P D pf (.extract x n) ρ j J S hist pend h4=evOp P D (.extract x n) ρ S (looseK h4 hist pend):=by simp [evDrawOp,isFixed]
end
attribute [push_cast low] guardK_t guardK_f
attribute [push_cast] evOps_nil evOps_none evOps_some stepK_eq dstAt evRes_nil evRes_tmp evRes_cell frmJ alcJ clE evDraw_nil evDraw_none evDraw_some drawK_eq pendOk histOk splice eqFs eqT Value.oneCell'
section
variable {P:Program} {D:Nat→TD} (k:V→List Blk→Prop) (k1:V→Prop) (S S':List Blk) (v z:V) (b:Bool) (cs vs:List V) (s:List UInt8) (lo:Option V) (h l:Int) (n m e j:Nat) (x:V) (K:(Nat→V)→List Blk→Prop) (q:Exit→(Nat→V)→List Blk→Prop) (t:Nat→V)
 (k4:HK) (hist:List (List Blk)) (pend:List (Nat × Nat)) (kl:List V→Prop) (rs:List ResultVar)
@[push_cast] theorem atS_eq:atS k S v=k v S:=rfl
@[push_cast] theorem boolK_eq:boolK k1 b=k1 (.bool b):=rfl
@[push_cast] theorem nboolK_eq:nboolK k1 b=k1 (.bool (!b)):=rfl
@[push_cast] theorem aggK_eq:aggK k1 cs=k1 (.agg cs):=rfl
@[push_cast] theorem slcStrL_eq:slcStrL s k1 h l=(0≤l∧l≤h∧h≤s.length∧k1 (.str ((s.take h.toNat).drop l.toNat))):=rfl
@[push_cast] theorem slcStrH_eq:slcStrH s lo k1 h=evEnd lo 0 (slcStrL s k1 h):=rfl
@[push_cast] theorem slcRowL_eq:slcRowL cs k1 h l=(0≤l∧l≤h∧h≤cs.length∧k1 (.rows none ((cs.take h.toNat).drop l.toNat))):=rfl
@[push_cast] theorem slcRowH_eq:slcRowH cs lo k1 h=evEnd lo 0 (slcRowL cs k1 h):=rfl
@[push_cast] theorem slcHeapL_eq:slcHeapL m n k1 h l=(l=0∧0≤h∧h≤n∧k1 (.heap m h.toNat)):=rfl
@[push_cast] theorem slcHeapH_eq:slcHeapH m n lo k1 h=evEnd lo 0 (slcHeapL m n k1 h):=rfl
@[push_cast] theorem appCells_nil (x:V):appCells D e .nils x S k m cs=(m≤1073741824∧k (.heap S.length m) (S++[.cells (mkE D e) (cs.map eraseC)])):=rfl
def appHeap (D:Nat→TD) (e bb n:Nat) (x:V) (S:List Blk) (k:V→List Blk→Prop) (m:Nat) (ys:List V):Option Blk→Prop
 | some (.cells sz cs)=>sz=mkE D e∧cs.length=n * (D e).size∧n≤1073741824∧(match x with | .heap b' _=>b'≠bb | _=>True)∧k (.heap S.length (n+m)) (S.set bb .dead++[.cells sz (cs++ys.map eraseC)])
 | _=>False
@[push_cast] theorem appCells_heap (bb:Nat) (x:V):appCells D e (.heap bb n) x S k m cs=(m≤1073741824∧appHeap D e bb n x S k m cs S[bb]?):=by
 simp only [appCells]
 cases S[bb]? with
 | none=>rfl
 | some B=>cases B <;> rfl
@[push_cast] theorem appHeap_eq (bb sz:Nat) (ds:List V) (x:V):appHeap D e bb n x S k m cs (some (.cells sz ds))=(sz=mkE D e∧ds.length=n * (D e).size∧n≤1073741824∧(match x with | .heap b' _=>b'≠bb | _=>True)∧k (.heap S.length (n+m)) (S.set bb .dead++[.cells sz (ds++cs.map eraseC)])):=rfl
@[push_cast] theorem appRows_nil:appRows D e .nils S k cs=(cs.length≤1073741824∧cs.all (lenIs (D e).size)=true∧k (.rows (some S.length) cs) (S++[.right (D e).size])):=rfl
def appRight (D:Nat→TD) (e τ:Nat) (xs:List V) (S:List Blk) (k:V→List Blk→Prop) (ys:List V):Option Blk→Prop
 | some (.right sz)=>sz=(D e).size∧xs.length≤1073741824∧xs.all (lenIs (D e).size)=true∧k (.rows (some S.length) (xs++ys)) (S.set τ .dead++[.right sz])
 | _=>False
@[push_cast] theorem appRows_rows (τ:Nat) (xs:List V):appRows D e (.rows (some τ) xs) S k cs=(cs.length≤1073741824∧cs.all (lenIs (D e).size)=true∧appRight D e τ xs S k cs S[τ]?):=by
 simp only [appRows]
 cases S[τ]? with
 | none=>rfl
 | some B=>cases B <;> rfl
@[push_cast] theorem appRight_eq (τ sz:Nat) (xs:List V):appRight D e τ xs S k cs (some (.right sz))=(sz=(D e).size∧xs.length≤1073741824∧xs.all (lenIs (D e).size)=true∧k (.rows (some S.length) (xs++cs)) (S.set τ .dead++[.right sz])):=rfl
@[push_cast] theorem minK_eq:minK z k1 v=evMin v z k1:=rfl
@[push_cast] theorem consK_eq:consK kl v vs=kl (v :: vs):=rfl
@[push_cast] theorem resK_eq:resK D rs t S kl v=evRes D rs t S (consK kl v):=rfl
@[push_cast] theorem thenK_n:thenK K q .normal t S=K t S:=rfl
@[push_cast] theorem thenK_r:thenK K q .ret t S=q .ret t S:=rfl
@[push_cast] theorem thenK_e:thenK K q (.exit n) t S=q (.exit n) t S:=rfl
@[push_cast] theorem blockK_n:blockK n q .normal t S=q .normal t S:=rfl
@[push_cast] theorem blockK_r:blockK n q .ret t S=q .ret t S:=rfl
@[push_cast] theorem blockK_e:blockK n q (.exit m) t S=if m=n then q .normal t S else q (.exit m) t S:=rfl
@[push_cast] theorem at4_eq:at4 k4 S hist pend v=k4 v S hist pend:=rfl
@[push_cast] theorem looseK_eq:looseK k4 hist pend v S=k4 v S hist pend:=rfl
@[push_cast] theorem fixK_eq:fixK j S hist pend k4 v S'=(pendOk j S S' pend∧k4 v S' (S :: hist) pend):=rfl
end
section
variable (t:Nat→V) (S l l':List Blk) (v w:V) (cs vs xs:List V) (k:IntKind) (n m i d:Nat) (b:Bool) (s:List UInt8) (tok:Option Nat) (B:Blk)
@[push_cast] theorem evalT_tmp:evalT t (.tmp i)=t i:=rfl
@[push_cast] theorem evalT_const (c:Value):evalT t (.const c)=constV c:=rfl
@[push_cast] theorem evalT_func (f:FuncId):evalT t (.func f)=.fn f []:=rfl
@[push_cast] theorem evalT_global (g:Nat):evalT t (.global g)=.junk:=rfl
@[push_cast] theorem putT_none:putT t none v=t:=rfl
@[push_cast] theorem putT_at:putT t (some d) v i=if i=d then v else t i:=rfl
@[push_cast] theorem argT_zero:argT (v :: vs) 0=v:=rfl
@[push_cast] theorem argT_succ:argT (v :: vs) (n+1)=argT vs n:=rfl
@[push_cast] theorem argT_nil:argT [] n=.junk:=rfl
@[push_cast] theorem cells_agg:(V.agg cs).cells=cs:=rfl
@[push_cast] theorem cells_int (x:Int):(V.int k x).cells=[.int k x]:=rfl
@[push_cast] theorem cells_bool:(V.bool b).cells=[.bool b]:=rfl
@[push_cast] theorem cells_str:(V.str s).cells=[.str s]:=rfl
@[push_cast] theorem cells_nils:V.nils.cells=[.nils]:=rfl
@[push_cast] theorem cells_rows:(V.rows tok xs).cells=[.rows tok xs]:=rfl
@[push_cast] theorem cells_heap:(V.heap n m).cells=[.heap n m]:=rfl
@[push_cast] theorem cells_ptr:(V.ptr n m).cells=[.ptr n m]:=rfl
@[push_cast] theorem cells_eptr:(V.eptr v m).cells=[.eptr v m]:=rfl
@[push_cast] theorem cells_nilp:V.nilp.cells=[.nilp]:=rfl
@[push_cast] theorem cells_fn (f:FuncId):(V.fn f cs).cells=[.fn f cs]:=rfl
@[push_cast] theorem one_agg:(V.agg cs).one=false:=rfl
@[push_cast] theorem one_tup:(V.tup cs).one=false:=rfl
@[push_cast] theorem one_int (x:Int):(V.int k x).one=true:=rfl
@[push_cast] theorem one_bool:(V.bool b).one=true:=rfl
@[push_cast] theorem one_str:(V.str s).one=true:=rfl
@[push_cast] theorem one_nils:V.nils.one=true:=rfl
@[push_cast] theorem one_rows:(V.rows tok xs).one=true:=rfl
@[push_cast] theorem one_heap:(V.heap n m).one=true:=rfl
@[push_cast] theorem one_ptr:(V.ptr n m).one=true:=rfl
@[push_cast] theorem one_eptr:(V.eptr v m).one=true:=rfl
@[push_cast] theorem one_nilp:V.nilp.one=true:=rfl
@[push_cast] theorem one_fn (f:FuncId):(V.fn f cs).one=true:=rfl
@[push_cast] theorem eraseC_int (x:Int):eraseC (.int k x)=.int k x:=rfl
@[push_cast] theorem eraseC_bool:eraseC (.bool b)=.bool b:=rfl
@[push_cast] theorem eraseC_str:eraseC (.str s)=.str s:=rfl
@[push_cast] theorem eraseC_nils:eraseC .nils=.rows none []:=rfl
@[push_cast] theorem eraseC_rows:eraseC (.rows tok xs)=.rows none xs:=rfl
@[push_cast] theorem eraseC_heap:eraseC (.heap n m)=.heap n m:=rfl
@[push_cast] theorem eraseC_ptr:eraseC (.ptr n m)=.ptr n m:=rfl
@[push_cast] theorem eraseC_eptr:eraseC (.eptr v m)=.eptr v m:=rfl
@[push_cast] theorem eraseC_nilp:eraseC .nilp=.nilp:=rfl
@[push_cast] theorem eraseC_fn (f:FuncId):eraseC (.fn f cs)=.fn f cs:=rfl
@[push_cast] theorem erase1_agg:erase1 (.agg cs)=.agg (cs.map eraseC):=rfl
@[push_cast] theorem erase1_int (x:Int):erase1 (.int k x)=.int k x:=rfl
@[push_cast] theorem erase1_bool:erase1 (.bool b)=.bool b:=rfl
@[push_cast] theorem erase1_str:erase1 (.str s)=.str s:=rfl
@[push_cast] theorem erase1_nils:erase1 .nils=.rows none []:=rfl
@[push_cast] theorem erase1_rows:erase1 (.rows tok xs)=.rows none xs:=rfl
@[push_cast] theorem erase1_heap:erase1 (.heap n m)=.heap n m:=rfl
@[push_cast] theorem erase1_ptr:erase1 (.ptr n m)=.ptr n m:=rfl
@[push_cast] theorem erase1_eptr:erase1 (.eptr v m)=.eptr v m:=rfl
@[push_cast] theorem erase1_nilp:erase1 .nilp=.nilp:=rfl
@[push_cast] theorem erase1_fn (f:FuncId):erase1 (.fn f cs)=.fn f cs:=rfl
@[push_cast] theorem eraseT_tup:eraseT (.tup vs)=.tup (vs.map erase1):=rfl
@[push_cast] theorem eraseT_agg:eraseT (.agg cs)=.agg (cs.map eraseC):=rfl
@[push_cast] theorem eraseT_rows:eraseT (.rows tok xs)=.rows none xs:=rfl
@[push_cast] theorem eraseT_nils:eraseT .nils=.rows none []:=rfl
@[push_cast] theorem oneOf_one:oneOf [v]=v:=rfl
@[push_cast] theorem oneOf_nil:oneOf []=.tup []:=rfl
@[push_cast] theorem oneOf_two:oneOf (v :: w :: vs)=.tup (v :: w :: vs):=rfl
@[push_cast] theorem app_get0:(S++l)[S.length]?=l[0]?:=by rw [List.getElem?_append_right (Nat.le_refl _),Nat.sub_self]
@[push_cast] theorem app_get:(S++l)[S.length+n]?=l[n]?:=by rw [List.getElem?_append_right (by omega),Nat.add_sub_cancel_left]
@[push_cast] theorem app_set0:(S++l).set S.length B=S++l.set 0 B:=by rw [List.set_append,if_neg (by omega),Nat.sub_self]
@[push_cast] theorem app_set:(S++l).set (S.length+n) B=S++l.set n B:=by rw [List.set_append,if_neg (by omega),Nat.add_sub_cancel_left]
@[push_cast] theorem app_old {j:Nat} {C:Blk} (h:S[j]?=some C):(S++l)[j]?=some C:=by
 have hlt:j < S.length:=by
  rcases Nat.lt_or_ge j S.length with g | g
  ·exact g
  ·rw [List.getElem?_eq_none g] at h; cases h
 rw [List.getElem?_append_left hlt,h]
end
attribute [push_cast] List.append_assoc List.cons_append List.nil_append List.length_append List.length_cons List.length_nil List.append_nil List.length_set
 List.all_cons List.all_nil List.map_cons List.map_nil List.drop_succ_cons List.drop_zero List.take_succ_cons List.take_zero List.getElem?_cons_zero List.getElem?_cons_succ List.getElem?_nil List.set_cons_zero List.set_cons_succ
 List.flatten_cons List.flatten_nil List.headD_cons List.tail_cons List.headD_nil List.tail_nil Bool.and_true Bool.true_and Bool.and_false Bool.false_and Bool.not_true Bool.not_false
 Option.map_some Option.map_none Option.getD_some Option.getD_none Option.bind_some Option.bind_none
 and_true true_and and_false false_and if_true if_false ite_true ite_false true_implies false_implies implies_true
 decide_eq_true_eq decide_eq_false_iff_not Bool.false_eq_true Bool.true_eq_false eq_self forall_eq forall_eq' Nat.add_zero Nat.zero_add beq_self_eq_true Bool.not_eq_true' Bool.not_eq_false' Bool.not_not
 Int.toNat_natCast Nat.add_assoc List.range_succ List.range_zero List.mem_cons List.not_mem_nil List.length_map List.map_append List.all_append
 Bool.not_eq_eq_eq_not Bool.not_eq_true Bool.not_eq_false ne_eq not_false_eq_true not_true_eq_false
@[push_cast] theorem i64_bits:IntKind.i64.bits=64:=rfl
@[push_cast] theorem u8_bits:IntKind.u8.bits=8:=rfl
@[push_cast] theorem i64_fit (n:Int) (h:-9223372036854775808≤n∧n≤9223372036854775807):IntKind.i64.wrap n=n:=IntWalk.i64_in n h
@[push_cast] theorem u8_fit (n:Int) (h:0≤n∧n≤255):IntKind.u8.wrap n=n:=IntWalk.u8_in n h
end
end Go.Proofs.Ytldogccmhncnoaa
