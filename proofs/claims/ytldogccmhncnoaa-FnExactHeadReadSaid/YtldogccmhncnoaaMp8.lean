/- A part of the proof: contracts of functions, or plain facts on which these lean. -/
import Derived.Test.YtldogccmhncnoaaMp7
namespace Go.Proofs.Ytldogccmhncnoaa
open Go
set_option linter.unusedVariables false
set_option linter.unusedSimpArgs false
set_option maxRecDepth 100000
set_option maxHeartbeats 16000000

section
open Go
inductive Sched (n:Nat) (edges:Nat→List Nat):List Nat→List Nat→Prop where
 | done {d:List Nat}:(∀i,i < n→i ∈ d)→Sched n edges d []
 | step {d l:List Nat} {i:Nat}:i < n→i ∉ d→(∀e ∈ edges i,e ∈ d)→Sched n edges (i :: d) l→Sched n edges d (i :: l)
def edgesOf (ops:Array Oper) (i:Nat):List Nat:=match ops[i]? with
 | some o=>(o.after.toList.filter (Region.binds .any)).map (·.on)
 | none=>[]
theorem binds_any {m:Region.Mode} {e:Edge} (h:Region.binds .any e=true):Region.binds m e=true:=by
 unfold Region.binds at h ⊢
 split <;> simp_all
theorem go_sched (m:Region.Mode) (hm:m=.any) (ops:Array Oper) (hlt:∀(i:Nat) (o:Oper),ops[i]?=some o→∀e ∈ o.after,Region.binds .any e=true→e.on < i):∀(fuel t:Nat) (listed:Array Bool) (acc:List Nat),
  listed.size=ops.size→(∀i,i < ops.size→(listed.getD i true=true↔i ∈ acc))→((List.range ops.size).filter (fun i=>!listed.getD i true)).length≤fuel →
  ∃l,Region.linearise.go m ops fuel t listed acc=acc.reverse++l∧Sched ops.size (edgesOf ops) acc l
 | 0,t,listed,acc,hs,hiff,hle=>by
  refine ⟨[],by simp [Region.linearise.go],.done fun i hi=>?_⟩
  have h0:(List.range ops.size).filter (fun i=>!listed.getD i true)=[]:=List.eq_nil_of_length_eq_zero (by omega)
  have:=List.filter_eq_nil_iff.1 h0 i (List.mem_range.2 hi)
  exact (hiff i hi).1 (by simpa using this)
 | fuel+1,t,listed,acc,hs,hiff,hle=>by
  unfold Region.linearise.go
  generalize hrs:((List.range ops.size).filter fun i=>!listed.getD i true && ((ops[i]?).map (·.after.all fun e=>!Region.binds m e || listed.getD e.on false)).getD false)=rs
  simp only
  cases hp:rs[t % rs.length]? with
  | none =>
   refine ⟨[],by simp,.done fun i hi=>?_⟩
   have hnil:rs=[]:=by
    cases rs with
    | nil=>rfl
    | cons x xs =>
     rw [List.getElem?_eq_getElem (Nat.mod_lt _ (by simp))] at hp
     cases hp
   rw [hnil] at hrs
   induction i using Nat.strongRecOn with
   | _ i ih =>
    have hno:=List.filter_eq_nil_iff.1 hrs i (List.mem_range.2 hi)
    rcases Classical.em (listed.getD i true=true) with h1 | h1
    ·exact (hiff i hi).1 h1
    ·exfalso
     apply hno
     have h1':listed.getD i true=false:=by simpa using h1
     have ho:ops[i]?=some ops[i]:=Array.getElem?_eq_getElem hi
     rw [ho,h1']
     simp only [Bool.not_false,Option.map_some,Option.getD_some,Bool.true_and]
     rw [Array.all_eq_true_iff_forall_mem]
     intro e he
     cases hbe:Region.binds m e
     ·simp
     have hel:=hlt i _ ho e he (by rw [←hm]; exact hbe)
     have hm2:=ih e.on hel (by omega)
     have hl:=(hiff e.on (by omega)).2 hm2
     have:listed.getD e.on false=true:=by
      rw [Array.getD_eq_getD_getElem?,Array.getElem?_eq_getElem (by omega)] at hl ⊢
      simpa using hl
     simp [this]
  | some i =>
   have hmem:i ∈ rs:=List.mem_of_getElem? hp
   rw [←hrs,List.mem_filter] at hmem
   obtain ⟨hi,hready⟩:=hmem
   have hi':i < ops.size:=List.mem_range.1 hi
   have ho:ops[i]?=some ops[i]:=Array.getElem?_eq_getElem hi'
   rw [ho] at hready
   simp only [Option.map_some,Option.getD_some,Bool.and_eq_true,Bool.not_eq_true'] at hready
   obtain ⟨hun,hall⟩:=hready
   have hnot:i ∉ acc:=fun hm=>by rw [(hiff i hi').2 hm] at hun; cases hun
   have hset:∀j,j < ops.size→(listed.setIfInBounds i true).getD j true=if j=i then true else listed.getD j true:=by
    intro j hj
    rw [Array.getD_eq_getD_getElem?,Array.getElem?_setIfInBounds]
    by_cases e:i=j
    ·subst e
     have hls:i < listed.size:=by omega
     simp [hls]
    ·rw [if_neg e,if_neg (fun h=>e h.symm),←Array.getD_eq_getD_getElem?]
   obtain ⟨l,hl,hsch⟩:=go_sched m hm ops hlt fuel (t / rs.length) (listed.setIfInBounds i true) (i :: acc) (by simpa using hs) (fun j hj=>by
    rw [hset j hj]
    by_cases e:j=i
    ·subst e; simp
    ·rw [if_neg e,hiff j hj]; simp [e]) (by
    have hlt2:((List.range ops.size).filter (fun j=>!(listed.setIfInBounds i true).getD j true)).length < ((List.range ops.size).filter (fun j=>!listed.getD j true)).length:=by
     have he:(List.range ops.size).filter (fun j=>!(listed.setIfInBounds i true).getD j true)=((List.range ops.size).filter (fun j=>!listed.getD j true)).filter (fun j=>j != i):=by
      rw [List.filter_filter]
      apply List.filter_congr
      intro j hj
      rw [hset j (List.mem_range.1 hj)]
      by_cases e:j=i <;> simp [e]
     rw [he]
     refine List.length_filter_lt_length_iff_exists.2 ⟨i,List.mem_filter.2 ⟨hi,by simp [hun]⟩,by simp⟩
    omega)
   refine ⟨i :: l,by simp only [hl]; simp,.step hi' hnot (fun e he=>?_) hsch⟩
   unfold edgesOf at he
   rw [ho] at he
   simp only [List.mem_map,List.mem_filter] at he
   obtain ⟨ed,⟨hme,hb⟩,rfl⟩:=he
   have h1:=Array.all_eq_true_iff_forall_mem.1 hall ed (by simpa using hme)
   rw [binds_any hb] at h1
   have hel:=hlt i _ ho ed (by simpa using hme) hb
   have h2:listed.getD ed.on false=true:=by simpa using h1
   refine (hiff ed.on (by omega)).1 ?_
   rw [Array.getD_eq_getD_getElem?,Array.getElem?_eq_getElem (by omega)] at h2 ⊢
   simpa using h2
theorem schedule_sched (mixed:Bool) (hmix:mixed=true) (ops:Array Oper) (t:Nat) (hlt:∀(i:Nat) (o:Oper),ops[i]?=some o→∀e ∈ o.after,Region.binds .any e=true→e.on < i):Sched ops.size (edgesOf ops) [] (Region.schedule mixed ops t):=by
 subst hmix
 have key:∀t,Sched ops.size (edgesOf ops) [] (Region.linearise .any ops t):=by
  intro t
  obtain ⟨l,hl,hs⟩:=go_sched .any rfl ops hlt ops.size t (Array.replicate ops.size false) [] (by simp) (fun i hi=>by simp [hi]) (by
   refine Nat.le_trans (List.length_filter_le _ _) (by simp))
  unfold Region.linearise
  rw [hl]
  simpa using hs
 unfold Region.schedule
 simp only [Bool.true_or,if_true]
 exact key _
def isFixed (pf:Option FuncId→Bool):Op→Bool
 | .alloc _ | .box _ _ | .store _ _ _ | .makeSlice _ _ _=>true
 | .buildSlice _ _ _=>!pf none
 | .call c=>match c.callee with
  | .value (.func f)=>!pf (some f)
  | .value _=>true
  | .builtin .append=>true
  | .builtin .unsafeString=>true
  | _=>false
 | _=>false
def preAll:List Oper→List (List Nat)→List (List Nat)
 | [],acc=>acc
 | o :: os,acc=>preAll os (acc++[((o.after.toList.filter (Region.binds .any)).map fun e=>e.on :: acc.getD e.on []).flatten.eraseDups])
def slotsOf (o:Oper):List Nat:=o.op.operands.toList.filterMap fun | .tmp i=>some i | _=>none
def isFn:Op→Bool
 | .call c=>match c.callee with
  | .value (.func _)=>true
  | _=>false
 | _=>false
def isAlloc:Op→Bool
 | .alloc _=>true
 | _=>false
def drawOk (pf:Option FuncId→Bool) (ops:List Oper) (js:List Nat):Bool :=
 let pre:=preAll ops []
 let n:=ops.length
 let al:=js.getD n n
 (List.range n).all fun i=>match ops[i]? with
  | none=>false
  | some o =>
   (o.after.toList.all fun e=>!Region.binds .any e || decide (e.on < i)) &&
   (match o.guard with | some (g,_)=>decide (g < i) | none=>true) &&
   (i != al || (isAlloc o.op && o.guard.isNone && decide (999999 < js.getD i 0))) &&
   ((List.range n).all fun j=>match ops[j]? with
    | none=>false
    | some q =>
     (j == i || o.dst.isNone || q.dst != o.dst) &&
     (!(decide (j < i) && isFixed pf o.op && isFixed pf q.op) || (pre.getD i []).contains j || (i == al && isFn q.op && decide (999999 < js.getD j 0))) &&
     (j == i || match q.dst with
      | none=>true
      | some x=>!((slotsOf o).contains x || (match o.guard with | some (g,_)=>dstAt ops g == some x | none=>false)) || (pre.getD i []).contains j || (pre.getD j []).contains i) &&
     (!(isFixed pf q.op && decide (js.getD i 0≤j)) || (pre.getD j []).contains i)) &&
   (match dstAt ops al with
    | none=>true
    | some x=>i == al || !((slotsOf o).contains x || (match o.guard with | some (g,_)=>dstAt ops g == some x | none=>false)) ||
     ((List.range al).all fun f=>match ops[f]? with | none=>true | some q=>!isFixed pf q.op || (pre.getD i []).contains f))
def pendOk (j:Nat) (S S':List Blk):List (Nat × Nat)→Prop
 | []=>True
 | (b,J) :: r=>(if j < J then S'[b]?=S[b]? else True)∧pendOk j S S' r
def histOk (b:Nat) (S:List Blk):List (List Blk)→Prop
 | []=>True
 | S0 :: r=>S0[b]?=S[b]?∧histOk b S r
def PCall (P:Program) (f:FuncId) (args:List V) (q:V→Prop):Prop:=∃x,(∀S,VCall P f args S fun r S'=>r=x∧S'=S)∧q x
def evPure (P:Program) (f:V) (args:List V) (q:V→Prop):Prop :=
 match f with
 | .fn g cap=>PCall P g (eraseArgs (args++cap)) q
 | _=>False
def evFrozen (D:Nat→TD) (t:TypeId) (len:Nat) (parts:List (Nat × V)) (k:V→Prop):Prop :=
 match (D t).k with
 | .slc e=>((D e).k matches .none)=false∧0 < (D e).size∧len * (D e).size≤16777216∧parts.map (·.1)=List.range len∧(parts.all fun x=>x.2.cells.length == (D e).size && x.2.cells.all V.one)=true ∧
   (D e).wr=false∧k (.rows none (parts.map fun x=>erase1 x.2))
 | _=>False
abbrev HK:=V→List Blk→List (List Blk)→List (Nat × Nat)→Prop
def at4 (k:HK) (S:List Blk) (hist:List (List Blk)) (pend:List (Nat × Nat)) (v:V):Prop:=k v S hist pend
def looseK (k:HK) (hist:List (List Blk)) (pend:List (Nat × Nat)) (v:V) (S:List Blk):Prop:=k v S hist pend
def fixK (j:Nat) (S:List Blk) (hist:List (List Blk)) (pend:List (Nat × Nat)) (k:HK) (v:V) (S':List Blk):Prop:=pendOk j S S' pend∧k v S' (S :: hist) pend
def clE (n:Nat):List V→Prop
 | []=>True
 | v :: r=>Cl n v∧clE n r
def frmK (J:Nat) (xs:List V) (S:List Blk) (k:V→List Blk→Prop) (v:V) (S':List Blk):Prop:=k v S'
def alcK (J:Nat) (zs:Bool) (k:V→List Blk→Prop) (v:V) (S':List Blk):Prop :=
 if 999999 < J then zs=false∧k v S' else k v S'
section
variable (P:Program) (D:Nat→TD) (pf:Option FuncId→Bool)
def evDrawOp (o:Op) (ρ:Operand→V) (j J:Nat) (S:List Blk) (hist:List (List Blk)) (pend:List (Nat × Nat)) (k:HK):Prop :=
 match o with
 | .load t a=>match ρ a with
  | .ptr b off=>histOk b S hist∧evLoad D t (.ptr b off) S (at4 k S hist ((b,J) :: pend))
  | x=>evLoad D t x S (at4 k S hist pend)
 | .buildSlice t len parts=>if pf none then evFrozen D t len (parts.toList.map fun p=>(p.1,ρ p.2)) (at4 k S hist pend)
  else evOp P D (.buildSlice t len parts) ρ S (fixK j S hist pend k)
 | .alloc t=>evOp P D (.alloc t) ρ S (alcK J ((D t).bld || (D t).zero.isEmpty) (fixK j S hist pend k))
 | .convert src dst x=>match ρ x with
  | .heap b n=>histOk b S hist∧convHeap D src dst n (at4 k S hist ((b,J) :: pend)) S[b]?
  | .ptr b o=>histOk b S hist∧convPtr P src dst b o (at4 k S hist ((b,J) :: pend)) S[b]?
  | y=>evConv D src dst y (at4 k S hist pend)
 | .call c=>if isFixed pf (.call c) then (match c.callee with
   | .value (.func _)=>evOp P D (.call c) ρ S (frmK J (c.args.toList.map ρ) S (fixK j S hist pend k))
   | _=>evOp P D (.call c) ρ S (fixK j S hist pend k))
  else match c.callee with
   | .value f=>evPure P (ρ f) (c.args.toList.map ρ) (at4 k S hist pend)
   | _=>evOp P D (.call c) ρ S (looseK k hist pend)
 | o=>if isFixed pf o then evOp P D o ρ S (fixK j S hist pend k)
  else evOp P D o ρ S (looseK k hist pend)
def evDraw (full:List Oper):List Oper→Nat→List Nat→(Nat→V)→List Blk→List (List Blk)→List (Nat × Nat)→((Nat→V)→List Blk→Prop)→Prop
 | [],_,_,t,S,_,_,k=>k t S
 | o :: os,j,js,t,S,hist,pend,k=>match o.guard with
  | none=>evDrawOp P D pf o.op (evalT t) j (js.headD 0) S hist pend fun v S' hist' pend'=>evDraw full os (j+1) js.tail (putT t o.dst v) S' hist' pend' k
  | some (g,want)=>match dstAt full g with
   | some d=>match t d with
    | .bool b=>guardK b want (evDrawOp P D pf o.op (evalT (putT t (some d) (.bool want))) j (js.headD 0) S hist pend fun v S' hist' pend'=>evDraw full os (j+1) js.tail (putT (putT t (some d) (.bool want)) o.dst v) S' hist' pend' k)
      (evDraw full os (j+1) js.tail (putT (putT t (some d) (.bool (!want))) o.dst (.tup [])) S hist pend k)
    | .tup []=>evDraw full os (j+1) js.tail (putT t o.dst (.tup [])) S hist pend k
    | _=>False
   | none=>False
def drawK (full os:List Oper) (j:Nat) (js:List Nat) (t:Nat→V) (d:Option Nat) (k:(Nat→V)→List Blk→Prop) (v:V) (S:List Blk) (hist:List (List Blk)) (pend:List (Nat × Nat)):Prop :=
 evDraw P D pf full os (j+1) js (putT t d v) S hist pend k
def guardDraw (full os:List Oper) (o:Op) (dst:Option Nat) (d:Nat) (want:Bool) (j:Nat) (js:List Nat) (t:Nat→V) (S:List Blk) (hist:List (List Blk)) (pend:List (Nat × Nat)) (k:(Nat→V)→List Blk→Prop) (x:V):Prop :=
 match x with
 | .bool b=>guardK b want (evDrawOp P D pf o (evalT (putT t (some d) (.bool want))) j (js.headD 0) S hist pend (drawK P D pf full os j js.tail (putT t (some d) (.bool want)) dst k))
   (evDraw P D pf full os (j+1) js.tail (putT (putT t (some d) (.bool (!want))) dst (.tup [])) S hist pend k)
 | .tup []=>evDraw P D pf full os (j+1) js.tail (putT t dst (.tup [])) S hist pend k
 | _=>False
def guardDrawAt (full os:List Oper) (o:Op) (dst:Option Nat) (want:Bool) (j:Nat) (js:List Nat) (t:Nat→V) (S:List Blk) (hist:List (List Blk)) (pend:List (Nat × Nat)) (k:(Nat→V)→List Blk→Prop) (d:Option Nat):Prop :=
 match d with
 | some d=>guardDraw P D pf full os o dst d want j js t S hist pend k (t d)
 | none=>False
end
section
variable {P:Program} {D:Nat→TD} {pf:Option FuncId→Bool} (full os:List Oper) (o:Op) (d:Option Nat) (ty:TypeId) (ps:String) (af:Array Edge) (t:Nat→V) (S:List Blk) (k:(Nat→V)→List Blk→Prop)
 (j:Nat) (js:List Nat) (hist:List (List Blk)) (pend:List (Nat × Nat))
theorem evDraw_nil:evDraw P D pf full [] j js t S hist pend k=k t S:=by simp only [evDraw]
theorem evDraw_none:evDraw P D pf full ({ dst:=d,op:=o,type:=ty,pos:=ps,after:=af,guard:=none } :: os) j js t S hist pend k=evDrawOp P D pf o (evalT t) j (js.headD 0) S hist pend (drawK P D pf full os j js.tail t d k):=by simp only [evDraw]; rfl
theorem evDraw_some (g:Nat) (want:Bool):evDraw P D pf full ({ dst:=d,op:=o,type:=ty,pos:=ps,after:=af,guard:=some (g,want) } :: os) j js t S hist pend k =
  guardDrawAt P D pf full os o d want j js t S hist pend k (dstAt full g):=by
 simp only [evDraw]
 cases dstAt full g with
 | none=>rfl
 | some x =>
  simp only [guardDrawAt]
  cases t x with
  | tup vs=>cases vs <;> rfl
  | _=>rfl
theorem drawK_eq (v:V):drawK P D pf full os j js t d k v S hist pend=evDraw P D pf full os (j+1) js (putT t d v) S hist pend k:=rfl
end
def FreeOk (P:Program) (o:Oper) (ρ:Operand→V) (v:V):Prop:=∀S,OpStep P o ρ S v S
theorem PureOk.free {P:Program} {o:Oper} {ρ:Operand→V} {v:V} (h:PureOk P o ρ v):FreeOk P o ρ v:=fun S=>(h.run S).step
def WantedV (full:List Oper) (o:Oper) (t:Nat→V) (r:Bool):Prop :=
 (o.guard=none∧r=true)∨∃g want d,o.guard=some (g,want)∧dstAt full g=some d∧(t d=.bool (if r then want else !want)∨(r=false∧t d=.tup []))
section
variable {P:Program} {D:Nat→TD} {pf:Option FuncId→Bool}
theorem putT_self {t:Nat→V} {d:Nat} {b:Bool} (h:t d=.bool b):putT t (some d) (.bool b)=t:=by
 funext i
 by_cases e:i=d
 ·subst e; simp [putT,h]
 ·simp [putT,e]
structure Xtra (P:Program) (o:Oper) (ρ:Operand→V) (J:Nat) (S:List Blk) (v:V) (S':List Blk):Prop where
 alloc:isAlloc o.op=true→999999 < J→∃cs:List V,cs≠[]∧(∀v ∈ cs,Cl 0 v)∧v=.ptr S.length 0∧S'=S++[.cells 0 cs]∧∀S2,OpStep P o ρ S2 (.ptr S2.length 0) (S2++[.cells 0 cs])
theorem Xtra.no {P:Program} {o:Oper} {ρ:Operand→V} {J:Nat} {S:List Blk} {v:V} {S':List Blk} (h1:isFn o.op=false) (h2:isAlloc o.op=false):Xtra P o ρ J S v S' :=
 ⟨fun h=>by (rw [h2] at h; cases h)⟩
theorem constC_cl (v:Value):Cl 0 (constC v):=by
 unfold constC
 split <;> constructor
theorem zero_cl (hD:TypesOk P D) {t:TypeId} (hkn:((D t).k matches .none)=false):∀v ∈ (D t).zero,Cl 0 v:=by
 intro v hv
 rcases hD.ty t with h | ⟨⟨i,z,_,_,_,_,h,_,_⟩,_⟩
 ·rw [h] at hkn; cases hkn
 ·rw [←h] at hv
  obtain ⟨c,_,rfl⟩:=List.mem_map.1 hv
  exact constC_cl c
theorem drawOp_ok (hD:TypesOk P D) (o:Oper) {ρ:Operand→V} {j J:Nat} {S:List Blk} {hist:List (List Blk)} {pend:List (Nat × Nat)} {k:V→List Blk→List (List Blk)→List (Nat × Nat)→Prop}
  (h:evDrawOp P D pf o.op ρ j J S hist pend k):∃v S' hist' pend',k v S' hist' pend' ∧
   ((FreeOk P o ρ v∧S'=S∧isFixed pf o.op=false∧hist'=hist∧pend'=pend) ∨
    (∃b:Nat,isFixed pf o.op=false∧S'=S∧(∀S2,S2[b]?=S[b]?→RunOk P o ρ S2 v S2)∧(S[b]?).isSome=true∧histOk b S hist∧hist'=hist∧pend'=(b,J) :: pend) ∨
    (isFixed pf o.op=true∧OpStep P o ρ S v S'∧pendOk j S S' pend∧hist'=S :: hist∧pend'=pend∧Xtra P o ρ J S v S')):=by
 unfold evDrawOp at h
 split at h
 ·rename_i t a ho
  split at h
  ·rename_i b off ha
   obtain ⟨hh,h⟩:=h
   have h2:=h
   unfold evLoad at h
   simp only at h
   split at h
   ·rename_i sz cs hS
    obtain ⟨v,hkv,hv⟩:=load_of_part hD h
    refine ⟨v,S,hist,_,hkv,.inr (.inl ⟨b,by simp [ho,isFixed],rfl,fun S2 hS2=>?_,by simp [hS],hh,rfl,rfl⟩)⟩
    intro G ev w hop hR
    have h1:=hop a (by simp [ho,Op.operands])
    rw [ha] at h1
    generalize hc:ev a=c at h1
    cases h1 with
    | ptr hb hk =>
     obtain ⟨u,hr,hvr⟩:=hv G w (G.blk b) 0 (cells_of_blk hR (by rw [hS2,hS]) hk)
     rw [Nat.zero_add] at hr
     exact ⟨u,w,G,.inl (by simp [execOp,ho,hc,hr]),hvr,hR,Evol.refl _ _ _⟩
   ·exact h.elim
  ·rename_i x hx
   cases hxx:ρ a with
   | ptr b off=>exact absurd hxx (hx b off)
   | eptr e off =>
    rw [hxx] at h
    obtain ⟨v,hkv,hv⟩:=load_of_part hD h.2
    refine ⟨v,S,hist,pend,hkv,.inl ⟨PureOk.free ?_,rfl,by simp [ho,isFixed],rfl,rfl⟩⟩
    intro G ev w hop
    have h1:=hop a (by simp [ho,Op.operands])
    rw [hxx] at h1
    generalize hc:ev a=c at h1
    cases h1 with
    | eptr vs hl hv' ho' hh hp =>
     obtain ⟨u,hr,hvr⟩:=hv G w _ _ (cells_of_eptr hl hv' ho' hh)
     exact ⟨u,by simp [execOp,ho,hc,hr],hvr⟩
   | _=>rw [hxx] at h; exact h.elim
 ·rename_i t len parts ho
  split at h
  ·rename_i hf
   unfold evFrozen at h
   split at h
   ·rename_i e hk
    obtain ⟨g1,g2,g3,g4,g5,g6,g7⟩:=h
    have hb:evBuildSlice D t len (parts.toList.map fun p=>(p.1,ρ p.2)) [] fun v S'=>True:=by
     unfold evBuildSlice
     rw [hk]
     simp only [g6,Bool.false_eq_true,if_false]
     exact ⟨g1,g2,g3,g4,g5,trivial⟩
    refine ⟨_,S,hist,pend,g7,.inl ⟨fun S2=>?_,rfl,by simp [ho,isFixed,hf],rfl,rfl⟩⟩
    have hb2:evBuildSlice D t len (parts.toList.map fun p=>(p.1,ρ p.2)) S2 fun v S'=>v=.rows (some S2.length) ((parts.toList.map fun p=>(p.1,ρ p.2)).map fun x=>erase1 x.2)∧S'=S2++[.right (D e).size]:=by
     unfold evBuildSlice
     rw [hk]
     simp only [g6,Bool.false_eq_true,if_false]
     exact ⟨g1,g2,g3,g4,g5,by trivial,by trivial⟩
    obtain ⟨v,S',⟨rfl,rfl⟩,hrun⟩:=ev_buildSlice hD ho hb2
    refine (RunOk.frozen hrun (fun G w ev hop v hv=>?_)).step
    obtain ⟨x,hx,hvx⟩:=List.mem_flatMap.1 hv
    obtain ⟨y,hy,rfl⟩:=List.mem_map.1 hx
    obtain ⟨p,hp,rfl⟩:=List.mem_map.1 hy
    have h1:=hop p.2 (by simp [ho,Op.operands]; exact ⟨p.1,by simpa using hp⟩)
    exact (erase1_ok h1).cl.cells v hvx
   ·exact h.elim
  ·rename_i hf
   obtain ⟨v,S',⟨hp,hk⟩,hst⟩:=ev_op hD o (by rw [ho]; exact h)
   exact ⟨v,S',_,_,hk,.inr (.inr ⟨by simpa [ho,isFixed] using hf,hst,hp,rfl,rfl,.no (by rw [ho]; rfl) (by rw [ho]; rfl)⟩)⟩
 ·rename_i t ho
  have hh:=h
  unfold evOp at hh
  obtain ⟨g1,g2,g3⟩:=hh
  have hrun:=fun S2=>ev_alloc hD ho ρ S2 g1
  unfold alcK at g3
  split at g3
  ·obtain ⟨g4,hp,hk⟩:=g3
   have hbl:(D t).bld=false:=by cases hq:(D t).bld <;> simp_all
   have hze:(D t).zero.isEmpty=false:=by cases hq:(D t).zero.isEmpty <;> simp_all
   refine ⟨_,_,_,_,hk,.inr (.inr ⟨by rw [ho]; rfl,(hrun S).step,hp,rfl,rfl,⟨fun _ _=>⟨(D t).zero,?_,zero_cl hD g1,rfl,by rw [hbl]; rfl,fun S2=>by have h9:=(hrun S2).step; rw [hbl] at h9; exact h9⟩⟩⟩)⟩
   intro e
   rw [e] at hze
   cases hze
  ·rename_i hJ
   obtain ⟨hp,hk⟩:=g3
   exact ⟨_,_,_,_,hk,.inr (.inr ⟨by rw [ho]; rfl,(hrun S).step,hp,rfl,rfl,⟨fun _ h=>absurd h hJ⟩⟩)⟩
 ·rename_i src dst x ho
  have hf':isFixed pf o.op=false:=by rw [ho]; rfl
  split at h
  ·rename_i b n hx
   obtain ⟨hh,h⟩:=h
   obtain ⟨v,hk,hs,hv⟩:=conv_heap hD ho hx h
   exact ⟨v,S,hist,_,hk,.inr (.inl ⟨b,hf',rfl,hv,hs,hh,rfl,rfl⟩)⟩
  ·rename_i b n hx
   obtain ⟨hh,h⟩:=h
   obtain ⟨v,hk,hs,hv⟩:=conv_ptr ho hx h
   exact ⟨v,S,hist,_,hk,.inr (.inl ⟨b,hf',rfl,hv,hs,hh,rfl,rfl⟩)⟩
  ·obtain ⟨v,hk,hv⟩:=ev_conv hD ho h
   exact ⟨v,S,hist,pend,hk,.inl ⟨hv.free,rfl,hf',rfl,rfl⟩⟩
 ·rename_i c ho
  split at h
  ·rename_i hf
   split at h
   ·rename_i f hc
    obtain ⟨v,S',hfr,hst⟩:=ev_op hD o (by rw [ho]; exact h)
    obtain ⟨hp,hk⟩:=hfr
    exact ⟨v,S',_,_,hk,.inr (.inr ⟨by rw [ho]; exact hf,hst,hp,rfl,rfl,⟨fun h=>by (rw [ho] at h; cases h)⟩⟩)⟩
   ·rename_i cal hcal
    obtain ⟨v,S',⟨hp,hk⟩,hst⟩:=ev_op hD o (by rw [ho]; exact h)
    refine ⟨v,S',_,_,hk,.inr (.inr ⟨by rw [ho]; exact hf,hst,hp,rfl,rfl,.no ?_ (by rw [ho]; rfl)⟩)⟩
    rw [ho]
    unfold isFn
    cases hq:c.callee with
    | value x =>
     cases x with
     | func f=>exact absurd hq (hcal f)
     | _=>simp [hq]
    | _=>simp [hq]
  ·rename_i hf
   have hf':isFixed pf o.op=false:=by rw [ho]; simpa using hf
   split at h
   ·rename_i f hc
    unfold evPure at h
    split at h
    ·rename_i g cap hgc
     obtain ⟨x,hx,hq⟩:=h
     refine ⟨x,S,hist,pend,hq,.inl ⟨fun S2=>?_,rfl,hf',rfl,rfl⟩⟩
     obtain ⟨v,S',⟨rfl,rfl⟩,hst⟩:=ev_call (ρ:=ρ) (S:=S2) ho hc (k:=fun r S'=>r=x∧S'=S2) (by unfold evFn; rw [hgc]; exact hx S2)
     exact hst
    ·exact h.elim
   ·rename_i cal hcal
    unfold evOp at h
    simp only at h
    split at h
    ·rename_i f hc; exact absurd hc (hcal f)
    ·rename_i b hc
     have arr:∀{α:Type} (a:Array α) (l:List α),a.toList=l→a=l.toArray:=fun a l h=>by rw [←h]
     have pure_:∀{q:V→Prop},(∃v,q v∧PureOk P o ρ v)→(∀v,q v→k v S hist pend)→∃v S' hist' pend',k v S' hist' pend' ∧
       ((FreeOk P o ρ v∧S'=S∧isFixed pf o.op=false∧hist'=hist∧pend'=pend) ∨
        (∃b:Nat,isFixed pf o.op=false∧S'=S∧(∀S2,S2[b]?=S[b]?→RunOk P o ρ S2 v S2)∧(S[b]?).isSome=true∧histOk b S hist∧hist'=hist∧pend'=(b,J) :: pend) ∨
        (isFixed pf o.op=true∧OpStep P o ρ S v S'∧pendOk j S S' pend∧hist'=S :: hist∧pend'=pend∧Xtra P o ρ J S v S')):=by
      rintro q ⟨v,hq,hv⟩ hk
      exact ⟨v,S,hist,pend,hk v hq,.inl ⟨hv.free,rfl,hf',rfl,rfl⟩⟩
     unfold evBuiltin at h
     split at h
     ·rename_i t ts x hts hxs
      obtain ⟨y,hy,rfl⟩:∃y,c.args=#[y]∧ρ y=x:=by
       cases hq:c.args.toList with
       | nil=>rw [hq] at hxs; cases hxs
       | cons y l=>rw [hq] at hxs; simp at hxs; obtain ⟨rfl,rfl⟩:=hxs; exact ⟨y,arr _ _ hq,rfl⟩
      exact pure_ (ev_len hD ho hc ⟨ts,hts⟩ hy h) (fun _ hq=>hq)
     ·simp [ho,isFixed,hc] at hf
     ·rename_i x y hxs
      obtain ⟨p,q,hy,rfl,rfl⟩:∃p q,c.args=#[p,q]∧ρ p=x∧ρ q=y:=by
       cases hq:c.args.toList with
       | nil=>rw [hq] at hxs; cases hxs
       | cons y l =>
        rw [hq] at hxs
        cases l with
        | nil=>simp at hxs
        | cons z l=>simp at hxs; obtain ⟨rfl,rfl,rfl⟩:=hxs; exact ⟨y,z,arr _ _ hq,rfl,rfl⟩
      exact pure_ (ev_min ho hc hy h) (fun _ hq=>hq)
     ·rename_i x y z hxs
      obtain ⟨p,q,r,hy,rfl,rfl,rfl⟩:∃p q r,c.args=#[p,q,r]∧ρ p=x∧ρ q=y∧ρ r=z:=by
       cases hq:c.args.toList with
       | nil=>rw [hq] at hxs; cases hxs
       | cons y l =>
        rw [hq] at hxs
        cases l with
        | nil=>simp at hxs
        | cons z l =>
         cases l with
         | nil=>simp at hxs
         | cons u l=>simp at hxs; obtain ⟨rfl,rfl,rfl,rfl⟩:=hxs; exact ⟨y,z,u,arr _ _ hq,rfl,rfl,rfl⟩
      exact pure_ (ev_min3 ho hc hy h) (fun _ hq=>hq)
     ·rename_i x y hxs
      obtain ⟨p,q,hy,rfl,rfl⟩:∃p q,c.args=#[p,q]∧ρ p=x∧ρ q=y:=by
       cases hq:c.args.toList with
       | nil=>rw [hq] at hxs; cases hxs
       | cons y l =>
        rw [hq] at hxs
        cases l with
        | nil=>simp at hxs
        | cons z l=>simp at hxs; obtain ⟨rfl,rfl,rfl⟩:=hxs; exact ⟨y,z,arr _ _ hq,rfl,rfl⟩
      exact pure_ (ev_max ho hc hy h) (fun _ hq=>hq)
     ·rename_i x hxs
      obtain ⟨y,hy,rfl⟩:∃y,c.args=#[y]∧ρ y=x:=by
       cases hq:c.args.toList with
       | nil=>rw [hq] at hxs; cases hxs
       | cons y l=>rw [hq] at hxs; simp at hxs; obtain ⟨rfl,rfl⟩:=hxs; exact ⟨y,arr _ _ hq,rfl⟩
      exact pure_ (ev_data ho hc hy h) (fun _ hq=>hq)
     ·simp [ho,isFixed,hc] at hf
     ·exact h.elim
    ·exact h.elim
 ·rename_i op hnl hnb hna hncv hnc
  split at h
  ·rename_i hf
   obtain ⟨v,S',⟨hp,hk⟩,hst⟩:=ev_op hD o h
   refine ⟨v,S',_,_,hk,.inr (.inr ⟨hf,hst,hp,rfl,rfl,.no ?_ ?_⟩)⟩
   ·unfold isFn
    split
    ·rename_i c ho; exact absurd ho (hnc c)
    ·rfl
   ·unfold isAlloc
    split
    ·rename_i t ho; exact absurd ho (hna t)
    ·rfl
  ·rename_i hf
   have hf':isFixed pf o.op=false:=by simpa using hf
   have pure_:∀{q:V→Prop},(∃v,q v∧PureOk P o ρ v)→(∀v,q v→k v S hist pend)→∃v S' hist' pend',k v S' hist' pend' ∧
     ((FreeOk P o ρ v∧S'=S∧isFixed pf o.op=false∧hist'=hist∧pend'=pend) ∨
      (∃b:Nat,isFixed pf o.op=false∧S'=S∧(∀S2,S2[b]?=S[b]?→RunOk P o ρ S2 v S2)∧(S[b]?).isSome=true∧histOk b S hist∧hist'=hist∧pend'=(b,J) :: pend) ∨
      (isFixed pf o.op=true∧OpStep P o ρ S v S'∧pendOk j S S' pend∧hist'=S :: hist∧pend'=pend∧Xtra P o ρ J S v S')):=by
    rintro q ⟨v,hq,hv⟩ hk
    exact ⟨v,S,hist,pend,hk v hq,.inl ⟨hv.free,rfl,hf',rfl,rfl⟩⟩
   unfold evOp at h
   split at h
   ·rename_i x ho; exact pure_ ⟨_,h,ev_move (.inl ho) ρ⟩ (fun _ hq=>hq)
   ·rename_i x ho; exact pure_ ⟨_,h,ev_move (.inr ho) ρ⟩ (fun _ hq=>hq)
   ·rename_i c a b ho
    split at h
    ·rename_i t hc
     refine pure_ (q:=fun v=>k v S hist pend) ⟨_,?_,ev_pick ho ρ t hc⟩ (fun _ hq=>hq)
     cases t
     ·exact h.2 rfl
     ·exact h.1 rfl
    ·exact h.elim
   ·rename_i t ho; simp [ho,isFixed] at hf
   ·rename_i t x ho; simp [ho,isFixed] at hf
   ·rename_i t parts ho; exact pure_ (ev_build hD ho h) (fun _ hq=>hq)
   ·rename_i t len parts ho; exact absurd ho (hnb t len parts)
   ·rename_i t a ho; exact absurd ho (hnl t a)
   ·rename_i t a x ho; simp [ho,isFixed] at hf
   ·rename_i x ho; exact pure_ (ev_nil ho h) (fun _ hq=>hq)
   ·rename_i op t x y u ho; exact pure_ (ev_bin hD ho h) (fun _ hq=>hq)
   ·rename_i op t x ho; exact pure_ (ev_un ho h) (fun _ hq=>hq)
   ·rename_i src dst x ho; exact absurd ho (hncv src dst x)
   ·rename_i fn first captured ho; exact pure_ (ev_makeFunc ho h) (fun _ hq=>hq)
   ·rename_i t l c ho; simp [ho,isFixed] at hf
   ·rename_i t x lo hi ho; exact pure_ (ev_slice hD ho h) (fun _ hq=>hq)
   ·rename_i t x f ho; exact pure_ (ev_fieldAddr hD ho h) (fun _ hq=>hq)
   ·rename_i t x f ho; exact pure_ (ev_field hD ho h) (fun _ hq=>hq)
   ·rename_i t x i ho; exact pure_ (ev_indexAddr hD ho h) (fun _ hq=>hq)
   ·rename_i t x i ho; exact pure_ (ev_index hD ho h) (fun _ hq=>hq)
   ·rename_i x i ho; exact pure_ (ev_extract ho h) (fun _ hq=>hq)
   ·rename_i c ho; exact absurd ho (hnc c)
   ·exact h.elim
end
end
section
open Go
section
variable {P:Program} {D:Nat→TD} {pf:Option FuncId→Bool}
theorem histOk_mem {b:Nat} {S:List Blk}:∀{hist:List (List Blk)},histOk b S hist→∀S0 ∈ hist,S0[b]?=S[b]?
 | S1 :: r,h,S0,hm=>by
  rcases List.mem_cons.1 hm with rfl | hm
  ·exact h.1
  ·exact histOk_mem h.2 S0 hm
theorem pendOk_mem {j:Nat} {S S':List Blk}:∀{pend:List (Nat × Nat)},pendOk j S S' pend→∀x ∈ pend,j < x.2→S'[x.1]?=S[x.1]?
 | (b,J) :: r,h,x,hm,hj=>by
  rcases List.mem_cons.1 hm with rfl | hm
  ·have:=h.1; rwa [if_pos hj] at this
  ·exact pendOk_mem h.2 x hm hj
def DrawRes (P:Program) (pf:Option FuncId→Bool) (full os:List Oper) (i:Nat) (js:List Nat) (t:Nat→V) (S:List Blk) (hist:List (List Blk)) (pend:List (Nat × Nat)) (k:(Nat→V)→List Blk→Prop):Prop :=
 ∃(t':Nat→V) (S':List Blk) (val:Nat→V) (st:Nat→List Blk) (T:Nat→Nat→V),k t' S'∧T i=t∧st i=S∧T (i+os.length)=t'∧st (i+os.length)=S' ∧
   (∀j,i≤j→j < i+os.length→∃o,full[j]?=some o∧T (j+1)=putT (T j) o.dst (val j) ∧
    ((WantedV full o (T j) true ∧
      ((FreeOk P o (evalT (T j)) (val j)∧st (j+1)=st j∧isFixed pf o.op=false) ∨
       (∃b:Nat,isFixed pf o.op=false∧st (j+1)=st j∧(∀S2,S2[b]?=(st j)[b]?→RunOk P o (evalT (T j)) S2 (val j) S2)∧((st j)[b]?).isSome=true∧(∀S0 ∈ hist,S0[b]?=(st j)[b]?)∧(∀m,i≤m→m≤j→(st m)[b]?=(st j)[b]?) ∧
        ∀m,j < m→m < js.getD (j - i) 0→m < i+os.length→(st (m+1))[b]?=(st m)[b]?) ∨
       (isFixed pf o.op=true∧OpStep P o (evalT (T j)) (st j) (val j) (st (j+1))∧Xtra P o (evalT (T j)) (js.getD (j - i) 0) (st j) (val j) (st (j+1))))) ∨
     (WantedV full o (T j) false∧val j=.tup []∧st (j+1)=st j))) ∧
   (∀x ∈ pend,∀m,i≤m→m < x.2→m < i+os.length→(st (m+1))[x.1]?=(st m)[x.1]?)
theorem draw_data (hD:TypesOk P D) (full:List Oper):∀(os:List Oper) (i:Nat) (js:List Nat),(∀j,os[j]?=full[i+j]?)→∀(t:Nat→V) (S:List Blk) (hist:List (List Blk)) (pend:List (Nat × Nat)) (k:(Nat→V)→List Blk→Prop),
  evDraw P D pf full os i js t S hist pend k→DrawRes P pf full os i js t S hist pend k
 | [],i,js,_,t,S,hist,pend,k,h=>⟨t,S,fun _=>.junk,fun _=>S,fun _=>t,h,rfl,rfl,rfl,rfl,fun j h1 h2=>by simp at h2; omega,fun x _ m h1 _ h2=>by simp at h2; omega⟩
 | o :: os,i,js,hfull,t,S,hist,pend,k,h=>by
  have ho:full[i]?=some o:=by have:=hfull 0; simpa using this.symm
  have hrest:∀j,os[j]?=full[i+1+j]?:=fun j=>by have:=hfull (j+1); simpa [Nat.add_assoc,Nat.add_comm 1 j] using this
  have hjs:∀m,js.tail.getD m 0=js.getD (m+1) 0:=fun m=>by cases js <;> simp [List.getD]
  have hj0:js.headD 0=js.getD 0 0:=by cases js <;> simp [List.getD]
  have cons_:∀(v:V) (S1:List Blk) (hist1:List (List Blk)) (pend1:List (Nat × Nat)),evDraw P D pf full os (i+1) js.tail (putT t o.dst v) S1 hist1 pend1 k →
    ((WantedV full o t true ∧
      ((FreeOk P o (evalT t) v∧S1=S∧isFixed pf o.op=false∧hist1=hist∧pend1=pend) ∨
       (∃b:Nat,isFixed pf o.op=false∧S1=S∧(∀S2,S2[b]?=S[b]?→RunOk P o (evalT t) S2 v S2)∧(S[b]?).isSome=true∧histOk b S hist∧hist1=hist∧pend1=(b,js.headD 0) :: pend) ∨
       (isFixed pf o.op=true∧OpStep P o (evalT t) S v S1∧pendOk i S S1 pend∧hist1=S :: hist∧pend1=pend∧Xtra P o (evalT t) (js.headD 0) S v S1))) ∨
     (WantedV full o t false∧v=.tup []∧S1=S∧hist1=hist∧pend1=pend))→DrawRes P pf full (o :: os) i js t S hist pend k:=by
   intro v S1 hist1 pend1 hev hcls
   obtain ⟨t',S',val,st,T,hk,hT0,hs0,hTn,hsn,hall,hpend⟩:=draw_data hD full os (i+1) js.tail hrest _ _ _ _ k hev
   have hlen:i+1+os.length=i+(o :: os).length:=by simp; omega
   have hne:∀j,i+1≤j→j≠i:=fun j hj=>by omega
   refine ⟨t',S',fun j=>if j=i then v else val j,fun j=>if j=i then S else st j,fun j=>if j=i then t else T j,hk,by simp,by simp,?_,?_,?_,?_⟩
   ·rw [←hlen]; simp only; rw [if_neg (by omega)]; exact hTn
   ·rw [←hlen]; simp only; rw [if_neg (by omega)]; exact hsn
   ·intro j hj hjn
    by_cases e:j=i
    ·subst e
     refine ⟨o,ho,by simp [hT0],?_⟩
     have e1:(fun m=>if m=j then S else st m) (j+1)=S1:=by simp [hs0]
     rcases hcls with ⟨hw,hc⟩ | ⟨hw,hv,hS,_,_⟩
     ·refine .inl ⟨by simpa using hw,?_⟩
      rcases hc with ⟨h1,h2,h3,_,_⟩ | ⟨b,h1,h2,h3,hsm,h4,h5,h6⟩ | ⟨h1,h2,_,_,_,h3⟩
      ·exact .inl ⟨by simpa using h1,by simp [hs0,h2],h3⟩
      ·refine .inr (.inl ⟨b,h1,by simp [hs0,h2],by simpa using h3,by simpa using hsm,fun S0 hS0=>by simpa using histOk_mem h4 S0 hS0,fun m h7 h8=>by rw [show m=j by omega],fun m h7 h8 h9=>?_⟩)
       have hp:=hpend (b,js.headD 0) (by rw [h6]; exact List.mem_cons_self) m (by omega) (by rw [hj0]; simpa using h8) (by rw [hlen]; exact h9)
       simp only
       rw [if_neg (by omega),if_neg (by omega)]
       exact hp
      ·exact .inr (.inr ⟨h1,by simpa [hs0] using h2,by rw [hj0] at h3; simpa [hs0] using h3⟩)
     ·exact .inr ⟨by simpa using hw,by simpa using hv,by simp [hs0,hS]⟩
    ·obtain ⟨o',ho',hTj,hcl⟩:=hall j (by omega) (by rw [hlen]; exact hjn)
     refine ⟨o',ho',?_,?_⟩
     ·simp only [e,if_false,show ¬(j+1=i) by omega]; exact hTj
     ·simp only [e,if_false,show ¬(j+1=i) by omega]
      rcases hcl with ⟨hw,hc⟩ | hn
      ·refine .inl ⟨hw,?_⟩
       rcases hc with h1 | ⟨b,h1,h2,h3,hsm,h4,h5,h6⟩ | ⟨h1,h2,h3⟩
       ·exact .inl h1
       ·refine .inr (.inl ⟨b,h1,h2,h3,hsm,?_,?_,?_⟩)
        ·intro S0 hS0
         refine h4 S0 ?_
         rcases hcls with ⟨_,hc⟩ | ⟨_,_,_,h7,_⟩
         ·rcases hc with ⟨_,_,_,h7,_⟩ | ⟨_,_,_,_,_,_,h7,_⟩ | ⟨_,_,_,h7,_⟩
          ·rw [h7]; exact hS0
          ·rw [h7]; exact hS0
          ·rw [h7]; exact List.mem_cons_of_mem _ hS0
         ·rw [h7]; exact hS0
        ·intro m hm hmj
         by_cases em:m=i
         ·rw [if_pos em]
          rcases hcls with ⟨_,hc⟩ | ⟨_,_,h7,_,_⟩
          ·rcases hc with ⟨_,h7,_⟩ | ⟨_,_,h7,_⟩ | ⟨_,_,_,h7,_⟩
           ·rw [←h7,←hs0]; exact h5 (i+1) (Nat.le_refl _) (by omega)
           ·rw [←h7,←hs0]; exact h5 (i+1) (Nat.le_refl _) (by omega)
           ·exact h4 S (by rw [h7]; exact List.mem_cons_self)
          ·rw [←h7,←hs0]; exact h5 (i+1) (Nat.le_refl _) (by omega)
         ·rw [if_neg em]; exact h5 m (by omega) hmj
        ·intro m hm hmJ hmn
         rw [if_neg (by omega),if_neg (by omega)]
         refine h6 m hm ?_ (by rw [hlen]; exact hmn)
         rw [hjs,show j - (i+1)+1=j - i by omega]
         exact hmJ
       ·exact .inr (.inr ⟨h1,h2,by rw [hjs,show j - (i+1)+1=j - i by omega] at h3; exact h3⟩)
      ·exact .inr hn
   ·intro x hx m hm hmJ hmn
    by_cases em:m=i
    ·subst em
     simp only [if_true]
     rw [if_neg (by omega),hs0]
     rcases hcls with ⟨_,hc⟩ | ⟨_,_,h7,_,_⟩
     ·rcases hc with ⟨_,h7,_⟩ | ⟨_,_,h7,_⟩ | ⟨_,_,h7,_,_⟩
      ·rw [h7]
      ·rw [h7]
      ·exact pendOk_mem h7 x hx hmJ
     ·rw [h7]
    ·simp only
     rw [if_neg (by omega),if_neg em]
     refine hpend x ?_ m (by omega) hmJ (by rw [hlen]; exact hmn)
     rcases hcls with ⟨_,hc⟩ | ⟨_,_,_,_,h7⟩
     ·rcases hc with ⟨_,_,_,_,h7⟩ | ⟨_,_,_,_,_,_,_,h7⟩ | ⟨_,_,_,_,h7,_⟩
      ·rw [h7]; exact hx
      ·rw [h7]; exact List.mem_cons_of_mem _ hx
      ·rw [h7]; exact hx
     ·rw [h7]; exact hx
  simp only [evDraw] at h
  split at h
  ·rename_i hg
   obtain ⟨v,S1,hist1,pend1,hk,hcls⟩:=drawOp_ok hD o h
   exact cons_ v S1 hist1 pend1 hk (.inl ⟨.inl ⟨hg,rfl⟩,hcls⟩)
  ·rename_i g want hg
   split at h
   ·rename_i d hd
    split at h
    ·rename_i b hb
     by_cases hbw:b=want
     ·have hs:=putT_self (t:=t) (d:=d) (b:=want) (by rw [hb,hbw])
      have h1:=h.1 hbw
      rw [hs] at h1
      obtain ⟨v,S1,hist1,pend1,hk,hcls⟩:=drawOp_ok hD o h1
      exact cons_ v S1 hist1 pend1 hk (.inl ⟨.inr ⟨g,want,d,hg,hd,.inl (by rw [hb,hbw]; rfl)⟩,hcls⟩)
     ·have hbn:b=!want:=by (clear cons_ h; revert hbw; cases b <;> cases want <;> simp)
      have hs:=putT_self (t:=t) (d:=d) (b:=!want) (by rw [hb,hbn])
      have h1:=h.2 hbn
      rw [hs] at h1
      exact cons_ (.tup []) S hist pend h1 (.inr ⟨.inr ⟨g,want,d,hg,hd,.inl (by rw [hb,hbn]; rfl)⟩,rfl,rfl,rfl,rfl⟩)
    ·rename_i hu
     exact cons_ (.tup []) S hist pend h (.inr ⟨.inr ⟨g,want,d,hg,hd,.inr ⟨rfl,hu⟩⟩,rfl,rfl,rfl,rfl⟩)
    ·exact h.elim
   ·exact h.elim
end
end
end Go.Proofs.Ytldogccmhncnoaa
