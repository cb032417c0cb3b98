/- A part of the proof: contracts of functions, or plain facts on which these lean. -/
import Derived.Test.YtldogccmhncnoaaProg
import Derived.Test.YtldogccmhncnoaaMp11
namespace Go.Proofs.Ytldogccmhncnoaa
open Go
set_option linter.unusedVariables false
set_option linter.unusedSimpArgs false
set_option maxRecDepth 100000
set_option maxHeartbeats 16000000

section
open Go
def Dl:List TD:=[
 ⟨.none,0,0,[],false,false⟩,
 ⟨.none,0,0,[],false,false⟩,
 ⟨.int .i64,1,8,[.int .i64 0],false,false⟩,
 ⟨.int .i64,1,8,[.int .i64 0],false,false⟩,
 ⟨.bool,1,1,[.bool false],false,false⟩,
 ⟨.int .u8,1,1,[.int .u8 0],false,false⟩,
 ⟨.none,0,0,[],false,false⟩,
 ⟨.none,0,0,[],false,false⟩,
 ⟨.none,0,0,[],false,false⟩,
 ⟨.str,1,16,[.str []],false,false⟩,
 ⟨.none,0,0,[],false,false⟩,
 ⟨.none,0,0,[],false,false⟩,
 ⟨.none,0,0,[],false,false⟩,
 ⟨.none,0,0,[],false,false⟩,
 ⟨.none,0,0,[],false,false⟩,
 ⟨.none,0,0,[],false,false⟩,
 ⟨.none,0,0,[],false,false⟩,
 ⟨.none,0,0,[],false,false⟩,
 ⟨.none,0,0,[],false,false⟩,
 ⟨.none,0,0,[],false,false⟩,
 ⟨.none,0,0,[],false,false⟩,
 ⟨.int .i32,1,4,[.int .i32 0],false,false⟩,
 ⟨.slc 49,1,24,[.nils],false,false⟩,
 ⟨.strct [(0,1,22),(1,1,3)],2,32,[.nils,.int .i64 0],false,false⟩,
 ⟨.strct [(0,1,22),(1,1,3)],2,32,[.nils,.int .i64 0],false,false⟩,
 ⟨.none,0,0,[],false,false⟩,
 ⟨.slc 41,1,24,[.nils],false,false⟩,
 ⟨.strct [(0,1,26),(1,1,3)],2,32,[.nils,.int .i64 0],false,false⟩,
 ⟨.strct [(0,1,26),(1,1,3)],2,32,[.nils,.int .i64 0],false,false⟩,
 ⟨.none,0,0,[],false,false⟩,
 ⟨.none,0,0,[],false,false⟩,
 ⟨.none,0,0,[],false,false⟩,
 ⟨.none,0,0,[],false,false⟩,
 ⟨.none,0,0,[],false,false⟩,
 ⟨.none,0,0,[],false,false⟩,
 ⟨.none,0,0,[],false,false⟩,
 ⟨.none,0,0,[],false,false⟩,
 ⟨.none,0,0,[],false,false⟩,
 ⟨.none,0,0,[],false,false⟩,
 ⟨.none,0,0,[],false,false⟩,
 ⟨.strct [(0,1,9),(1,1,9),(2,1,4)],3,40,[.str [],.str [],.bool false],false,false⟩,
 ⟨.strct [(0,1,9),(1,1,9),(2,1,4)],3,40,[.str [],.str [],.bool false],false,false⟩,
 ⟨.none,0,0,[],false,false⟩,
 ⟨.none,0,0,[],false,false⟩,
 ⟨.none,0,0,[],false,false⟩,
 ⟨.none,0,0,[],false,false⟩,
 ⟨.none,0,0,[],false,false⟩,
 ⟨.none,0,0,[],false,false⟩,
 ⟨.none,0,0,[],false,false⟩,
 ⟨.strct [(0,1,9),(1,1,9),(2,1,4)],3,40,[.str [],.str [],.bool false],false,false⟩,
 ⟨.none,0,0,[],false,false⟩,
 ⟨.none,0,0,[],false,false⟩,
 ⟨.none,0,0,[],false,false⟩,
 ⟨.none,0,0,[],false,false⟩,
 ⟨.none,0,0,[],false,false⟩,
 ⟨.none,0,0,[],false,false⟩,
 ⟨.none,0,0,[],false,false⟩,
 ⟨.none,0,0,[],false,false⟩,
 ⟨.none,0,0,[],false,false⟩,
 ⟨.none,0,0,[],false,false⟩,
 ⟨.none,0,0,[],false,false⟩,
 ⟨.none,0,0,[],false,false⟩,
 ⟨.none,0,0,[],false,false⟩,
 ⟨.none,0,0,[],false,false⟩,
 ⟨.none,0,0,[],false,false⟩,
 ⟨.none,0,0,[],false,false⟩,
 ⟨.slc 5,1,24,[.nils],false,false⟩,
 ⟨.none,0,0,[],false,false⟩,
 ⟨.none,0,0,[],false,false⟩,
 ⟨.none,0,0,[],false,false⟩,
 ⟨.none,0,0,[],false,false⟩,
 ⟨.none,0,0,[],false,false⟩,
 ⟨.none,0,0,[],false,false⟩,
 ⟨.none,0,0,[],false,false⟩,
 ⟨.none,0,0,[],false,false⟩,
 ⟨.none,0,0,[],false,false⟩,
 ⟨.none,0,0,[],false,false⟩,
 ⟨.none,0,0,[],false,false⟩,
 ⟨.slc 26,1,24,[.nils],false,false⟩,
 ⟨.none,0,0,[],false,false⟩,
 ⟨.none,0,0,[],false,false⟩,
 ⟨.none,0,0,[],false,false⟩,
 ⟨.none,0,0,[],false,false⟩,
 ⟨.none,0,0,[],false,false⟩,
 ⟨.none,0,0,[],false,false⟩,
 ⟨.int .u64,1,8,[.int .u64 0],false,false⟩,
 ⟨.slc 5,1,24,[.nils],false,false⟩,
 ⟨.none,0,0,[],false,false⟩,
 ⟨.none,0,0,[],false,false⟩,
 ⟨.none,0,0,[],false,false⟩,
 ⟨.ptr,1,8,[.nilp],false,false⟩,
 ⟨.slc 3,1,24,[.nils],false,false⟩,
 ⟨.none,0,0,[],false,false⟩,
 ⟨.none,0,0,[],false,false⟩,
 ⟨.none,0,0,[],false,false⟩,
 ⟨.none,0,0,[],false,false⟩,
 ⟨.none,0,0,[],false,false⟩,
 ⟨.none,0,0,[],false,false⟩,
 ⟨.none,0,0,[],false,false⟩,
 ⟨.none,0,0,[],false,false⟩,
 ⟨.int .u32,1,4,[.int .u32 0],false,false⟩,
 ⟨.none,0,0,[],false,false⟩,
 ⟨.none,0,0,[],false,false⟩,
 ⟨.none,0,0,[],false,false⟩,
 ⟨.ptr,1,8,[.nilp],false,false⟩]
def D (t:Nat):TD:=(Dl[t]?).getD ⟨.none,0,0,[],false,false⟩
@[push_cast] theorem D2:D 2=⟨.int .i64,1,8,[.int .i64 0],false,false⟩:=rfl
@[push_cast] theorem D3:D 3=⟨.int .i64,1,8,[.int .i64 0],false,false⟩:=rfl
@[push_cast] theorem D4:D 4=⟨.bool,1,1,[.bool false],false,false⟩:=rfl
@[push_cast] theorem D5:D 5=⟨.int .u8,1,1,[.int .u8 0],false,false⟩:=rfl
@[push_cast] theorem D9:D 9=⟨.str,1,16,[.str []],false,false⟩:=rfl
@[push_cast] theorem D21:D 21=⟨.int .i32,1,4,[.int .i32 0],false,false⟩:=rfl
@[push_cast] theorem D22:D 22=⟨.slc 49,1,24,[.nils],false,false⟩:=rfl
@[push_cast] theorem D23:D 23=⟨.strct [(0,1,22),(1,1,3)],2,32,[.nils,.int .i64 0],false,false⟩:=rfl
@[push_cast] theorem D24:D 24=⟨.strct [(0,1,22),(1,1,3)],2,32,[.nils,.int .i64 0],false,false⟩:=rfl
@[push_cast] theorem D26:D 26=⟨.slc 41,1,24,[.nils],false,false⟩:=rfl
@[push_cast] theorem D27:D 27=⟨.strct [(0,1,26),(1,1,3)],2,32,[.nils,.int .i64 0],false,false⟩:=rfl
@[push_cast] theorem D28:D 28=⟨.strct [(0,1,26),(1,1,3)],2,32,[.nils,.int .i64 0],false,false⟩:=rfl
@[push_cast] theorem D40:D 40=⟨.strct [(0,1,9),(1,1,9),(2,1,4)],3,40,[.str [],.str [],.bool false],false,false⟩:=rfl
@[push_cast] theorem D41:D 41=⟨.strct [(0,1,9),(1,1,9),(2,1,4)],3,40,[.str [],.str [],.bool false],false,false⟩:=rfl
@[push_cast] theorem D49:D 49=⟨.strct [(0,1,9),(1,1,9),(2,1,4)],3,40,[.str [],.str [],.bool false],false,false⟩:=rfl
@[push_cast] theorem D66:D 66=⟨.slc 5,1,24,[.nils],false,false⟩:=rfl
@[push_cast] theorem D78:D 78=⟨.slc 26,1,24,[.nils],false,false⟩:=rfl
@[push_cast] theorem D85:D 85=⟨.int .u64,1,8,[.int .u64 0],false,false⟩:=rfl
@[push_cast] theorem D86:D 86=⟨.slc 5,1,24,[.nils],false,false⟩:=rfl
@[push_cast] theorem D90:D 90=⟨.ptr,1,8,[.nilp],false,false⟩:=rfl
@[push_cast] theorem D91:D 91=⟨.slc 3,1,24,[.nils],false,false⟩:=rfl
@[push_cast] theorem D100:D 100=⟨.int .u32,1,4,[.int .u32 0],false,false⟩:=rfl
@[push_cast] theorem D104:D 104=⟨.ptr,1,8,[.nilp],false,false⟩:=rfl
theorem chkD:(List.range Dl.length).all (fun t=>tyChk Try.prog t (D t) && decide ((D t).size < 1000000) && !(D t).bld)=true:=by kernel_rfl
theorem hD:TypesOk Try.prog D:=typesOk_of Dl D (fun _=>rfl) chkD (by kernel_rfl)
end
section
open Go
def jsOk (pf:Option FuncId→Bool) (J:Nat→List Nat):Code→Bool
 | .region id ops true=>drawOk pf ops.toList (J id)
 | .seq a b=>jsOk pf J a && jsOk pf J b
 | .cond _ a b=>jsOk pf J a && jsOk pf J b
 | .block _ c=>jsOk pf J c
 | _=>true
def evC (P:Program) (D:Nat→TD) (N:Nat) (pf:Option FuncId→Bool) (J:Nat→List Nat):Code→(Exit→(Nat→V)→List Blk→Prop)→(Nat→V)→List Blk→Prop
 | .skip,k,t,S=>k .normal t S
 | .ret,k,t,S=>k .ret t S
 | .exit id,k,t,S=>k (.exit id) t S
 | .region _ ops false,k,t,S=>evOps P D ops.toList ops.toList t S (k .normal)
 | .region id ops true,k,t,S=>evDraw P D pf ops.toList ops.toList 0 (J id) t S [] [] (k .normal)
 | .seq a b,k,t,S=>evC P D N pf J a (thenK (evC P D N pf J b k) k) t S
 | .cond c a b,k,t,S=>condK (evalT t c) (evC P D N pf J a k t S) (evC P D N pf J b k t S)
 | .block id c,k,t,S=>evC P D N pf J c (blockK id k) t S
 | c,k,t,S=>wpV P D N c k t S
section
variable {P:Program} {D:Nat→TD} {N:Nat} {pf:Option FuncId→Bool} {J:Nat→List Nat}
theorem thenK_mono {K K':(Nat→V)→List Blk→Prop} {k:Exit→(Nat→V)→List Blk→Prop} (h:∀t S,K t S→K' t S):∀e t S,thenK K k e t S→thenK K' k e t S:=by
 intro e t S hk
 cases e <;> first | exact h _ _ hk | exact hk
theorem wpV_of_ev (hD:TypesOk P D):∀(c:Code) {k:Exit→(Nat→V)→List Blk→Prop} {t:Nat→V} {S:List Blk},jsOk pf J c=true→evC P D N pf J c k t S→wpV P D N c k t S:=by
 intro c
 induction c with
 | skip=>intro k t S _ h; exact wpV_skip (by simpa [evC] using h)
 | ret=>intro k t S _ h; exact wpV_ret (by simpa [evC] using h)
 | exit id=>intro k t S _ h; exact wpV_exit (by simpa [evC] using h)
 | region id ops d =>
  intro k t S hj h
  cases d with
  | false=>exact wpV_region hD (by simpa [evC] using h)
  | true=>exact wpV_draw hD pf (J id) (by simpa [jsOk] using hj) (by simpa [evC] using h)
 | seq a b iha ihb =>
  intro k t S hj h
  simp only [jsOk,Bool.and_eq_true] at hj
  simp only [evC] at h
  refine wpV_seq (wpV_mono (iha hj.1 h) ?_)
  exact thenK_mono (fun t S hh=>ihb hj.2 hh)
 | cond c a b iha ihb =>
  intro k t S hj h
  simp only [jsOk,Bool.and_eq_true] at hj
  simp only [evC] at h
  refine wpV_cond ?_
  unfold condK at h ⊢
  split at h
  ·rename_i x hx
   exact ⟨fun e=>iha hj.1 (h.1 e),fun e=>ihb hj.2 (h.2 e)⟩
  ·exact h.elim
 | block id c ih =>
  intro k t S hj h
  exact wpV_block (ih (by simpa [jsOk] using hj) (by simpa [evC] using h))
 | _=>intro k t S _ h; exact (by simpa [evC] using h)
theorem wpV_of (hD:TypesOk P D) (pf:Option FuncId→Bool) (J:Nat→List Nat) {c:Code} {k:Exit→(Nat→V)→List Blk→Prop} {t:Nat→V} {S:List Blk} (hj:jsOk pf J c=true) (h:evC P D N pf J c k t S):wpV P D N c k t S :=
 wpV_of_ev hD c hj h
def endK (D:Nat→TD) (rs:List ResultVar) (S:List Blk) (q:V→List Blk→Prop) (e:Exit) (t':Nat→V) (S':List Blk):Prop :=
 (e=.normal∨e=.ret)∧evRes D rs t' S' fun vs=>∃r S2,Wk S (oneOf vs) S' r S2∧q r S2
theorem VCall.of_ev (hD:TypesOk P D) (pf:Option FuncId→Bool) (J:Nat→List Nat) {f:FuncId} {fn:Func} {c:Code} (hf:P.funcs[f]?=some fn) (hb:fn.body=some c) (hname:(fn.name == "runtime.NumGoroutine")=false) {n:Nat} (hn:fn.ntmps=n) (hok:codeOk n c=true) (hj:jsOk pf J c=true)
  {rs:List ResultVar} (hrs:fn.results.toList=rs) {args:List V} (hargs:args.length≤n) {S:List Blk} {q:V→List Blk→Prop}
  (h:evC P D n pf J c (endK D rs S q) (argT args) S):VCall P f args S q :=
 .inl <| VCall.of_body hD hf hb hname hn hok hrs hargs (wpV_of_ev hD c hj h)
theorem VCall.ex (hD:TypesOk P D) (pf:Option FuncId→Bool) (J:Nat→List Nat) {f:FuncId} {fn:Func} {c:Code} {n:Nat} {ra:Array ResultVar} {args:List V} {S:List Blk} {q:V→List Blk→Prop} (hf:P.funcs[f]?=some fn) (hn:fn.ntmps=n) (hrs:fn.results=ra)
  (h:evC P D n pf J c (endK D ra.toList S q) (argT args) S) (hb:fn.body=some c:=by exact rfl) (hname:(fn.name == "runtime.NumGoroutine")=false:=by exact rfl) (hok:codeOk n c=true:=by kernel_rfl) (hj:jsOk pf J c=true:=by kernel_rfl) (hargs:args.length≤n:=by simp):VCall P f args S q :=
 VCall.of_ev hD pf J hf hb hname hn hok hj (congrArg Array.toList hrs) hargs h
theorem VCall.en (hD:TypesOk P D) {f:FuncId} {fn:Func} {c:Code} {n:Nat} {ra:Array ResultVar} {args:List V} {S:List Blk} {q:V→List Blk→Prop} (hf:P.funcs[f]?=some fn) (hn:fn.ntmps=n) (hrs:fn.results=ra)
  (h:evC P D n (fun _=>false) (fun _=>[]) c (endK D ra.toList S q) (argT args) S) (hb:fn.body=some c:=by exact rfl) (hname:(fn.name == "runtime.NumGoroutine")=false:=by exact rfl) (hok:codeOk n c=true:=by kernel_rfl) (hj:jsOk (fun _=>false) (fun _=>[]) c=true:=by kernel_rfl) (hargs:args.length≤n:=by simp):VCall P f args S q :=
 VCall.of_ev hD _ _ hf hb hname hn hok hj (congrArg Array.toList hrs) hargs h
theorem wpV_of0 (hD:TypesOk P D) {c:Code} {k:Exit→(Nat→V)→List Blk→Prop} {t:Nat→V} {S:List Blk} (h:evC P D N (fun _=>false) (fun _=>[]) c k t S) (hj:jsOk (fun _=>false) (fun _=>[]) c=true:=by kernel_rfl):wpV P D N c k t S :=
 wpV_of hD _ _ hj h
theorem VCall.mono {f:FuncId} {args:List V} {S:List Blk} {q k:V→List Blk→Prop} (h:VCall P f args S q) (hk:∀r S',q r S'→k r S'):VCall P f args S k:=by
 rcases h with ⟨he,r,S',hq,hd⟩ | ⟨r,hq,hx⟩
 ·exact .inl ⟨he,r,S',hk r S' hq,hd⟩
 ·exact .inr ⟨r,hk r S hq,hx⟩
theorem VCall.to {f:FuncId} {args:List V} {S:List Blk} {x:V} {S1:List Blk} {k:V→List Blk→Prop} (h:VCall P f args S fun r S'=>r=x∧S'=S1) (hk:k x S1):VCall P f args S k :=
 h.mono (by rintro _ _ ⟨rfl,rfl⟩; exact hk)
section
variable {a a':List Oper} {o o':List Oper} {t t':Nat→V} {S S':List Blk} {k:(Nat→V)→List Blk→Prop}
@[congr] theorem evOps_congr (h1:t=t') (h2:S=S'):evOps P D a o t S k=evOps P D a o t' S' k:=by rw [h1,h2]
@[congr] theorem evC_congr {c:Code} {k:Exit→(Nat→V)→List Blk→Prop} (h1:t=t') (h2:S=S'):evC P D N pf J c k t S=evC P D N pf J c k t' S':=by rw [h1,h2]
@[congr] theorem wpV_congr {c:Code} {k:Exit→(Nat→V)→List Blk→Prop} (h1:t=t') (h2:S=S'):wpV P D N c k t S=wpV P D N c k t' S':=by rw [h1,h2]
@[congr] theorem condK_congr {v v':V} {p q:Prop} (h1:v=v'):condK v p q=condK v' p q:=by rw [h1]
@[congr] theorem VCall_congr {f:FuncId} {args args':List V} {q:V→List Blk→Prop} (h1:args=args') (h2:S=S'):VCall P f args S q=VCall P f args' S' q:=by rw [h1,h2]
@[congr] theorem evOp_congr {x:Op} {ρ:Operand→V} {q:V→List Blk→Prop} (h2:S=S'):evOp P D x ρ S q=evOp P D x ρ S' q:=by rw [h2]
@[congr] theorem evDrawOp_congr {x:Op} {ρ:Operand→V} {j n:Nat} {h:List (List Blk)} {p:List (Nat × Nat)} {q:V→List Blk→List (List Blk)→List (Nat × Nat)→Prop} (h2:S=S'):evDrawOp P D pf x ρ j n S h p q=evDrawOp P D pf x ρ j n S' h p q:=by rw [h2]
@[congr] theorem evDraw_congr {j:Nat} {js:List Nat} {h:List (List Blk)} {p:List (Nat × Nat)} (h1:t=t') (h2:S=S'):evDraw P D pf a o j js t S h p k=evDraw P D pf a o j js t' S' h p k:=by rw [h1,h2]
@[congr] theorem evRes_congr {rs:List ResultVar} {q:List V→Prop} (h1:t=t') (h2:S=S'):evRes D rs t S q=evRes D rs t' S' q:=by rw [h1,h2]
theorem condK_t (p q:Prop):condK (.bool true) p q=p:=by simp [condK]
theorem condK_f (p q:Prop):condK (.bool false) p q=q:=by simp [condK]
theorem gd (p q:Prop):(guardK true true p q=p∧guardK false false p q=p)∧(guardK true false p q=q∧guardK false true p q=q)∧condK (.bool true) p q=p∧condK (.bool false) p q=q :=
 ⟨⟨guardK_tt p q,guardK_ff p q⟩,⟨guardK_tf p q,guardK_ft p q⟩,condK_t p q,condK_f p q⟩
attribute [push_cast] Option.some.injEq
theorem condK_b (b:Bool) (p q:Prop):condK (.bool b) p q=((b=true→p)∧(b=false→q)):=rfl
section
variable {v v' x x' y y':V} {vs vs' ws ws':List V} {q:V→Prop} {q2:V→List Blk→Prop} {S S':List Blk} {t u n m:Nat} {z:Int}
@[congr] theorem evBin_congr {o:BinOp} (h1:x=x') (h2:y=y'):evBin D o t x y q=evBin D o t x' y' q:=by rw [h1,h2]
@[congr] theorem evUn_congr {o:UnOp} (h1:x=x'):evUn o x q=evUn o x' q:=by rw [h1]
@[congr] theorem evConv_congr (h1:x=x'):evConv D t u x q=evConv D t u x' q:=by rw [h1]
@[congr] theorem evConvS_congr (h1:x=x') (h2:S=S'):evConvS P D t u x S q2=evConvS P D t u x' S' q2:=by rw [h1,h2]
@[congr] theorem evData_congr (h1:x=x'):evData x q=evData x' q:=by rw [h1]
@[congr] theorem evUStr_congr (h1:x=x') (h2:y=y') (h3:S=S'):evUStr P t x y S q2=evUStr P t x' y' S' q2:=by rw [h1,h2,h3]
@[congr] theorem appW_congr (h1:x=x') (h2:y=y') (h3:S=S'):appW D t x y S q2=appW D t x' y' S' q2:=by rw [h1,h2,h3]
@[congr] theorem evPart_congr (h1:vs=vs') (h2:n=m):evPart D t vs n q=evPart D t vs' m q:=by rw [h1,h2]
@[congr] theorem evLoad_congr (h1:x=x') (h2:S=S'):evLoad D t x S q=evLoad D t x' S' q:=by rw [h1,h2]
@[congr] theorem evStore_congr {q:List Blk→Prop} (h1:x=x') (h2:y=y') (h3:S=S'):evStore D t x y S q=evStore D t x' y' S' q:=by rw [h1,h2,h3]
@[congr] theorem evFill_congr {fs:List (Nat × Nat × TypeId)} {ps ps':List (Nat × V)} {q:List V→Prop} (h1:ps=ps') (h2:vs=vs'):evFill fs ps vs q=evFill fs ps' vs' q:=by rw [h1,h2]
@[congr] theorem evBuild_congr {ps ps':List (Nat × V)} (h1:ps=ps'):evBuild D t ps q=evBuild D t ps' q:=by rw [h1]
@[congr] theorem evBuildSlice_congr {ps ps':List (Nat × V)} (h1:ps=ps') (h2:S=S'):evBuildSlice D t n ps S q2=evBuildSlice D t n ps' S' q2:=by rw [h1,h2]
@[congr] theorem evFrozen_congr {ps ps':List (Nat × V)} (h1:ps=ps'):evFrozen D t n ps q=evFrozen D t n ps' q:=by rw [h1]
@[congr] theorem evIndexAddr_congr (h1:x=x') (h2:y=y'):evIndexAddr D t x y q=evIndexAddr D t x' y' q:=by rw [h1,h2]
@[congr] theorem evIndex_congr (h1:x=x') (h2:y=y'):evIndex D t x y q=evIndex D t x' y' q:=by rw [h1,h2]
@[congr] theorem evEnd_congr {o o':Option V} {q:Int→Prop} (h1:o=o') (h2:n=m):evEnd o n q=evEnd o' m q:=by rw [h1,h2]
@[congr] theorem evSlice_congr {o o' p p':Option V} (h1:x=x') (h2:o=o') (h3:p=p'):evSlice D t x o p q=evSlice D t x' o' p' q:=by rw [h1,h2,h3]
@[congr] theorem evFieldAddr_congr (h1:x=x'):evFieldAddr D t x n q=evFieldAddr D t x' n q:=by rw [h1]
@[congr] theorem evField_congr (h1:x=x'):evField D t x n q=evField D t x' n q:=by rw [h1]
@[congr] theorem evExtract_congr (h1:x=x'):evExtract x n q=evExtract x' n q:=by rw [h1]
@[congr] theorem evLen_congr (h1:x=x'):evLen D t x q=evLen D t x' q:=by rw [h1]
@[congr] theorem srcCells_congr {q:Nat→List V→Prop} (h1:x=x') (h2:S=S') (h3:n=m):srcCells x n S q=srcCells x' m S' q:=by rw [h1,h2,h3]
@[congr] theorem srcRows_congr {q:List V→Prop} (h1:x=x'):srcRows D t x q=srcRows D t x' q:=by rw [h1]
@[congr] theorem evAppend_congr (h1:x=x') (h2:y=y') (h3:S=S'):evAppend D t u x y S q2=evAppend D t u x' y' S' q2:=by rw [h1,h2,h3]
@[congr] theorem evMin_congr (h1:x=x') (h2:y=y'):evMin x y q=evMin x' y' q:=by rw [h1,h2]
@[congr] theorem evMax_congr (h1:x=x') (h2:y=y'):evMax x y q=evMax x' y' q:=by rw [h1,h2]
@[congr] theorem evFn_congr (h1:x=x') (h2:vs=vs') (h3:S=S'):evFn P x vs S q2=evFn P x' vs' S' q2:=by rw [h1,h2,h3]
@[congr] theorem evPure_congr (h1:x=x') (h2:vs=vs'):evPure P x vs q=evPure P x' vs' q:=by rw [h1,h2]
@[congr] theorem PCall_congr {f:FuncId} (h2:vs=vs'):PCall P f vs q=PCall P f vs' q:=by rw [h2]
@[congr] theorem evBuiltin_congr {b:Builtin} {ts:List TypeId} (h2:vs=vs') (h3:S=S'):evBuiltin P D b ts vs S q2=evBuiltin P D b ts vs' S' q2:=by rw [h2,h3]
@[congr] theorem evMakeFunc_congr {f:Fn} (h1:vs=vs') (h2:ws=ws'):evMakeFunc f vs ws q=evMakeFunc f vs' ws' q:=by rw [h1,h2]
@[congr] theorem evNil_congr (h1:x=x'):evNil x q=evNil x' q:=by rw [h1]
@[congr] theorem evMakeSlice_congr (h1:x=x') (h2:y=y') (h3:S=S'):evMakeSlice D t x y S q2=evMakeSlice D t x' y' S' q2:=by rw [h1,h2,h3]
@[congr] theorem evEqS_congr {q:Bool→Prop} (h1:vs=vs') (h2:ws=ws'):evEqS D t vs ws q=evEqS D t vs' ws' q:=by rw [h1,h2]
end
end
end
section
variable {P:Program} {D:Nat→TD} {N:Nat} {pf:Option FuncId→Bool} {J:Nat→List Nat} (k:Exit→(Nat→V)→List Blk→Prop) (t:Nat→V) (S S0:List Blk) (id:Nat) (ops:Array Oper) (a b:Code) (c:Operand) (rs:List ResultVar) (q:V→List Blk→Prop)
@[push_cast] theorem evC_skip:evC P D N pf J .skip k t S=k .normal t S:=rfl
@[push_cast] theorem evC_ret:evC P D N pf J .ret k t S=k .ret t S:=rfl
@[push_cast] theorem evC_exit:evC P D N pf J (.exit id) k t S=k (.exit id) t S:=rfl
@[push_cast] theorem evC_region:evC P D N pf J (.region id ops false) k t S=evOps P D ops.toList ops.toList t S (k .normal):=rfl
@[push_cast] theorem evC_draw:evC P D N pf J (.region id ops true) k t S=evDraw P D pf ops.toList ops.toList 0 (J id) t S [] [] (k .normal):=rfl
@[push_cast] theorem evC_seq:evC P D N pf J (.seq a b) k t S=evC P D N pf J a (thenK (evC P D N pf J b k) k) t S:=rfl
@[push_cast] theorem evC_cond:evC P D N pf J (.cond c a b) k t S=condK (evalT t c) (evC P D N pf J a k t S) (evC P D N pf J b k t S):=rfl
@[push_cast] theorem evC_block:evC P D N pf J (.block id a) k t S=evC P D N pf J a (blockK id k) t S:=rfl
@[push_cast] theorem evC_loop:evC P D N pf J (.loop a) k t S=wpV P D N (.loop a) k t S:=rfl
@[push_cast] theorem endK_n:endK D rs S0 q .normal t S=evRes D rs t S fun vs=>∃r S2,Wk S0 (oneOf vs) S r S2∧q r S2:=by simp [endK]
@[push_cast] theorem endK_r:endK D rs S0 q .ret t S=evRes D rs t S fun vs=>∃r S2,Wk S0 (oneOf vs) S r S2∧q r S2:=by simp [endK]
end
attribute [push_cast low] condK_b
attribute [push_cast] List.toList_toArray true_or or_true false_or or_false
end
section
open Go
def renC (ρ:Nat→Nat):V→V
 | .rows (some τ) xs=>.rows (some (ρ τ)) xs
 | .heap b n=>.heap (ρ b) n
 | .ptr b o=>.ptr (ρ b) o
 | v=>v
def ren1 (ρ:Nat→Nat):V→V
 | .agg cs=>.agg (cs.map (renC ρ))
 | v=>renC ρ v
def renT (ρ:Nat→Nat):V→V
 | .tup vs=>.tup (vs.map (ren1 ρ))
 | v=>ren1 ρ v
inductive Sh (m n:Nat):V→Prop where
 | rows {tok:Option Nat} {xs:List V}:(∀τ,tok=some τ→τ < n)→(∀v ∈ xs.flatMap V.cells,Cl m v)→Sh m n (.rows tok xs)
 | heap {b l:Nat}:b < n→Sh m n (.heap b l)
 | ptr {b o:Nat}:b < n→Sh m n (.ptr b o)
 | cl {v:V}:Cl m v→Sh m n v
def Sh1 (m n:Nat) (v:V):Prop:=∀u ∈ v.cells,Sh m n u
def ShT (m n:Nat):V→Prop
 | .tup vs=>∀v ∈ vs,Sh1 m n v
 | v=>Sh1 m n v
theorem renC_cl {ρ:Nat→Nat} {m:Nat} (hρ:∀j,j < m→ρ j=j) {v:V} (h:Cl m v):renC ρ v=v:=by
 cases h with
 | @rows tok xs ht _ =>
  cases tok with
  | none=>rfl
  | some τ=>simp only [renC,hρ τ (ht τ rfl)]
 | heap hb=>simp only [renC,hρ _ hb]
 | ptr hb=>simp only [renC,hρ _ hb]
 | _=>rfl
def Gh.ren (G:Gh) (ρ:Nat→Nat) (n:Nat):Gh :=
 { n:=n,ok:=fun j=>G.ok (ρ j),blk:=fun j=>G.blk (ρ j),fin:=fun j=>G.fin (ρ j),lim:=fun j=>G.lim (ρ j),sz:=fun j=>G.sz (ρ j),p:=G.p }
section
variable {G:Gh} {w:World} {ρ:Nat→Nat} {m n:Nat}
theorem VR.renCl (hρ:∀j,j < m→ρ j=j) (hmn:m≤n) {v:V} {c:Value} (h:VR G w v c) (hc:Cl m v):VR (G.ren ρ n) w v c:=by
 have h1:VR (G.cut m) w v c:=h.cut (fun j _=>⟨rfl,rfl,rfl,rfl,rfl⟩) rfl hc
 have he:Ext (G.cut m) w (G.ren ρ n) w:=by
  refine ⟨hmn,fun j hj=>?_,fun b=>Nat.le_refl _,fun _ _ _=>rfl⟩
  have e:=hρ j hj
  simp [Gh.ren,Gh.cut,e]
 exact VR.ext he h1
theorem VR.renC (hρ:∀j,j < m→ρ j=j) (hmn:m≤n) {v:V} {c:Value} (h:VR G w (renC ρ v) c) (hs:Sh m n v):VR (G.ren ρ n) w v c:=by
 cases hs with
 | cl hc=>rw [renC_cl hρ hc] at h; exact h.renCl hρ hmn hc
 | heap hb =>
  cases h with
  | heapNil _=>exact .heapNil hb
  | heap h1 h2 h3 h4=>exact .heap (G:=G.ren ρ n) hb h2 h3 h4
 | ptr hb =>
  cases h with
  | ptr h1 h2=>exact .ptr (G:=G.ren ρ n) hb h2
 | rows ht hx =>
  rename_i tok xs
  cases tok with
  | none =>
   cases h with
   | rowsNil _=>exact .rowsNil ht
   | rowsE=>exact .rowsE
   | rows vs a1 a2 a3 a4 a5 a6 a7=>exact .rows vs a1 (fun i v u hv hu=>(a2 i v u hv hu).renCl hρ hmn (hx v (List.mem_of_getElem? hv))) a3 a4 a5 a6 (fun τ hτ=>by cases hτ)
  | some τ =>
   cases h with
   | rowsNil _=>exact .rowsNil ht
   | rows vs a1 a2 a3 a4 a5 a6 a7 =>
    refine .rows vs a1 (fun i v u hv hu=>(a2 i v u hv hu).renCl hρ hmn (hx v (List.mem_of_getElem? hv))) a3 a4 a5 a6 (fun τ' hτ=>?_)
    cases hτ
    obtain ⟨b1,b2,b3,b4,b5,b6⟩:=a7 (ρ τ) rfl
    exact ⟨ht τ rfl,b2,b3,b4,b5,b6⟩
theorem cells_not_agg {v:V} (h:∀cs,v≠.agg cs):v.cells=[v]:=by
 cases v <;> first | rfl | exact absurd rfl (h _)
theorem VR.ren1 (hρ:∀j,j < m→ρ j=j) (hmn:m≤n) {v:V} {c:Value} (h:VR G w (ren1 ρ v) c) (hs:Sh1 m n v):VR (G.ren ρ n) w v c:=by
 by_cases ha:∃cs,v=.agg cs
 ·obtain ⟨cs,rfl⟩:=ha
  cases h with
  | agg hl hr ho =>
   refine .agg (by simpa using hl) (fun i v u hv hu=>?_) ho
   exact (hr i _ u (by rw [List.getElem?_map,hv]; rfl) hu).renC hρ hmn (hs v (List.mem_of_getElem? hv))
 ·have hc:v.cells=[v]:=cells_not_agg (fun cs e=>ha ⟨cs,e⟩)
  have e:Ytldogccmhncnoaa.ren1 ρ v=Ytldogccmhncnoaa.renC ρ v:=by
   cases v <;> first | rfl | exact absurd ⟨_,rfl⟩ ha
  rw [e] at h
  exact h.renC hρ hmn (hs v (by rw [hc]; exact List.mem_singleton.2 rfl))
theorem VR.renT (hρ:∀j,j < m→ρ j=j) (hmn:m≤n) {v:V} {c:Value} (h:VR G w (renT ρ v) c) (hs:ShT m n v):VR (G.ren ρ n) w v c:=by
 by_cases ha:∃cs,v=.tup cs
 ·obtain ⟨cs,rfl⟩:=ha
  cases h with
  | tup hl hr =>
   refine .tup (by simpa using hl) (fun i v u hv hu=>?_)
   exact (hr i _ u (by rw [List.getElem?_map,hv]; rfl) hu).ren1 hρ hmn (hs v (List.mem_of_getElem? hv))
 ·have e:Ytldogccmhncnoaa.renT ρ v=Ytldogccmhncnoaa.ren1 ρ v:=by
   cases v <;> first | rfl | exact absurd ⟨_,rfl⟩ ha
  have e2:ShT m n v=Sh1 m n v:=by
   cases v <;> first | rfl | exact absurd ⟨_,rfl⟩ ha
  rw [e] at h
  rw [e2] at hs
  exact h.ren1 hρ hmn hs
theorem VR.cl' {v:V} {c:Value} (h:VR G w v c) (hn:G.n≤m):Cl m v:=by
 have mono:∀{a b:Nat} {v:V},a≤b→Cl a v→Cl b v:=by
  intro a b v hab h
  induction h with
  | int k m=>exact .int k m
  | bool b=>exact .bool b
  | str s=>exact .str s
  | agg _ ih=>exact .agg ih
  | tup _ ih=>exact .tup ih
  | nils=>exact .nils
  | rows ht _ ih=>exact .rows (fun τ hτ=>Nat.lt_of_lt_of_le (ht τ hτ) hab) ih
  | heap hb=>exact .heap (Nat.lt_of_lt_of_le hb hab)
  | ptr hb=>exact .ptr (Nat.lt_of_lt_of_le hb hab)
  | eptr _ ih=>exact .eptr ih
  | nilp=>exact .nilp
  | fn _ ih=>exact .fn ih
  | junk=>exact .junk
 exact mono hn h.cl
end
inductive BlkRen (ρ:Nat→Nat) (m n:Nat):Blk→Blk→Prop where
 | dead {B:Blk}:BlkRen ρ m n B .dead
 | right {sz:Nat}:BlkRen ρ m n (.right sz) (.right sz)
 | cells {sz:Nat} {cs ds:List V}:ds=cs.map (renC ρ)→(∀v ∈ cs,Sh m n v)→BlkRen ρ m n (.cells sz ds) (.cells sz cs)
theorem Wk.keep {S0 S S':List Blk} {r r':V} (ρ:Nat→Nat) (h0:S0.length≤S'.length) (hρ:∀j,j < S0.length→ρ j=j) (hinj:∀i j,i < S'.length→j < S'.length→ρ i=ρ j→i=j)
  (hr:r=renT ρ r') (hsr:ShT S0.length S'.length r')
  (hS:∀j B',S'[j]?=some B'→(j < S0.length∧S0[j]?=some B'∧S[j]?=some B')∨∃B,S[ρ j]?=some B∧BlkRen ρ S0.length S'.length B B'):Wk S0 r S r' S':=by
 subst hr
 intro G0 w0 G w c hR0 hE hv hR
 have hlt:∀{j:Nat} {B:Blk},S'[j]?=some B→j < S'.length:=by
  intro j B hj
  rcases Nat.lt_or_ge j S'.length with g | g
  ·exact g
  ·rw [List.getElem?_eq_none g] at hj; cases hj
 have hold:∀(j:Nat) (B':Blk),S'[j]?=some B'→B'.live=true→∃B,S[ρ j]?=some B∧B.live=true:=by
  intro j B' hj hl
  rcases hS j B' hj with ⟨g1,g2,g3⟩ | ⟨B,g1,g2⟩
  ·exact ⟨B',by rw [hρ j g1]; exact g3,hl⟩
  ·cases g2 with
   | dead=>cases hl
   | right=>exact ⟨_,g1,rfl⟩
   | cells=>exact ⟨_,g1,rfl⟩
 have hn0:G0.n=S0.length:=hR0.n
 have hext:Ext G0 w0 (G.ren ρ S'.length) w:=by
  refine ⟨by rw [hn0]; exact h0,fun j hj=>?_,hE.ext.p,hE.ext.cell⟩
  have e:=hρ j (by omega)
  simp only [Gh.ren,e]
  exact hE.ext.same j hj
 refine ⟨G.ren ρ S'.length,hv.renT hρ h0 hsr,⟨rfl,hR.fresh,?_,?_,?_,?_⟩,⟨hext,hE.size,hE.os,hE.tape,hE.output,hE.other,?_,hE.pk⟩⟩
 ·intro j B hj hl hk
  obtain ⟨B0,g1,g2⟩:=hold j B hj hl
  exact hR.lt _ _ g1 g2 hk
 ·intro j B hj hl hk
  rcases hS j B hj with ⟨g1,g2,g3⟩ | ⟨B1,g1,g2⟩
  ·have e:=hρ j g1
   have hk':G.ok j=true:=by simpa [Gh.ren,e] using hk
   have hk0:G0.ok j=true:=by rw [←(hE.ext.same j (by omega)).1]; exact hk'
   have hb:=hR.live j B g3 hl hk'
   cases B with
   | dead=>trivial
   | right sz=>simpa [BlkOk,Gh.ren,e] using hb
   | cells sz cs =>
    obtain ⟨arr,ty,q1,q2,q3,q4,q5,q6⟩:=hb
    obtain ⟨arr0,ty0,f1,f2,f3,f4,f5,f6⟩:=hR0.live j _ g2 rfl hk0
    refine ⟨arr,ty,by simpa [Gh.ren,e] using q1,by simpa [Gh.ren,e] using q2,by simpa [Gh.ren,e] using q3,q4,by simpa [Gh.ren,e] using q5,fun i v u hv' hu=>⟨(q6 i v u hv' hu).1.renCl hρ h0 ?_,(q6 i v u hv' hu).2⟩⟩
    have hi:i < cs.length:=by
     rcases Nat.lt_or_ge i cs.length with g | g
     ·exact g
     ·rw [List.getElem?_eq_none g] at hv'; cases hv'
    exact (f6 i v arr0[i] hv' (Array.getElem?_eq_getElem (by omega))).1.cl' (by omega)
  ·cases g2 with
   | dead=>trivial
   | right=>exact hR.live _ _ g1 rfl hk
   | cells hds hsh =>
    rename_i sz cs ds
    subst hds
    obtain ⟨arr,ty,q1,q2,q3,q4,q5,q6⟩:=hR.live _ _ g1 rfl hk
    refine ⟨arr,ty,q1,q2,q3,by simpa using q4,q5,fun i v u hv' hu=>?_⟩
    have:=q6 i (renC ρ v) u (by rw [List.getElem?_map,hv']; rfl) hu
    exact ⟨this.1.renC hρ h0 (hsh v (List.mem_of_getElem? hv')),this.2⟩
 ·intro j sz cs hj hk
  rcases hS j _ hj with ⟨g1,g2,g3⟩ | ⟨B1,g1,g2⟩
  ·exact hR.vac j sz cs g3 (by simpa [Gh.ren,hρ j g1] using hk)
  ·cases g2 with
   | cells hds hsh =>
    rename_i ds
    have:=hR.vac _ sz _ g1 hk
    rw [hds] at this
    simpa using this
 ·intro i j B C hi hj hlB hlC hki hkj he
  obtain ⟨B1,b1,b2⟩:=hold i B hi hlB
  obtain ⟨C1,c1,c2⟩:=hold j C hj hlC
  exact hinj i j (hlt hi) (hlt hj) (hR.inj _ _ B1 C1 b1 c1 b2 c2 hki hkj he)
 ·rintro b hb ⟨j,B,hj,hl,hk,rfl⟩
  obtain ⟨B1,b1,b2⟩:=hold j B hj hl
  exact hE.own _ hb ⟨ρ j,B1,b1,b2,hk,rfl⟩
theorem freeze_ok {G:Gh} {w:World} {S:List Blk} {b m sz:Nat} {cs xs:List V} (hsz:sz < 1000000) (hR:Rel G w S) (hS:S[b]?=some (.cells sz cs)) (hm:m * sz≤cs.length) (hxl:xs.length=m) (hxs:xs.flatMap V.cells=cs.take (m * sz)) :
  ∃G',(∀c,VR G w (.heap b m) c→VR G' w (.rows (some S.length) xs) c)∧Rel G' w (S.set b .dead++[.right sz])∧Evol G w S G' w (S.set b .dead++[.right sz]):=by
 cases hk:G.ok b with
 | false =>
  have hcs:=hR.vac b sz cs hS hk
  subst hcs
  have hm0:m * sz=0:=by simpa using hm
  obtain ⟨h1,h2⟩:=hR.kill b
  obtain ⟨h3,h4⟩:=h1.pushNil sz (.right sz) (fun z cs e=>by cases e)
  refine ⟨_,fun c hv=>?_,h3,h2.trans h4⟩
  cases hv with
  | heap h1 h2=>rw [hk] at h2; cases h2
  | heapNil hb =>
   have hx:xs=[]:=List.length_eq_zero_iff.1 hxl
   subst hx
   refine .rowsNil (fun τ hτ=>?_)
   cases hτ
   simp [Gh.pushNil,hR.n]
 | true =>
  obtain ⟨arr,tf,q1,q2,q3,q4,q50,q6⟩:=hR.live b _ hS rfl hk
  obtain ⟨ty,fr⟩:=tf
  have hfr:=q50.z hsz
  simp only at hfr
  subst hfr
  simp only at q1
  have q5:G.sz b=sz:=by rw [q50.eq]; omega
  have hw:But w w (G.blk b):=⟨rfl,rfl,rfl,rfl,fun _ _=>rfl⟩
  obtain ⟨h1,h2⟩:=hR.move hS rfl hk hw (m * sz) (G.lim b) sz (m * sz) (by rw [q2]; exact Nat.zero_le _) (fun _ _=>rfl) (B':=.right sz) rfl (fun hext=>⟨arr,ty,by simpa [Gh.push] using q1,by simp [Gh.push],by simpa [Gh.push] using q3,by simp [Gh.push]⟩)
  refine ⟨_,fun c hv=>?_,h1,h2⟩
  have hn:=hR.n
  cases hv with
  | heapNil hb =>
   have hx:xs=[]:=List.length_eq_zero_iff.1 hxl
   subst hx
   exact .rowsNil (fun τ hτ=>by cases hτ; simp [Gh.push,hn])
  | @heap _ _ cap g1 g2 g3 g4 =>
   have hlen:(arr.toList.take (m * sz)).length=m * sz:=by simp; omega
   have hrow:VR (G.push (G.blk b) (m * sz) (G.lim b) sz (m * sz)) w (.rows (some S.length) xs) (.slice (some ⟨G.blk b,0,none⟩) xs.length cap):=by
    refine .rows (arr.toList.take (m * sz)) (by rw [hxs]; simp; omega) (fun i v u hv hu=>?_) (fun u hu=>?_) (fun i u hu=>?_) ?_ (by rw [hxl]; exact g3) (fun τ hτ=>?_)
    ·rw [hxs,List.getElem?_take] at hv
     rw [List.getElem?_take] at hu
     split at hv
     ·rename_i hi
      rw [if_pos hi] at hu
      exact (q6 i v u hv (by simpa using hu)).1.ext h2.ext
     ·cases hv
    ·obtain ⟨i,hi,rfl⟩:=List.getElem_of_mem hu
     have hi':i < m * sz:=by omega
     simp only [List.getElem_take]
     have:=(q6 i cs[i] arr[i] (List.getElem?_eq_getElem (by omega)) (Array.getElem?_eq_getElem (by omega))).2
     simpa using this
    ·rw [List.getElem?_take] at hu
     split at hu
     ·rw [cell_blk q1,Nat.zero_add]; simpa using hu
     ·cases hu
    ·rw [hlen]; simp [Gh.push]
    ·cases hτ
     refine ⟨by simp [Gh.push,hn],by simp [Gh.push,hn],by simp [Gh.push,hn],?_,?_,?_⟩
     ·rw [hlen]; simp [Gh.push,hn]
     ·rw [hlen,hxl]; simp [Gh.push,hn]
     ·simp only [Gh.push,hn,if_true,Nat.zero_add]; rw [←q5]; exact g4
   rw [hxl] at hrow
   exact hrow
def frC (b m:Nat) (v':V):V→V
 | .heap b' m'=>if b'=b∧m'=m then v' else .heap b' m'
 | v=>v
def fr1 (b m:Nat) (v':V):V→V
 | .agg cs=>.agg (cs.map (frC b m v'))
 | v=>frC b m v' v
theorem Wk.freeze {S0 S:List Blk} {r:V} {b m sz:Nat} {cs:List V} (xs:List V) (hsz:sz < 1000000) (hS:S[b]?=some (.cells sz cs)) (hm:m * sz≤cs.length) (hxl:xs.length=m) (hxs:xs.flatMap V.cells=cs.take (m * sz)) :
  Wk S0 r S (fr1 b m (.rows (some S.length) xs) r) (S.set b .dead++[.right sz]):=by
 intro G0 w0 G w c hR0 hE hv hR
 obtain ⟨G',hu0,hR',hE'⟩:=freeze_ok hsz hR hS hm hxl hxs
 refine ⟨G',?_,hR',hE.trans hE'⟩
 have cell:∀v u,VR G w v u→VR G' w (frC b m (.rows (some S.length) xs) v) u:=by
  intro v u hvu
  cases v with
  | heap b' m' =>
   simp only [frC]
   split
   ·rename_i e
    obtain ⟨rfl,rfl⟩:=e
    exact hu0 u hvu
   ·exact hvu.ext hE'.ext
  | _=>exact hvu.ext hE'.ext
 by_cases ha:∃cs,r=.agg cs
 ·obtain ⟨cs,rfl⟩:=ha
  cases hv with
  | agg hl hr' ho =>
   refine .agg (by simpa using hl) (fun i v u hv hu=>?_) ho
   rw [List.getElem?_map] at hv
   cases hq:cs[i]? with
   | none=>rw [hq] at hv; cases hv
   | some v0=>rw [hq] at hv; cases hv; exact cell _ _ (hr' i v0 u hq hu)
 ·have e:fr1 b m (.rows (some S.length) xs) r=frC b m (.rows (some S.length) xs) r:=by
   cases r <;> first | rfl | exact absurd ⟨_,rfl⟩ ha
  rw [e]
  exact cell _ _ hv
attribute [push_cast] renC ren1 renT frC fr1 ShT
end
section
open Go
section
variable {S X:List Blk} {v x:V} {n:Nat}
theorem fin0 (h:v=x):∃r S2,Wk S v S r S2∧r=x∧S2=S:=⟨v,S,Wk.refl _ _ _,h,rfl⟩
theorem fin1 (hc:Cl S.length v) (h:v=x):∃r S2,Wk S v (S++X) r S2∧r=x∧S2=S:=⟨v,S,Wk.pure hc,h,rfl⟩
theorem finE (hc:Cl S.length (eraseT v)) (h:eraseT v=x):∃r S2,Wk S v (S++X) r S2∧r=x∧S2=S:=⟨_,S,(Wk.eraseT _ _ _).trans (Wk.pure hc),h,rfl⟩
@[push_cast] theorem cl_int (k:IntKind) (m:Int):Cl n (.int k m)=True:=eq_true (.int k m)
@[push_cast] theorem cl_bool (b:Bool):Cl n (.bool b)=True:=eq_true (.bool b)
@[push_cast] theorem cl_str (s:List UInt8):Cl n (.str s)=True:=eq_true (.str s)
@[push_cast] theorem cl_nils:Cl n .nils=True:=eq_true .nils
@[push_cast] theorem cl_nilp:Cl n .nilp=True:=eq_true .nilp
@[push_cast] theorem cl_agg (cs:List V):Cl n (.agg cs)↔∀v ∈ cs,Cl n v:=⟨fun h=>by cases h; assumption,.agg⟩
@[push_cast] theorem cl_tup (cs:List V):Cl n (.tup cs)↔∀v ∈ cs,Cl n v:=⟨fun h=>by cases h; assumption,.tup⟩
@[push_cast] theorem cl_rows (xs:List V):Cl n (.rows none xs)↔∀x ∈ xs,Cl n x:=by
 constructor
 ·intro h x hx
  cases h with
  | rows _ hv =>
   by_cases ha:∃cs,x=.agg cs
   ·obtain ⟨cs,rfl⟩:=ha
    exact .agg (fun v hv'=>hv v (List.mem_flatMap.2 ⟨_,hx,hv'⟩))
   ·exact hv x (List.mem_flatMap.2 ⟨x,hx,by rw [cells_not_agg (fun cs e=>ha ⟨cs,e⟩)]; exact List.mem_singleton.2 rfl⟩)
 ·exact Cl.rows'
@[push_cast] theorem cl_heap (b l:Nat):Cl n (.heap b l)↔b < n:=⟨fun h=>by cases h; assumption,.heap⟩
@[push_cast] theorem cl_ptr (b l:Nat):Cl n (.ptr b l)↔b < n:=⟨fun h=>by cases h; assumption,.ptr⟩
theorem fin_freeze {b m sz:Nat} {cs xs:List V} {B:Blk} (hB:B=.cells sz cs) (hb:b=S.length) (hm:m * sz≤cs.length) (hxl:xs.length=m) (hxs:xs.flatMap V.cells=cs.take (m * sz)) (hc:Cl S.length (.rows none xs)) (h:V.rows none xs=x) (hsz:sz < 1000000:=by omega) :
  ∃r S2,Wk S (.heap b m) (S++[B]) r S2∧r=x∧S2=S:=by
 subst hb hB h
 have h1:=Wk.freeze (S0:=S) (S:=S++[Blk.cells sz cs]) (r:=.heap S.length m) (b:=S.length) (m:=m) xs hsz (by simp) hm hxl hxs
 simp only [fr1,frC,and_self,if_true] at h1
 have h2:=Wk.erase S (.rows (some (S++[Blk.cells sz cs]).length) xs) ((S++[Blk.cells sz cs]).set S.length Blk.dead++[Blk.right sz])
 rw [app_set0,List.append_assoc] at h1 h2
 exact ⟨_,_,(h1.trans h2).trans (Wk.pure hc),rfl,rfl⟩
theorem splice_one:∀(cs:List V) (k:Nat) (u:V),splice cs k [u]=cs.set k u
 | [],k,u=>by cases k <;> simp [splice]
 | c :: cs,0,u=>by cases cs <;> simp [splice]
 | c :: cs,k+1,u=>by simp [splice,splice_one cs k u]
theorem VCall.as {P:Program} {f:FuncId} {args args':List V} {S:List Blk} {q:V→List Blk→Prop} (h:VCall P f args' S q) (e:args=args'):VCall P f args S q:=e ▸ h
end
def wrOf (D:Nat→TD) (ts:List Nat) (t:Nat):TD:=if ts.contains t then ⟨(D t).k,(D t).size,(D t).bytes,(D t).zero,true,(D t).bld⟩ else D t
theorem wrOk {P:Program} {D:Nat→TD} (h:TypesOk P D) (ts:List Nat):TypesOk P (wrOf D ts):=by
 refine ⟨fun t=>?_,h.mix,fun t=>?_,fun t=>?_⟩
 ·unfold wrOf
  split
  ·exact h.ty t
  ·exact h.ty t
 ·unfold wrOf
  split
  ·exact h.small t
  ·exact h.small t
 ·unfold wrOf
  split
  ·exact h.ptr t
  ·exact h.ptr t
def bldOf (D:Nat→TD) (ts:List Nat) (t:Nat):TD:=if ts.contains t then ⟨(D t).k,(D t).size,(D t).bytes,(D t).zero,(D t).wr,true⟩ else D t
theorem bldOf_eq (D:Nat→TD) (ts:List Nat) (t:Nat):bldOf D ts t=if ts.contains t then ⟨(D t).k,(D t).size,(D t).bytes,(D t).zero,(D t).wr,true⟩ else D t:=rfl
attribute [push_cast] bldOf_eq
theorem wrOf_eq (D:Nat→TD) (ts:List Nat) (t:Nat):wrOf D ts t=if ts.contains t then ⟨(D t).k,(D t).size,(D t).bytes,(D t).zero,true,(D t).bld⟩ else D t:=rfl
attribute [push_cast] wrOf_eq List.contains_cons List.contains_nil Bool.or_false Bool.or_true Bool.true_or Bool.false_or
attribute [push_cast] TK.slc.injEq TK.int.injEq exists_eq_left' exists_eq_left exists_eq' exists_eq forall_eq_or_imp forall_false List.mem_map and_self byteOfV eraseT_tup
theorem byte_wrap (n:Int):UInt8.ofNat (IntKind.u8.wrap n).toNat=UInt8.ofNat (n % 256).toNat:=by
 have h:IntKind.u8.wrap n=n % 256:=by
  simp [IntKind.wrap,IntKind.signed,IntKind.bits]
 rw [h]
end
section
open Go
def by8 (n:Nat):UInt8:=UInt8.ofNat n
def numTail (m:Nat):List UInt8:=if m < 128 then [by8 m] else by8 (m % 128+128) :: numTail (m / 128)
termination_by m
def numW (n bits head:Nat):List UInt8 :=
 if n < 2 ^ bits - 1 then [by8 (head * 2 ^ bits+n)] else by8 (head * 2 ^ bits+(2 ^ bits - 1)) :: numTail (n - (2 ^ bits - 1))
theorem numTail_lt {m:Nat} (h:m < 128):numTail m=[by8 m]:=by rw [numTail,if_pos h]
theorem numTail_ge {m:Nat} (h:128≤m):numTail m=by8 (m % 128+128) :: numTail (m / 128):=by rw [numTail,if_neg (by omega)]
theorem u8_ofNat_mod (n:Nat):UInt8.ofNat (n % 256)=UInt8.ofNat n:=by
 apply UInt8.toNat.inj
 simp
theorem byInt (n:Nat):UInt8.ofNat (((n:Int) % 256).toNat)=by8 n:=by
 have:(((n:Int) % 256).toNat)=n % 256:=by omega
 rw [this,u8_ofNat_mod]; rfl
theorem tmod_nat (m n:Nat):Int.tmod (m:Int) (n:Int)=((m % n:Nat):Int):=by
 rw [Int.tmod_eq_emod_of_nonneg (by omega)]; rfl
theorem tdiv_nat (m n:Nat):Int.tdiv (m:Int) (n:Int)=((m / n:Nat):Int):=by
 rw [Int.tdiv_eq_ediv_of_nonneg (by omega)]; rfl
theorem bv64 {x:Nat} (h:x < 2 ^ 62):(BitVec.ofInt 64 (x:Int)).toNat=x:=by
 rw [BitVec.toNat_ofInt]
 have e:((2 ^ 64:Nat):Int)=18446744073709551616:=by decide
 rw [e]
 omega
theorem and_nat {x y:Nat} (hx:x < 2 ^ 62) (hy:y < 2 ^ 62):intBits .and .i64 (x:Int) (y:Int)=((x &&& y:Nat):Int):=by
 have h:x &&& y≤x:=Nat.and_le_left
 simp only [intBits]
 rw [show IntKind.i64.bits=64 from rfl,BitVec.toNat_and,bv64 hx,bv64 hy]
 exact i64_fit _ (by omega)
theorem or_nat {x y:Nat} (hx:x < 2 ^ 62) (hy:y < 2 ^ 62):intBits .or .i64 (x:Int) (y:Int)=((x ||| y:Nat):Int):=by
 have h:x ||| y < 2 ^ 62:=Nat.or_lt_two_pow hx hy
 simp only [intBits]
 rw [show IntKind.i64.bits=64 from rfl,BitVec.toNat_or,bv64 hx,bv64 hy]
 exact i64_fit _ (by omega)
theorem fdiv_pow (n k:Nat):Int.fdiv (n:Int) (2 ^ k)=((n / 2 ^ k:Nat):Int):=by
 have e:(2:Int) ^ k=((2 ^ k:Nat):Int):=by simp
 rw [e,Int.fdiv_eq_ediv_of_nonneg _ (Int.natCast_nonneg _)]
 rfl
theorem u8_wrap (n:Nat):IntKind.u8.wrap (n:Int)=((by8 n).toNat:Int):=by
 have h:IntKind.u8.wrap (n:Int)=(n:Int) % 256:=by simp [IntKind.wrap,IntKind.signed,IntKind.bits]
 rw [h]; simp [by8]
theorem u8V_of (n:Nat):V.int .u8 (IntKind.u8.wrap (n:Int))=u8V (by8 n):=by rw [u8_wrap]; rfl
theorem by8_wrap (n:Nat):UInt8.ofNat (IntKind.u8.wrap (n:Int)).toNat=by8 n:=by rw [u8_wrap]; simp
@[push_cast] theorem all_u8_len (o:List UInt8):(o.map u8V).all (lenIs 1)=true:=by induction o <;> simp_all [lenIs,u8V,V.cells]
@[push_cast] theorem all_u8_is (o:List UInt8):(o.map u8V).all isU8=true:=by induction o <;> simp_all [isU8,u8V]
@[push_cast] theorem map_u8_by (o:List UInt8):(o.map u8V).map byteOfV=o:=by induction o <;> simp_all [byteOfV,u8V]
@[push_cast] theorem cells_u8 (b:UInt8):(u8V b).cells=[u8V b]:=rfl
@[push_cast] theorem isU8_u8 (b:UInt8):isU8 (u8V b)=true:=rfl
@[push_cast] theorem byteOf_u8 (b:UInt8):byteOfV (u8V b)=b:=by simp [u8V,byteOfV]
@[push_cast] theorem one_u8 (b:UInt8):(u8V b).one=true:=rfl
@[push_cast] theorem erase1_u8 (b:UInt8):erase1 (u8V b)=u8V b:=rfl
def Tok (S S':List Blk) (τ sz:Nat):Prop:=(∃X,S'=S++X)∧S.length≤τ∧S'[τ]?=some (.right sz)
theorem Tok.new (S:List Blk) (sz:Nat):Tok S (S++[.right sz]) S.length sz:=⟨⟨_,rfl⟩,Nat.le_refl _,by simp⟩
theorem Tok.at {S S':List Blk} {τ sz:Nat} (h:Tok S S' τ sz):S'[τ]?=some (.right sz):=h.2.2
theorem Tok.step {S S':List Blk} {τ sz:Nat} (h:Tok S S' τ sz):Tok S (S'.set τ .dead++[.right sz]) S'.length sz:=by
 obtain ⟨⟨X,rfl⟩,h2,h3⟩:=h
 refine ⟨⟨X.set (τ - S.length) .dead++[.right sz],?_⟩,by simp,?_⟩
 ·rw [List.set_append_right _ _ h2,List.append_assoc]
 ·rw [List.getElem?_append_right (by simp)]; simp
theorem Tok.more {S S':List Blk} {τ sz:Nat} (h:Tok S S' τ sz) (Y:List Blk):Tok S (S'++Y) τ sz:=by
 obtain ⟨⟨X,rfl⟩,h2,h3⟩:=h
 refine ⟨⟨X++Y,by rw [List.append_assoc]⟩,h2,?_⟩
 rw [List.getElem?_append_left,h3]
 rcases Nat.lt_or_ge τ (S++X).length with g | g
 ·exact g
 ·rw [List.getElem?_eq_none g] at h3; cases h3
theorem Tok.step1 {S S':List Blk} {τ sz:Nat} (h:Tok S S' τ sz) (B:Blk):Tok S ((S'++[B]).set τ .dead++[.right sz]) (S'.length+1) sz:=by
 have:=(h.more [B]).step
 simpa using this
theorem Tok.fin {S S':List Blk} {τ sz:Nat} {v x:V} (h:Tok S S' τ sz) (hc:Cl S.length v) (e:v=x):∃r S2,Wk S v S' r S2∧r=x∧S2=S:=by
 obtain ⟨⟨X,rfl⟩,_,_⟩:=h
 exact fin1 hc e
theorem Tok.finE {S S':List Blk} {τ sz:Nat} {v x:V} (h:Tok S S' τ sz) (hc:Cl S.length (eraseT v)) (e:eraseT v=x):∃r S2,Wk S v S' r S2∧r=x∧S2=S:=by
 obtain ⟨⟨X,rfl⟩,_,_⟩:=h
 exact Ytldogccmhncnoaa.finE hc e
theorem or_add {q n p bits:Nat} (hp:p=2 ^ bits) {h:Nat} (hq:q=h * p) (hn:n < p):q ||| n=q+n:=by
 rw [hq,hp,Nat.mul_comm,←Nat.two_pow_add_eq_or_of_lt (by omega)]
theorem and127 (x:Nat) (h:x < 2 ^ 62):intBits .and .i64 (x:Int) 127=((x % 128:Nat):Int):=by
 rw [show (127:Int)=((127:Nat):Int) from rfl,and_nat h (by decide),show (127:Nat)=2 ^ 7 - 1 from rfl,Nat.and_two_pow_sub_one_eq_mod]
theorem or128 (x:Nat) (h:x < 128):intBits .or .i64 128 (x:Int)=((128+x:Nat):Int):=by
 rw [show (128:Int)=((128:Nat):Int) from rfl,or_nat (by decide) (by omega),or_add (q:=128) (p:=128) (bits:=7) (h:=1) rfl rfl h]
theorem shr7 (x:Nat):Int.fdiv (x:Int) (2 ^ min 7 64)=((x / 128:Nat):Int):=fdiv_pow x 7
end
end Go.Proofs.Ytldogccmhncnoaa
