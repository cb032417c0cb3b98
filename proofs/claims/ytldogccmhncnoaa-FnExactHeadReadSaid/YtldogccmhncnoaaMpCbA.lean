/- A part of the proof: contracts of functions, or plain facts on which these lean. -/
import Derived.ProofKit
import Derived.Test.YtldogccmhncnoaaRows
import Derived.Test.YtldogccmhncnoaaMp14
namespace Go.Proofs.Ytldogccmhncnoaa
open Go
set_option linter.unusedVariables false
set_option linter.unusedSimpArgs false
set_option maxRecDepth 100000
set_option maxHeartbeats 16000000

section
open Go Go.ChangeShapes Go.WideShapes Go.ChangeAt Go.RowKit
theorem lawOwn:ownKnob Try.prog.godebug=none:=by kernel_rfl
theorem lawLaid:laidOutB Try.prog=true:=by kernel_rfl
def lawG (W:World) (K:Nat):Gh:={ n:=0,ok:=fun _=>false,blk:=fun _=>0,fin:=fun _=>0,lim:=fun _=>0,sz:=fun _=>0,p:=fun b=>if b < W.heap.size then K else 0 }
theorem lawRel (W:World) (K:Nat):Rel (lawG W K) W [] where
 n:=rfl
 fresh:=fun b hb=>by simp [lawG,Nat.not_lt.2 hb]
 lt:=fun j B h=>by simp at h
 live:=fun j B h=>by simp at h
 vac:=fun j sz cs h=>by simp at h
 inj:=fun i j B C h=>by simp at h
theorem law_callsR {fid:FuncId} {fn:Func} (hfn:Try.prog.funcs[fid]?=some fn) (hbody:fn.body.isNone=false) (hname:(fn.name == "runtime.NumGoroutine")=false) {args:List V}
  (hc:VCall Try.prog fid args [] fun r S'=>r=.bool true) {W:World} {K:Nat} {cargs:Array Value} (ha:AllR (lawG W K) W args cargs.toList) :
  Calls Try.prog fid cargs W fun e W'=>e=.returned (.bool true)∧Below W.heap.size W W':=by
 rcases hc with ⟨_,r,S',rfl,hd⟩ | ⟨r,_,hx⟩
 ·refine Calls.mono (hd (lawG W K) W cargs ha (lawRel W K)) ?_
  rintro e W' ⟨c,G',rfl,hv,_,hE⟩
  cases hv
  refine ⟨rfl,⟨hE.os,hE.tape,hE.output,hE.size,fun k hk=>hE.other k hk ?_⟩⟩
  rintro ⟨j,B,hj,_⟩
  simp at hj
 ·obtain ⟨c,hrun,_⟩:=hx (lawG W K) W cargs ha
  have hne:¬fn.name= "runtime.NumGoroutine":=by simpa using hname
  cases hbo:fn.body with
  | none=>rw [hbo] at hbody; cases hbody
  | some bd=>simp [callFunc,hfn,hbo,hne] at hrun
theorem allR_two {G:Gh} {W:World} {a b:V} {v u:Value} (h:VR G W a v) (k:VR G W b u):AllR G W [a,b] (#[v,u]:Array Value).toList:=by
 refine ⟨rfl,fun i x z hx hz=>?_⟩
 rcases i with _ | _ | i
 ·cases hx; cases hz; exact h
 ·cases hx; cases hz; exact k
 ·cases hx
end
end Go.Proofs.Ytldogccmhncnoaa
