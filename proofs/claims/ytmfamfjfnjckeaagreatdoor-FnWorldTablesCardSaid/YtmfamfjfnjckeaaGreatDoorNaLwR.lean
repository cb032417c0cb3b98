/- A part of the proof: contracts of functions, or plain facts on which these lean. -/
import Derived.Test.YtmfamfjfnjckeaaGreatDoorNa40
import Derived.Test.YtmfamfjfnjckeaaGreatDoorNaLwK
import Derived.Test.YtmfamfjfnjckeaaGreatDoorNaLwP
namespace Go.Proofs.YtmfamfjfnjckeaaGreatDoor
open Go
set_option linter.unusedVariables false
set_option linter.unusedSimpArgs false
set_option maxRecDepth 100000
set_option maxHeartbeats 16000000

section
open Go
theorem pl_do {u:Wo} (h:Pl u) (v:Ev):worldDoM u v=doM u v:=by rw [worldDoM,if_neg (by rw [h.all.ok]; simp)]
theorem do_call {u:Wo} (h:Pl u) (v:Ev) (hv:EvB v) {T:List Blk} {b c d f:Nat} (q:WoAt T b c d f u):VCall Tryz.prog 13 [wV b c d f u,evV v] T fun r S'=>RWNew T (doM u v) r S':=by
 have:=WorldDo_ok h.b v hv q
 rwa [pl_do h] at this
theorem do_pass {u:Wo} (h:Pl u) (way:Int) {T:List Blk} {b c d f:Nat} (q:WoAt T b c d f u):VCall Tryz.prog 13 [wV b c d f u,evV ⟨4,way,90,[],[]⟩] T fun r S'=>RWNew T (passM u way 90) r S' :=
 do_call h ⟨4,way,90,[],[]⟩ ⟨by simp,by simp⟩ q
theorem FnWorldTables_ok (code:List UInt8) (S:List Blk):VCall Tryz.prog 8 [.rows none (code.map u8V)] S fun r S'=>r=.bool true:=by
 refine VCall.en hDe Tryz.func8 Tryz.ntmps8 Tryz.results8 ?_
 by_cases hc:(code.length:Int) > 1048576
 ·simp -implicitDefEqProofs (maxSteps:=1000000) (disch:=omega) only [push_cast,simprocAttr,hc,↓gd]
  exact ⟨_,_,Wk.refl _ _ _,rfl⟩
 simp -implicitDefEqProofs (maxSteps:=1000000) (disch:=omega) only [push_cast,simprocAttr,hc,↓gd]
 refine (DrawWorldPlay_ok code (by omega) _).mono ?_
 rintro r S0 ⟨l,hl,hv,rfl,rfl⟩
 have hvB:=fun v hm=>(hv v hm).b
 simp -implicitDefEqProofs (maxSteps:=1000000) (disch:=omega) only [push_cast,simprocAttr,↓gd]
 refine (WorldPlay_ok l (by omega) hvB (fun _ i _=>play_ends l i) _).mono ?_
 rintro r S1 ⟨u,rfl,b,c,d,f,rfl,q1⟩
 have hspec:=fun Z=>sWorldPlay_ok l (by omega) hvB Z
 have hXB:=play_b l
 have hpl:=play_pl l
 generalize worldPlayM l=W at *
 obtain ⟨w,ok⟩:=W
 simp only at hspec hXB hpl q1
 simp -implicitDefEqProofs (maxSteps:=1000000) (disch:=omega) only [push_cast,simprocAttr,↓gd]
 refine (hspec _).mono ?_
 rintro r S2 ⟨u2,rfl,b2,c2,d2,f2,rfl,q2⟩
 have kw:S2[S1.length]?=some (.cells 0 (wC b c d f w)):=q2.upd.get (by simp -implicitDefEqProofs (maxSteps:=1000000) (disch:=omega) only [push_cast,simprocAttr,↓gd]) (by simp)
 have hat:=(q1.at_.app _).upd0 q2.upd
 have lw:=lt_of_some kw
 simp -implicitDefEqProofs (maxSteps:=1000000) (disch:=omega) only [push_cast,simprocAttr,kw,↓gd]
 refine ((lkWorld_self hXB (hat.app _) (q2.at_.app _)).as (by simp [wV,wC,enC])).to ?_
 cases hok:ok
 ·simp -implicitDefEqProofs (maxSteps:=1000000) (disch:=omega) only [push_cast,simprocAttr,kw,↓gd]
  refine ((lkWorld_self hXB (hat.app _) (q2.at_.app _)).as (by simp [wV,wC,enC])).to ?_
  simp -implicitDefEqProofs (maxSteps:=1000000) (disch:=omega) only [push_cast,simprocAttr,↓gd]
  exact ⟨_,_,Wk.refl _ _ _,rfl⟩
 obtain ⟨hP,hle,hplay⟩:=hpl hok
 have hat:=hat.app [.cells 0 (wC b2 c2 d2 f2 w)]
 have kw2:(S2++[.cells 0 (wC b2 c2 d2 f2 w)])[S1.length]?=some (.cells 0 (wC b c d f w)):=by rw [List.getElem?_append_left lw]; exact kw
 have hone:=passes_one hP
 have hpl:=fun i=>(passes_p i hP).1
 simp -implicitDefEqProofs (maxSteps:=1000000) (disch:=omega) only [push_cast,simprocAttr,kw2,↓gd]
 refine wpV_loop (fun m t S'=>∃i:Nat,m=12 - i∧i≤12∧t 8=.ptr (S2.length+1) 0∧t 9=.int .i64 i∧∃bx cx dx fx,S'[S2.length+1]?=some (.cells 0 (wC bx cx dx fx (passesM i w)))∧WoAt S' bx cx dx fx (passesM i w)) 12 ⟨0,by omega,by omega,?_,?_,b,c,d,f,?_,?_⟩ ?_
 ·rfl
 ·rfl
 ·simp -implicitDefEqProofs (maxSteps:=1000000) (disch:=omega) only [push_cast,simprocAttr,↓gd]
  simp [passesM,wC,enC]
 ·have h:=hat.app [.cells 0 (wC b c d f w)]
  simp only [wC,enC,List.append_assoc,List.cons_append,List.nil_append] at h
  exact h
 rintro m t S' ⟨i,rfl,hi,h8,h9,bx,cx,dx,fx,kx,hx⟩
 refine wpV_of hDe (fun _=>false) (fun _=>[]) (by kernel_rfl) ?_
 have lx:=lt_of_some kx
 by_cases hi12:i < 12
 ·have hi':(i:Int) < 12:=by omega
  have hu:=hpl i
  have hsn:=passes_snoc i w
  generalize passesM i w=u at *
  have h1:=hu.pass 0 90
  simp -implicitDefEqProofs (maxSteps:=1000000) (disch:=omega) only [push_cast,simprocAttr,h8,h9,hi',kx,↓gd]
  refine ((do_pass hu 0 hx).as (by simp [wV,wC,enC,evV])).mono ?_
  rintro r S3 ⟨b3,c3,d3,f3,rfl,q3⟩
  have k3:=q3.upd.get kx (by simp)
  have l3:=lt_of_some k3
  have a3:=q3.at_.set0 (.cells 0 (wC b3 c3 d3 f3 (passM u 0 90))) k3
  simp -implicitDefEqProofs (maxSteps:=1000000) (disch:=omega) only [push_cast,simprocAttr,h8,h9,k3,↓gd]
  refine ((do_pass h1 1 a3).as (by simp [wV,wC,enC,evV])).mono ?_
  rintro r S4 ⟨b4,c4,d4,f4,rfl,q4⟩
  have k4:=q4.upd.get (j:=S2.length+1) (B:=.cells 0 (wC b3 c3 d3 f3 (passM u 0 90))) (by simp [l3]) (by simp)
  have l4:=lt_of_some k4
  simp -implicitDefEqProofs (maxSteps:=1000000) (disch:=omega) only [push_cast,simprocAttr,h8,h9,k4,↓gd]
  refine ⟨12 - (i+1),by omega,i+1,rfl,by omega,by simp,b4,c4,d4,f4,?_,?_⟩
  ·rw [hsn]
  ·rw [hsn]; exact q4.at_.set0 _ k4
 ·have:i=12:=by omega
  subst this
  have hi':¬((12:Nat):Int) < 12:=by omega
  have hTr:=hone.pl.true_
  have hxB:=hone.pl.b
  have hW60:EnW 60 (passesM 12 w).caller:=hone.pl.all.1.caller.mono (by decide)
  obtain ⟨_,g1,g2,⟨g3,g4⟩,⟨g5,g6⟩,g7,g8⟩:=hone
  generalize passesM 12 w=x at *
  have t1:=fun T=>lkTable_self x.caller.out x.caller.outM hxB.caller.out.1 T
  have t2:=fun T=>lkTable_self x.answerer.out x.answerer.outM hxB.answerer.out.1 T
  simp -implicitDefEqProofs (maxSteps:=1000000) (disch:=omega) only [push_cast,simprocAttr,h8,h9,hi',kx,g1,g2,↓gd]
  refine ((t1 _).as (by simp [tV,g3,g4])).to ?_
  simp -implicitDefEqProofs (maxSteps:=1000000) (disch:=omega) only [push_cast,simprocAttr,h8,kx,g1,g2,↓gd]
  refine ((t2 _).as (by simp [tV,g5,g6])).to ?_
  simp -implicitDefEqProofs (maxSteps:=1000000) (disch:=omega) only [push_cast,simprocAttr,h8,kx,g1,g2,g7,g8,↓gd]
  refine ((lkTrue_ok hxB hW60 hTr hx).as (by simp [wV,wC,enC,g1,g2,g7,g8])).mono ?_
  rintro r S5 ⟨rfl,hu⟩
  simp -implicitDefEqProofs (maxSteps:=1000000) (disch:=omega) only [push_cast,simprocAttr,↓gd]
  exact ⟨_,_,Wk.refl _ _ _,rfl⟩
end
end Go.Proofs.YtmfamfjfnjckeaaGreatDoor
