/- A part of the proof: contracts of functions, or plain facts on which these lean. -/
import Derived.Test.YtmfamfjfnjckeaaGreatDoorNaLwK
import Derived.Test.YtmfamfjfnjckeaaGreatDoorNaLwP
namespace Go.Proofs.YtmfamfjfnjckeaaGreatDoor
open Go
set_option linter.unusedVariables false
set_option linter.unusedSimpArgs false
set_option maxRecDepth 100000
set_option maxHeartbeats 16000000

section
open Go
theorem pl_do {u:Wo} (h:Pl u) (v:Ev):worldDoM u v=doM u v:=by rw [worldDoM,if_neg (by rw [h.all.ok]; simp)]
theorem do_call {u:Wo} (h:Pl u) (v:Ev) (hv:EvB v) {T:List Blk} {b c d f:Nat} (q:WoAt T b c d f u):VCall Tryz.prog 13 [wV b c d f u,evV v] T fun r S'=>RWNew T (doM u v) r S':=by
 have:=WorldDo_ok h.b v hv q
 rwa [pl_do h] at this
theorem do_pass {u:Wo} (h:Pl u) (way:Int) {T:List Blk} {b c d f:Nat} (q:WoAt T b c d f u):VCall Tryz.prog 13 [wV b c d f u,evV ⟨4,way,90,[],[]⟩] T fun r S'=>RWNew T (passM u way 90) r S' :=
 do_call h ⟨4,way,90,[],[]⟩ ⟨by simp,by simp⟩ q
theorem FnWorldCut_ok (code more:List UInt8) (S:List Blk):VCall Tryz.prog 4 [.rows none (code.map u8V),.rows none (more.map u8V)] S fun r S'=>r=.bool true:=by
 refine VCall.ex hDe (fun _=>false) (fun id=>if id=13 then [5,5,5,5,5,6,7] else []) Tryz.func4 Tryz.ntmps4 Tryz.results4 ?_
 by_cases hc:(code.length:Int) > 1048576
 ·simp -implicitDefEqProofs (maxSteps:=1000000) (disch:=omega) only [push_cast,simprocAttr,hc,↓gd]
  exact ⟨_,_,Wk.refl _ _ _,rfl⟩
 by_cases hc2:(more.length:Int) > 1048576
 ·simp -implicitDefEqProofs (maxSteps:=1000000) (disch:=omega) only [push_cast,simprocAttr,hc,hc2,↓gd]
  exact ⟨_,_,Wk.refl _ _ _,rfl⟩
 simp -implicitDefEqProofs (maxSteps:=1000000) (disch:=omega) only [push_cast,simprocAttr,hc,hc2,↓gd]
 refine (DrawWorldPlay_ok code (by omega) _).mono ?_
 rintro r S0 ⟨l,hl,hv,rfl,rfl⟩
 have hvB:=fun v hm=>(hv v hm).b
 simp -implicitDefEqProofs (maxSteps:=1000000) (disch:=omega) only [push_cast,simprocAttr,↓gd]
 refine (WorldPlay_ok l (by omega) hvB (fun _ i _=>play_ends l i) _).mono ?_
 rintro r S1 ⟨u,rfl,b,c,d,f,rfl,q1⟩
 have hspec:=fun Z=>sWorldPlay_ok l (by omega) hvB Z
 have hXB:=play_b l
 have hpl:=play_pl l
 generalize worldPlayM l=W at *
 obtain ⟨w,ok⟩:=W
 simp only at hspec hXB hpl q1
 simp -implicitDefEqProofs (maxSteps:=1000000) (disch:=omega) only [push_cast,simprocAttr,↓gd]
 refine (hspec _).mono ?_
 rintro r S2 ⟨u2,rfl,b2,c2,d2,f2,rfl,q2⟩
 have kw:S2[S1.length]?=some (.cells 0 (wC b c d f w)):=q2.upd.get (by simp -implicitDefEqProofs (maxSteps:=1000000) (disch:=omega) only [push_cast,simprocAttr,↓gd]) (by simp)
 have hat:=(q1.at_.app _).upd0 q2.upd
 have lw:=lt_of_some kw
 simp -implicitDefEqProofs (maxSteps:=1000000) (disch:=omega) only [push_cast,simprocAttr,kw,↓gd]
 refine ((lkWorld_self hXB (hat.app _) (q2.at_.app _)).as (by simp [wV,wC,enC])).to ?_
 cases hok:ok
 ·simp -implicitDefEqProofs (maxSteps:=1000000) (disch:=omega) only [push_cast,simprocAttr,kw,↓gd]
  refine ((lkWorld_self hXB (hat.app _) (q2.at_.app _)).as (by simp [wV,wC,enC])).to ?_
  simp -implicitDefEqProofs (maxSteps:=1000000) (disch:=omega) only [push_cast,simprocAttr,↓gd]
  exact ⟨_,_,Wk.refl _ _ _,rfl⟩
 obtain ⟨hP,hle,hplay⟩:=hpl hok
 have hat:=hat.app [.cells 0 (wC b2 c2 d2 f2 w)]
 have kw2:(S2++[.cells 0 (wC b2 c2 d2 f2 w)])[S1.length]?=some (.cells 0 (wC b c d f w)):=by rw [List.getElem?_append_left lw]; exact kw
 have htm:Int.tmod (more.length:Int) ((l.length:Int)+1)=((more.length % (l.length+1):Nat):Int):=tmod_nat more.length (l.length+1)
 have hk:more.length % (l.length+1)≤l.length:=by have:=Nat.mod_lt more.length (show l.length+1 > 0 by omega); omega
 generalize more.length % (l.length+1)=k at hk htm
 have hvT:∀v ∈ l.take k,EvB v:=fun v hm=>hvB v (List.mem_of_mem_take hm)
 have hcP:=fun T=>WorldPlay_ok (l.take k) (by rw [List.length_take]; omega) hvT (fun _ i _=>play_ends _ i) T
 have hplx:=play_pl (l.take k)
 have hfine:(worldPlayM (l.take k)).2=true:=by rw [worldPlayM,if_neg (by rw [List.length_take]; omega)]
 generalize worldPlayM (l.take k)=X at *
 obtain ⟨x,fine⟩:=X
 simp only at hcP hplx hfine
 subst hfine
 obtain ⟨_,_,hx⟩:=hplx rfl
 subst hx
 simp -implicitDefEqProofs (maxSteps:=1000000) (disch:=omega) only [push_cast,simprocAttr,kw2,htm,↓gd]
 refine ⟨by omega,by rw [List.all_eq_true]; intro v hv'; obtain ⟨e,_,rfl⟩:=List.mem_map.1 hv'; rfl,by omega,by omega,?_⟩
 refine ((hcP _).as (by simp [List.map_take])).mono ?_
 rintro r S3 ⟨u3,rfl,b3,c3,d3,f3,rfl,q3⟩
 have kw3:=q3.upd.get kw2 (by simp)
 have hat3:=hat.upd0 q3.upd
 have lw3:=lt_of_some kw3
 simp -implicitDefEqProofs (maxSteps:=1000000) (disch:=omega) only [push_cast,simprocAttr,↓gd]
 refine wpV_loop (fun m t S'=>∃i:Nat,m=l.length - i∧k≤i∧i≤l.length∧t 5=.rows none (l.map evV)∧t 6=.ptr S1.length 0∧t 11=.ptr S3.length 0∧t 12=.bool true∧t 13=.int .i64 i ∧
  S'[S1.length]?=some (.cells 0 (wC b c d f w))∧WoAt S' b c d f w∧S1.length < S3.length∧∃bx cx dx fx,S'[S3.length]?=some (.cells 0 (wC bx cx dx fx (playM (l.take i))))∧WoAt S' bx cx dx fx (playM (l.take i))) (l.length - k) ⟨k,rfl,Nat.le_refl _,hk,rfl,rfl,rfl,rfl,rfl,?_,hat3.app _,lw3,b3,c3,d3,f3,?_,q3.at_.app _⟩ ?_
 ·simp -implicitDefEqProofs (maxSteps:=1000000) (disch:=omega) only [push_cast,simprocAttr,kw3,↓gd]
 ·simp -implicitDefEqProofs (maxSteps:=1000000) (disch:=omega) only [push_cast,simprocAttr,↓gd]
 rintro m t S' ⟨i,rfl,hki,hi,h5,h6,h11,h12,h13,kw',hat',hne,bx,cx,dx,fx,kx,hx⟩
 refine wpV_of hDe (fun _=>false) (fun id=>if id=13 then [5,5,5,5,5,6,7] else []) (by kernel_rfl) ?_
 have lx:=lt_of_some kx
 have lkw:=lt_of_some kw'
 by_cases hil:i < l.length
 ·have hil':(i:Int) < l.length:=by omega
  have hgd:=getD_evV hil
  have hst:=playM_take ev0 hil
  have hvb:EvB (l.getD i ev0):=hvB _ (by rw [getD_lt ev0 hil]; exact List.getElem_mem hil)
  have hu:Pl (playM (l.take i)):=playM_pl _
  generalize l.getD i ev0=v at *
  generalize playM (l.take i)=u at *
  simp -implicitDefEqProofs (maxSteps:=1000000) (disch:=omega) only [push_cast,simprocAttr,h5,h6,h11,h12,h13,hil',kx,hgd,evs_len5,↓gd]
  repeat refine And.intro (by omega) ?_
  refine ((do_call hu v hvb hx).as (by simp [wV,wC,enC,evV])).mono ?_
  rintro r S4 ⟨b4,c4,d4,f4,rfl,q4⟩
  have k4:=q4.upd.get kx (by simp)
  have kw4:=q4.upd.get kw' (by simp)
  have hat4:=hat'.upd0 q4.upd
  have l4:=lt_of_some k4
  simp -implicitDefEqProofs (maxSteps:=1000000) (disch:=omega) only [push_cast,simprocAttr,h5,h6,h11,h12,h13,k4,↓gd]
  refine ⟨l.length - (i+1),by omega,i+1,rfl,by omega,by omega,by simp,?_,hat4.set0 _ k4,hne,b4,c4,d4,f4,?_,?_⟩
  ·exact kw4
  ·rw [hst]
  ·rw [hst]; exact q4.at_.set0 _ k4
 ·have:i=l.length:=by omega
  subst this
  have hil':¬((l.length:Nat):Int) < l.length:=by omega
  rw [List.take_length] at *
  rw [←hplay] at *
  simp -implicitDefEqProofs (maxSteps:=1000000) (disch:=omega) only [push_cast,simprocAttr,h5,h6,h11,h12,h13,hil',kx,kw',↓gd]
  refine ((lkWorld_self hXB hx hat').as (by simp [wV,wC,enC])).to ?_
  simp -implicitDefEqProofs (maxSteps:=1000000) (disch:=omega) only [push_cast,simprocAttr,↓gd]
  exact ⟨_,_,Wk.refl _ _ _,rfl⟩
end
end Go.Proofs.YtmfamfjfnjckeaaGreatDoor
