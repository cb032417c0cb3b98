/- A part of the proof: contracts of functions, or plain facts on which these lean. -/
import Derived.Test.YtnhifbfbnofkcaaGreatDoorMaLwP
namespace Go.Proofs.YtnhifbfbnofkcaaGreatDoor
open Go
set_option linter.unusedVariables false
set_option linter.unusedSimpArgs false
set_option maxRecDepth 100000
set_option maxHeartbeats 16000000

section
open Go
theorem FnWorldAlways_ok (code more:List UInt8) (S:List Blk):VCall Tryz.prog 5 [.rows none (code.map u8V),.rows none (more.map u8V)] S fun r S'=>r=.bool true:=by
 refine VCall.en hDe Tryz.func5 Tryz.ntmps5 Tryz.results5 ?_
 by_cases hc:(code.length:Int) > 1048576
 ·simp -implicitDefEqProofs (maxSteps:=1000000) (disch:=omega) only [push_cast,simprocAttr,hc,↓gd]
  exact ⟨_,_,Wk.refl _ _ _,rfl⟩
 by_cases hc2:(more.length:Int) > 1048576
 ·simp -implicitDefEqProofs (maxSteps:=1000000) (disch:=omega) only [push_cast,simprocAttr,hc,hc2,↓gd]
  exact ⟨_,_,Wk.refl _ _ _,rfl⟩
 simp -implicitDefEqProofs (maxSteps:=1000000) (disch:=omega) only [push_cast,simprocAttr,hc,hc2,↓gd]
 refine (DrawWorldPlay_ok code (by omega) _).mono ?_
 rintro r S0 ⟨l,hl,hv,rfl,rfl⟩
 have hvB:=fun v hm=>(hv v hm).b
 simp -implicitDefEqProofs (maxSteps:=1000000) (disch:=omega) only [push_cast,simprocAttr,↓gd]
 refine (WorldPlay_ok l (by omega) hvB (fun _ i _=>play_ends l i) _).mono ?_
 rintro r S1 ⟨u,rfl,b,c,d,f,rfl,q1⟩
 have hspec:=fun Z=>sWorldPlay_ok l (by omega) hvB Z
 have hXB:=play_b l
 have hpl:=play_pl l
 generalize worldPlayM l=W at *
 obtain ⟨w,ok⟩:=W
 simp only at hspec hXB hpl q1
 simp -implicitDefEqProofs (maxSteps:=1000000) (disch:=omega) only [push_cast,simprocAttr,↓gd]
 refine (hspec _).mono ?_
 rintro r S2 ⟨u2,rfl,b2,c2,d2,f2,rfl,q2⟩
 have kw:S2[S1.length]?=some (.cells 0 (wC b c d f w)):=q2.upd.get (by simp -implicitDefEqProofs (maxSteps:=1000000) (disch:=omega) only [push_cast,simprocAttr,↓gd]) (by simp)
 have hat:=(q1.at_.app _).upd0 q2.upd
 have lw:=lt_of_some kw
 simp -implicitDefEqProofs (maxSteps:=1000000) (disch:=omega) only [push_cast,simprocAttr,kw,↓gd]
 refine ((lkWorld_self hXB (hat.app _) (q2.at_.app _)).as (by simp [wV,wC,enC])).to ?_
 cases hok:ok
 ·simp -implicitDefEqProofs (maxSteps:=1000000) (disch:=omega) only [push_cast,simprocAttr,kw,↓gd]
  refine ((lkWorld_self hXB (hat.app _) (q2.at_.app _)).as (by simp [wV,wC,enC])).to ?_
  simp -implicitDefEqProofs (maxSteps:=1000000) (disch:=omega) only [push_cast,simprocAttr,↓gd]
  exact ⟨_,_,Wk.refl _ _ _,rfl⟩
 obtain ⟨hP,hle,hplay⟩:=hpl hok
 have hat:=hat.app [.cells 0 (wC b2 c2 d2 f2 w)]
 have kw2:(S2++[.cells 0 (wC b2 c2 d2 f2 w)])[S1.length]?=some (.cells 0 (wC b c d f w)):=by rw [List.getElem?_append_left lw]; exact kw
 have htm:Int.tmod (more.length:Int) ((l.length:Int)+1)=((more.length % (l.length+1):Nat):Int):=tmod_nat more.length (l.length+1)
 have hk:more.length % (l.length+1)≤l.length:=by have:=Nat.mod_lt more.length (show l.length+1 > 0 by omega); omega
 generalize more.length % (l.length+1)=k at hk htm
 have hvT:∀v ∈ l.take k,EvB v:=fun v hm=>hvB v (List.mem_of_mem_take hm)
 have hcP:=fun T=>WorldPlay_ok (l.take k) (by rw [List.length_take]; omega) hvT (fun _ i _=>play_ends _ i) T
 have hXx:=play_b (l.take k)
 have hplx:=play_pl (l.take k)
 have hfine:(worldPlayM (l.take k)).2=true:=by rw [worldPlayM,if_neg (by rw [List.length_take]; omega)]
 generalize worldPlayM (l.take k)=X at *
 obtain ⟨x,fine⟩:=X
 simp only at hcP hXx hplx hfine
 subst hfine
 obtain ⟨hPx,_,_⟩:=hplx rfl
 have hT:=hPx.true_
 have hW60:EnW 60 x.caller:=hPx.all.1.caller.mono (by decide)
 have hwok:=hPx.all.ok
 simp -implicitDefEqProofs (maxSteps:=1000000) (disch:=omega) only [push_cast,simprocAttr,kw2,htm,↓gd]
 refine ⟨by omega,by rw [List.all_eq_true]; intro v hv'; obtain ⟨e,_,rfl⟩:=List.mem_map.1 hv'; rfl,by omega,by omega,?_⟩
 refine ((hcP _).as (by simp [List.map_take])).mono ?_
 rintro r S3 ⟨u3,rfl,b3,c3,d3,f3,rfl,q3⟩
 simp -implicitDefEqProofs (maxSteps:=1000000) (disch:=omega) only [push_cast,simprocAttr,↓gd]
 refine ((lkTrue_ok hXx hW60 hT (q3.at_.app _)).as (by simp [wV,wC,enC])).mono ?_
 rintro r S4 ⟨rfl,hu⟩
 have kx:=hu.get (j:=S3.length) (B:=.cells 0 (wC b3 c3 d3 f3 x)) (by simp -implicitDefEqProofs (maxSteps:=1000000) (disch:=omega) only [push_cast,simprocAttr,↓gd]) (by simp)
 simp -implicitDefEqProofs (maxSteps:=1000000) (disch:=omega) only [push_cast,simprocAttr,kx,↓gd]
 refine ((WorldOk_ok hXx ((q3.at_.app _).upd0 hu)).as (by simp [wV,wC,enC])).to ?_
 simp -implicitDefEqProofs (maxSteps:=1000000) (disch:=omega) only [push_cast,simprocAttr,hwok,↓gd]
 exact ⟨_,_,Wk.refl _ _ _,rfl⟩
end
end Go.Proofs.YtnhifbfbnofkcaaGreatDoor
