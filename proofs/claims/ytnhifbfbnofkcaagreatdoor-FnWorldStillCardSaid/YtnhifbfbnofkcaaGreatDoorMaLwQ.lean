/- A part of the proof: contracts of functions, or plain facts on which these lean. -/
import Derived.Test.YtnhifbfbnofkcaaGreatDoorMa40
import Derived.Test.YtnhifbfbnofkcaaGreatDoorMaLwP
namespace Go.Proofs.YtnhifbfbnofkcaaGreatDoor
open Go
set_option linter.unusedVariables false
set_option linter.unusedSimpArgs false
set_option maxRecDepth 100000
set_option maxHeartbeats 16000000

section
open Go
theorem calmS_in {w:Wo} (h:woOk w=true) {n:Nat} (hn:n≤16):worldCalmM w n=roundsM n w:=by
 rw [worldCalmM,if_neg (by rw [h]; simp; omega)]; rfl
theorem FnWorldStill_ok (code more:List UInt8) (S:List Blk):VCall Tryz.prog 4 [.rows none (code.map u8V),.rows none (more.map u8V)] S fun r S'=>r=.bool true:=by
 refine VCall.ex hDe (fun _=>false) (fun id=>if id=9 then [4,4,4,4,6,6,8,8] else []) Tryz.func4 Tryz.ntmps4 Tryz.results4 ?_
 by_cases hc:(code.length:Int) > 1048576
 ·simp -implicitDefEqProofs (maxSteps:=1000000) (disch:=omega) only [push_cast,simprocAttr,hc,↓gd]
  exact ⟨_,_,Wk.refl _ _ _,rfl⟩
 by_cases hc2:(more.length:Int) > 1048576
 ·simp -implicitDefEqProofs (maxSteps:=1000000) (disch:=omega) only [push_cast,simprocAttr,hc,hc2,↓gd]
  exact ⟨_,_,Wk.refl _ _ _,rfl⟩
 simp -implicitDefEqProofs (maxSteps:=1000000) (disch:=omega) only [push_cast,simprocAttr,hc,hc2,↓gd]
 refine (DrawWorldPlay_ok code (by omega) _).mono ?_
 rintro r S0 ⟨l,hl,hv,rfl,rfl⟩
 have hvB:=fun v hm=>(hv v hm).b
 simp -implicitDefEqProofs (maxSteps:=1000000) (disch:=omega) only [push_cast,simprocAttr,↓gd]
 refine (WorldPlay_ok l (by omega) hvB (fun _ i _=>play_ends l i) _).mono ?_
 rintro r S1 ⟨u,rfl,b,c,d,f,rfl,q1⟩
 have hspec:=fun Z=>sWorldPlay_ok l (by omega) hvB Z
 have hXB:=play_b l
 have hpl:=play_pl l
 generalize worldPlayM l=W at *
 obtain ⟨w,ok⟩:=W
 simp only at hspec hXB hpl q1
 simp -implicitDefEqProofs (maxSteps:=1000000) (disch:=omega) only [push_cast,simprocAttr,↓gd]
 refine (hspec _).mono ?_
 rintro r S2 ⟨u2,rfl,b2,c2,d2,f2,rfl,q2⟩
 have kw:S2[S1.length]?=some (.cells 0 (wC b c d f w)):=q2.upd.get (by simp -implicitDefEqProofs (maxSteps:=1000000) (disch:=omega) only [push_cast,simprocAttr,↓gd]) (by simp)
 have hat:=(q1.at_.app _).upd0 q2.upd
 have lw:=lt_of_some kw
 simp -implicitDefEqProofs (maxSteps:=1000000) (disch:=omega) only [push_cast,simprocAttr,kw,↓gd]
 refine ((lkWorld_self hXB (hat.app _) (q2.at_.app _)).as (by simp [wV,wC,enC])).to ?_
 cases hok:ok
 ·simp -implicitDefEqProofs (maxSteps:=1000000) (disch:=omega) only [push_cast,simprocAttr,kw,↓gd]
  refine ((lkWorld_self hXB (hat.app _) (q2.at_.app _)).as (by simp [wV,wC,enC])).to ?_
  simp -implicitDefEqProofs (maxSteps:=1000000) (disch:=omega) only [push_cast,simprocAttr,↓gd]
  exact ⟨_,_,Wk.refl _ _ _,rfl⟩
 obtain ⟨hP,hle,hplay⟩:=hpl hok
 have hat:=hat.app [.cells 0 (wC b2 c2 d2 f2 w)]
 have kw2:(S2++[.cells 0 (wC b2 c2 d2 f2 w)])[S1.length]?=some (.cells 0 (wC b c d f w)):=by rw [List.getElem?_append_left lw]; exact kw
 have htm:Int.tmod (more.length:Int) 17=((more.length % 17:Nat):Int):=tmod_nat more.length 17
 have hn:more.length % 17≤16:=by omega
 generalize more.length % 17=n at hn htm
 have hx:worldCalmM w ((16:Nat):Int)=roundsM 16 w:=calmS_in hP.all.ok (Nat.le_refl _)
 have hR:=calm_all hP (n:=16) (by decide)
 obtain ⟨hXP,hcs⟩:=rounds_cs 16 hP
 have hcalm:=fun T (q:WoAt T b c d f w)=>WorldCalm_ok woAll_stays hXB (fun _=>hP.all) ((16:Nat):Int) q
 rw [hx] at hcalm
 clear hx
 generalize roundsM 16 w=x at *
 have hB:=hXP.b
 have hx2:worldCalmM x (n:Int)=x:=by rw [calmS_in hXP.all.ok hn]; exact hR.rounds n
 have hcalm2:=fun T b c d f (q:WoAt T b c d f x)=>WorldCalm_ok woAll_stays hB (fun _=>hXP.all) (n:Int) q
 rw [hx2] at hcalm2
 simp -implicitDefEqProofs (maxSteps:=1000000) (disch:=omega) only [push_cast,simprocAttr,kw2,↓gd]
 refine ((hcalm _ hat).as (by simp [wV,wC,enC])).mono ?_
 rintro r S3 ⟨b3,c3,d3,f3,rfl,q3⟩
 simp -implicitDefEqProofs (maxSteps:=1000000) (disch:=omega) only [push_cast,simprocAttr,htm,↓gd]
 refine ((hcalm2 _ _ _ _ _ (q3.at_.app _)).as (by simp [wV,wC,enC])).mono ?_
 rintro r S4 ⟨b4,c4,d4,f4,rfl,q4⟩
 have kx:=q4.upd.get (j:=S3.length) (B:=.cells 0 (wC b3 c3 d3 f3 x)) (by simp -implicitDefEqProofs (maxSteps:=1000000) (disch:=omega) only [push_cast,simprocAttr,↓gd]) (by simp)
 simp -implicitDefEqProofs (maxSteps:=1000000) (disch:=omega) only [push_cast,simprocAttr,kx,↓gd]
 refine ((lkWorld_self hB q4.at_ ((q3.at_.app _).upd0 q4.upd)).as (by simp [wV,wC,enC])).to ?_
 simp -implicitDefEqProofs (maxSteps:=1000000) (disch:=omega) only [push_cast,simprocAttr,↓gd]
 exact ⟨_,_,Wk.refl _ _ _,rfl⟩
end
end Go.Proofs.YtnhifbfbnofkcaaGreatDoor
