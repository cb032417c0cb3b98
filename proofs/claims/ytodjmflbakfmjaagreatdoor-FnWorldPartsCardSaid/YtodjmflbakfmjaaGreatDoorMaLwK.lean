/- A part of the proof: contracts of functions, or plain facts on which these lean. -/
import Derived.Test.YtodjmflbakfmjaaGreatDoorMa39
import Derived.Test.YtodjmflbakfmjaaGreatDoorMaLwA
import Derived.Test.YtodjmflbakfmjaaGreatDoorMaMoZb
namespace Go.Proofs.YtodjmflbakfmjaaGreatDoor
open Go
set_option linter.unusedVariables false
set_option linter.unusedSimpArgs false
set_option maxRecDepth 100000
set_option maxHeartbeats 16000000

section
open Go
theorem EnAt.set0 {S:List Blk} {b c p:Nat} {e:En} {cs:List V} (B:Blk) (h:EnAt S b c e) (hp:S[p]?=some (.cells 0 cs)):EnAt (S.set p B) b c e:=by
 refine h.upd ((Upd.refl [p] S).set B (.inr (by simp))) ?_ ?_
 ·intro q
  rw [List.mem_singleton] at q
  subst q
  have:=h.1.symm.trans hp
  simp at this
 ·intro q
  rw [List.mem_singleton] at q
  subst q
  have:=h.2.symm.trans hp
  simp at this
theorem WoAt.set0 {S:List Blk} {b c d f p:Nat} {w:Wo} {cs:List V} (B:Blk) (h:WoAt S b c d f w) (hp:S[p]?=some (.cells 0 cs)):WoAt (S.set p B) b c d f w:=⟨h.caller.set0 B hp,h.answerer.set0 B hp,h.ne1,h.ne2⟩
theorem FnWorldParts_ok (code more:List UInt8) (S:List Blk):VCall Tryz.prog 9 [.rows none (code.map u8V),.rows none (more.map u8V)] S fun r S'=>r=.bool true:=by
 refine VCall.ex hDe (fun _=>false) (fun id=>if id=5 then [4,3,3,4,8,8,8,8,30,30,30,30,30,30,30,30,30,30,30,30,30,30,30,30,30,30,30,30,30,30] else if id=6 then [4,3,3,4,6,6] else []) Tryz.func9 Tryz.ntmps9 Tryz.results9 ?_
 by_cases hc:(code.length:Int) > 1048576
 ·simp -implicitDefEqProofs (maxSteps:=1000000) (disch:=omega) only [push_cast,simprocAttr,hc,↓gd]
  exact ⟨_,_,Wk.refl _ _ _,rfl⟩
 by_cases hc2:(more.length:Int) > 1048576
 ·simp -implicitDefEqProofs (maxSteps:=1000000) (disch:=omega) only [push_cast,simprocAttr,hc,hc2,↓gd]
  exact ⟨_,_,Wk.refl _ _ _,rfl⟩
 simp -implicitDefEqProofs (maxSteps:=1000000) (disch:=omega) only [push_cast,simprocAttr,hc,hc2,↓gd]
 refine (DrawWorldDo_ok code (by omega) _).mono ?_
 rintro r S1 ⟨w,v,b,c,d,f,hw,hv,rfl,q1⟩
 have hB:=hw.b
 simp -implicitDefEqProofs (maxSteps:=1000000) (disch:=omega) only [push_cast,simprocAttr,↓gd]
 refine ((WorldDo_ok hB v hv (q1.at_.app _)).as (by simp [wV,wC,enC,evV])).mono ?_
 rintro r S2 ⟨b2,c2,d2,f2,rfl,q2⟩
 have k5:S2[S1.length]?=some (.cells 0 (wC b c d f w)):=q2.upd.get (by simp -implicitDefEqProofs (maxSteps:=1000000) (disch:=omega) only [push_cast,simprocAttr,↓gd]) (by simp)
 have k6:S2[S1.length+1]?=some (.cells 0 [.int .i64 v.kind,.int .i64 v.a,.int .i64 v.b,.str v.path,.str v.text]):=q2.upd.get (by simp -implicitDefEqProofs (maxSteps:=1000000) (disch:=omega) only [push_cast,simprocAttr,↓gd]) (by simp)
 have hat2:=(q1.at_.app _).upd0 q2.upd
 have l5:=lt_of_some k5
 have l6:=lt_of_some k6
 have hX:=q2.at_
 have hXB:=worldDoM_b hB v
 have hspec:=fun (Z:List Blk) (q:WoAt Z b c d f w)=>sWorldDo_ok hB v hv q
 generalize worldDoM w v=x at *
 simp -implicitDefEqProofs (maxSteps:=1000000) (disch:=omega) only [push_cast,simprocAttr,k5,k6,↓gd]
 refine ((hspec _ (hat2.app _)).as (by simp [wV,wC,enC,evV])).mono ?_
 rintro r S3 ⟨b3,c3,d3,f3,rfl,q3⟩
 have k5':=q3.upd.get (j:=S1.length) (B:=.cells 0 (wC b c d f w)) (by simp -implicitDefEqProofs (maxSteps:=1000000) (disch:=omega) only [push_cast,simprocAttr,k5,↓gd]) (by simp)
 have k6':=q3.upd.get (j:=S1.length+1) (B:=.cells 0 [.int .i64 v.kind,.int .i64 v.a,.int .i64 v.b,.str v.path,.str v.text]) (by simp -implicitDefEqProofs (maxSteps:=1000000) (disch:=omega) only [push_cast,simprocAttr,k6,↓gd]) (by simp)
 have k7':=q3.upd.get (j:=S2.length) (B:=.cells 0 (wC b2 c2 d2 f2 x)) (by simp -implicitDefEqProofs (maxSteps:=1000000) (disch:=omega) only [push_cast,simprocAttr,↓gd]) (by simp)
 have hat3:=(hat2.app _).upd0 q3.upd
 have hX3:=(hX.app _).upd0 q3.upd
 simp -implicitDefEqProofs (maxSteps:=1000000) (disch:=omega) only [push_cast,simprocAttr,k5,k6,k5',k6',k7',↓gd]
 refine ((lkWorld_self hXB hX3 q3.at_).as (by simp [wV,wC,enC])).to ?_
 simp -implicitDefEqProofs (maxSteps:=1000000) (disch:=omega) only [push_cast,simprocAttr,k5',k6',k7',↓gd]
 refine ((sWorldOk_ok hB hat3).as (by simp [wV,wC,enC])).to ?_
 have hspec3:=hspec _ hat3
 clear hspec
 cases hE:woOk w
 ·simp -implicitDefEqProofs (maxSteps:=1000000) (disch:=omega) only [push_cast,simprocAttr,k5',k6',k7',↓gd]
  refine (hspec3.as (by simp [wV,wC,enC,evV])).mono ?_
  rintro r S4 ⟨b4,c4,d4,f4,rfl,q4⟩
  have k7'':=q4.upd.get k7' (by simp)
  simp -implicitDefEqProofs (maxSteps:=1000000) (disch:=omega) only [push_cast,simprocAttr,k5',k6',k7',k7'',↓gd]
  refine ((lkWorld_self hXB (hX3.upd0 q4.upd) q4.at_).as (by simp [wV,wC,enC])).to ?_
  simp -implicitDefEqProofs (maxSteps:=1000000) (disch:=omega) only [push_cast,simprocAttr,↓gd]
  exact ⟨_,_,Wk.refl _ _ _,rfl⟩
 have hwl:=hB.answerer.wait
 have hcl:w.answerer.came.length≤1000000:=by have:=(woOk_w hE).answerer.came; omega
 cases hb:w.answerer.bad
 case true =>
  simp -implicitDefEqProofs (maxSteps:=1000000) (disch:=omega) only [push_cast,simprocAttr,k5',k6',k7',hb,↓gd]
  refine (hspec3.as (by simp [wV,wC,enC,evV,hb])).mono ?_
  rintro r S4 ⟨b4,c4,d4,f4,rfl,q4⟩
  have k7'':=q4.upd.get k7' (by simp)
  simp -implicitDefEqProofs (maxSteps:=1000000) (disch:=omega) only [push_cast,simprocAttr,k5',k6',k7',k7'',↓gd]
  refine ((lkWorld_self hXB (hX3.upd0 q4.upd) q4.at_).as (by simp [wV,wC,enC])).to ?_
  simp -implicitDefEqProofs (maxSteps:=1000000) (disch:=omega) only [push_cast,simprocAttr,↓gd]
  exact ⟨_,_,Wk.refl _ _ _,rfl⟩
 by_cases h4:(w.answerer.wait.length:Int) > 4
 ·simp -implicitDefEqProofs (maxSteps:=1000000) (disch:=omega) only [push_cast,simprocAttr,k5',k6',k7',hb,h4,↓gd]
  refine (hspec3.as (by simp [wV,wC,enC,evV,hb])).mono ?_
  rintro r S4 ⟨b4,c4,d4,f4,rfl,q4⟩
  have k7'':=q4.upd.get k7' (by simp)
  simp -implicitDefEqProofs (maxSteps:=1000000) (disch:=omega) only [push_cast,simprocAttr,k5',k6',k7',k7'',↓gd]
  refine ((lkWorld_self hXB (hX3.upd0 q4.upd) q4.at_).as (by simp [wV,wC,enC])).to ?_
  simp -implicitDefEqProofs (maxSteps:=1000000) (disch:=omega) only [push_cast,simprocAttr,↓gd]
  exact ⟨_,_,Wk.refl _ _ _,rfl⟩
 by_cases h200:(w.answerer.came.length:Int) > 200
 ·simp -implicitDefEqProofs (maxSteps:=1000000) (disch:=omega) only [push_cast,simprocAttr,k5',k6',k7',hb,h4,h200,↓gd]
  refine (hspec3.as (by simp [wV,wC,enC,evV,hb])).mono ?_
  rintro r S4 ⟨b4,c4,d4,f4,rfl,q4⟩
  have k7'':=q4.upd.get k7' (by simp)
  simp -implicitDefEqProofs (maxSteps:=1000000) (disch:=omega) only [push_cast,simprocAttr,k5',k6',k7',k7'',↓gd]
  refine ((lkWorld_self hXB (hX3.upd0 q4.upd) q4.at_).as (by simp [wV,wC,enC])).to ?_
  simp -implicitDefEqProofs (maxSteps:=1000000) (disch:=omega) only [push_cast,simprocAttr,↓gd]
  exact ⟨_,_,Wk.refl _ _ _,rfl⟩
 clear hspec3
 have hn:more.length % 91≤90:=by omega
 have htm:Int.tmod (more.length:Int) 91=((more.length % 91:Nat):Int):=tmod_nat more.length 91
 generalize more.length % 91=n at hn htm
 have hA:=hw.p.all hE
 have hpp:=pass_parts hA hb (by omega) (by omega) hn
 have hdo:∀(u:Wo) (e:Ev),woOk u=true→worldDoM u e=doM u e:=fun u e h=>by rw [worldDoM,if_neg (by rw [h]; simp)]
 have hA1:=hA.step ⟨4,0,n,[],[]⟩
 have hYB:=worldDoM_b hB ⟨4,0,90,[],[]⟩
 have hZB:=worldDoM_b hB ⟨4,0,n,[],[]⟩
 rw [←hdo w _ hE] at hA1
 have hZ2B:=worldDoM_b hZB ⟨4,0,(90:Int) - n,[],[]⟩
 have hcY:=fun (Z:List Blk) (q:WoAt Z b c d f w)=>WorldDo_ok hB ⟨4,0,90,[],[]⟩ ⟨by simp,by simp⟩ q
 have hcZ:=fun (Z:List Blk) (q:WoAt Z b c d f w)=>WorldDo_ok hB ⟨4,0,n,[],[]⟩ ⟨by simp,by simp⟩ q
 have hcZ2:=fun (Z:List Blk) (b c d f:Nat) (q:WoAt Z b c d f (worldDoM w ⟨4,0,n,[],[]⟩))=>WorldDo_ok hZB ⟨4,0,(90:Int) - n,[],[]⟩ ⟨by simp,by simp⟩ q
 rw [←hdo w _ hE,←hdo w _ hE,←hdo _ _ hA1.ok] at hpp
 generalize worldDoM w ⟨4,0,90,[],[]⟩=Y at *
 generalize worldDoM w ⟨4,0,n,[],[]⟩=Z at *
 generalize worldDoM Z ⟨4,0,(90:Int) - n,[],[]⟩=Z2 at *
 simp -implicitDefEqProofs (maxSteps:=1000000) (disch:=omega) only [push_cast,simprocAttr,k5',htm,hb,h4,h200,↓gd]
 refine ((hcY _ hat3).as (by simp [wV,wC,enC,evV,hb])).mono ?_
 rintro r S4 ⟨b4,c4,d4,f4,rfl,q4⟩
 have k54:=q4.upd.get k5' (by simp)
 have hat4:=hat3.upd0 q4.upd
 simp -implicitDefEqProofs (maxSteps:=1000000) (disch:=omega) only [push_cast,simprocAttr,k54,↓gd]
 refine ((hcZ _ (hat4.app _)).as (by simp [wV,wC,enC,evV])).mono ?_
 rintro r S5 ⟨b5,c5,d5,f5,rfl,q5⟩
 have k95:=q5.upd.get (j:=S4.length) (B:=.cells 0 (wC b4 c4 d4 f4 Y)) (by simp -implicitDefEqProofs (maxSteps:=1000000) (disch:=omega) only [push_cast,simprocAttr,↓gd]) (by simp)
 have hY5:=(q4.at_.app _).upd0 q5.upd
 have l95:=lt_of_some k95
 simp -implicitDefEqProofs (maxSteps:=1000000) (disch:=omega) only [push_cast,simprocAttr,k95,↓gd]
 repeat refine And.intro (by omega) ?_
 refine ((hcZ2 _ _ _ _ _ (q5.at_.app _)).as (by simp [wV,wC,enC,evV])).mono ?_
 rintro r S6 ⟨b6,c6,d6,f6,rfl,q6⟩
 have k96:=q6.upd.get (j:=S4.length) (B:=.cells 0 (wC b4 c4 d4 f4 Y)) (by simp -implicitDefEqProofs (maxSteps:=1000000) (disch:=omega) only [push_cast,simprocAttr,k95,↓gd]) (by simp)
 have k06:=q6.upd.get (j:=S5.length) (B:=.cells 0 (wC b5 c5 d5 f5 Z)) (by simp -implicitDefEqProofs (maxSteps:=1000000) (disch:=omega) only [push_cast,simprocAttr,↓gd]) (by simp)
 have hY6:=(hY5.app _).upd0 q6.upd
 have l96:=lt_of_some k96
 have l06:=lt_of_some k06
 cases hyb:Y.answerer.bad
 case true =>
  simp -implicitDefEqProofs (maxSteps:=1000000) (disch:=omega) only [push_cast,simprocAttr,k96,k06,hyb,↓gd]
  repeat refine And.intro (by omega) ?_
  exact ⟨_,_,Wk.refl _ _ _,rfl⟩
 have hZY:Z2=Y:=hpp.resolve_left (by rw [hyb]; decide)
 subst hZY
 simp -implicitDefEqProofs (maxSteps:=1000000) (disch:=omega) only [push_cast,simprocAttr,k96,k06,hyb,↓gd]
 repeat refine And.intro (by omega) ?_
 refine ((lkWorld_self hZ2B (q6.at_.set0 _ k06) (hY6.set0 _ k06)).as (by simp [wV,wC,enC,hyb])).to ?_
 simp -implicitDefEqProofs (maxSteps:=1000000) (disch:=omega) only [push_cast,simprocAttr,↓gd]
 exact ⟨_,_,Wk.refl _ _ _,rfl⟩
end
end Go.Proofs.YtodjmflbakfmjaaGreatDoor
