/- A part of the proof: contracts of functions, or plain facts on which these lean. -/
import Derived.Test.YtdplmibomopkcaaGreatOa35
import Derived.Test.YtdplmibomopkcaaGreatOaLzB
import Derived.Test.YtdplmibomopkcaaGreatOaLzC
namespace Go.Proofs.YtdplmibomopkcaaGreat
open Go
set_option linter.unusedVariables false
set_option linter.unusedSimpArgs false
set_option maxRecDepth 100000
set_option maxHeartbeats 16000000

section
open Go
theorem endLeaveM_b {e:En} (he:EnB e) (id:Int):EnB (endLeaveM e id).1:=by
 rw [endLeaveM]
 split
 ·exact en0_bE
 ·rename_i h
  have hE:endOk e=true:=by cases q:endOk e <;> simp_all
  exact (leaveM_w (endOk_w hE) id).b (by decide)
structure LeftE (x:En) (id:Int):Prop where
 ok:endOk x=true
 hl:HL x
 again:(endLeaveM x id).2=false
 gone:∃k,k < x.strs.length∧(stAt x k).id=id∧(stAt x k).state≠1
theorem leave_facts {e:En} {wire:List UInt8} (hw:DrawnE e wire) (id:Int) (hok:(endLeaveM e id).2=true):LeftE (endLeaveM e id).1 id:=by
 cases hE:endOk e with
 | false=>rw [endLeaveM,if_pos hE] at hok; cases hok
 | true =>
  have e1:endLeaveM e id=leaveM e id:=by rw [endLeaveM,if_neg (by rw [hE]; simp)]
  rw [e1] at hok ⊢
  have hL:=hw.l hE
  have hW:=(leaveM_w hL.w id).mono (show 36+1≤60 by decide)
  unfold leaveM at hok
  cases hk:atM e.strs id with
  | none=>rw [hk] at hok; cases hok
  | some k =>
   rw [hk] at hok
   simp only at hok
   by_cases hc:e.ans=true∨(stAt e k).state≠1
   ·rw [if_pos hc] at hok; cases hok
   ·obtain ⟨k1,k2⟩:=atM_some hk
    have hx:(leaveM e id).1=setSt { e with wait:=if (stAt e k).begun then e.wait++[⟨3,false,id,[]⟩] else e.wait } k { stAt e k with state:=3 }:=by
     unfold leaveM; rw [hk]; simp only; rw [if_neg hc]
    have hst:stAt (leaveM e id).1 k={ stAt e k with state:=3 }:=by rw [hx]; refine stAt_set ?_; exact k1
    have hlx:k < (leaveM e id).1.strs.length:=by rw [hx]; simpa [setSt] using k1
    have hid:(stAt (leaveM e id).1 k).id=id:=by rw [hst]; exact k2
    have hatx:atM (leaveM e id).1.strs id=some k:=by have h9:=hW.at_ hlx; rw [hid] at h9; exact h9
    refine ⟨endOk_iff.2 hW,?_,?_,k,hlx,hid,by rw [hst]; show (3:Int)≠1; decide⟩
    ·rw [hx]
     exact HL.set hL.hl (hL.hl.at_ k1)
    ·rw [endLeaveM,if_neg (by rw [endOk_iff.2 hW]; simp)]
     generalize hy:(leaveM e id).1=x at *
     unfold leaveM
     rw [hatx]
     simp only
     rw [if_pos (.inr (by rw [hst]; show (3:Int)≠1; decide))]
theorem FnLeaveTwice_ok (code:List UInt8) (S:List Blk):VCall Tryz.prog 4 [.rows none (code.map u8V)] S fun r S'=>r=.bool true:=by
 refine VCall.en hDe Tryz.func4 Tryz.ntmps4 Tryz.results4 ?_
 by_cases hc:(code.length:Int) > 1048576
 ·simp -implicitDefEqProofs (maxSteps:=1000000) (disch:=omega) only [push_cast,simprocAttr,hc,↓gd]
  exact ⟨_,_,Wk.refl _ _ _,rfl⟩
 simp -implicitDefEqProofs (maxSteps:=1000000) (disch:=omega) only [push_cast,simprocAttr,hc,↓gd]
 refine (DrawEndLeave_ok code (by omega) _).mono ?_
 rintro r S1 ⟨e,id,b,c,⟨wire,hw⟩,rfl,q1⟩
 have hB:=hw.b.1
 have hspec:=fun (Z:List Blk) (q:EnAt Z b c e)=>sEndLeave_ok hB id q
 have hEL:=fun (Z:List Blk) (q:EnAt Z b c e)=>EndLeave_ok hB id q
 have hXB:EnB (endLeaveM e id).1:=endLeaveM_b hB id
 have hfacts:=leave_facts hw id
 generalize endLeaveM e id=X at *
 obtain ⟨x,ok⟩:=X
 simp only at hspec hEL hXB hfacts
 simp -implicitDefEqProofs (maxSteps:=1000000) (disch:=omega) only [push_cast,simprocAttr,↓gd]
 refine ((hspec _ (q1.at_.app _)).as (by simp [eV,enV,enC])).mono ?_
 rintro r S2 ⟨_,rfl,b2,c2,rfl,q2⟩
 have k3:S2[S1.length]?=some (.cells 0 (enC (.heap b e.strs.length) (.heap c e.wait.length) e)):=q2.upd.get (by simp -implicitDefEqProofs (maxSteps:=1000000) (disch:=omega) only [push_cast,simprocAttr,↓gd]) (by simp)
 have hat2:=(q1.at_.app [(.cells 0 (enC (.heap b e.strs.length) (.heap c e.wait.length) e))]).upd q2.upd (by simp) (by simp)
 have l3:=lt_of_some k3
 simp -implicitDefEqProofs (maxSteps:=1000000) (disch:=omega) only [push_cast,simprocAttr,k3,↓gd]
 refine ((hEL _ (hat2.app _)).as (by simp [eV,enV,enC])).mono ?_
 rintro r S3 ⟨_,rfl,b3,c3,rfl,q3⟩
 have k4':=q3.upd.get (j:=S2.length) (B:=(.cells 0 (enC (.heap b2 x.strs.length) (.heap c2 x.wait.length) x))) (by simp -implicitDefEqProofs (maxSteps:=1000000) (disch:=omega) only [push_cast,simprocAttr,↓gd]) (by simp)
 have hs3:=(q2.at_.app [(.cells 0 (enC (.heap b2 x.strs.length) (.heap c2 x.wait.length) x))]).upd q3.upd (by simp) (by simp)
 have hx3:=q3.at_
 have l4':=lt_of_some k4'
 simp -implicitDefEqProofs (maxSteps:=1000000) (disch:=omega) only [push_cast,simprocAttr,k4',↓gd]
 refine ((lkEnd_self hXB (hx3.app _) (hs3.app _)).as (by simp [eV,enV,enC])).to ?_
 cases hok:ok
 ·simp -implicitDefEqProofs (maxSteps:=1000000) (disch:=omega) only [push_cast,simprocAttr,k4',↓gd]
  refine ((lkEnd_self hXB (hx3.app _) (hs3.app _)).as (by simp [eV,enV,enC])).to ?_
  simp -implicitDefEqProofs (maxSteps:=1000000) (disch:=omega) only [push_cast,simprocAttr,↓gd]
  exact ⟨_,_,Wk.refl _ _ _,rfl⟩
 obtain ⟨hxo,hxl,hag,kk,hk1,hk2,hk3⟩:=hfacts hok
 have hEL2:=fun (Z:List Blk) (q:EnAt Z b3 c3 x)=>EndLeave_ok hXB id q
 generalize endLeaveM x id=L at *
 obtain ⟨y0,ok2⟩:=L
 simp only at hag hEL2
 subst hag
 have hEW:=fun (Z:List Blk) (q:EnAt Z b3 c3 x)=>EndWrite_ok hXB q
 generalize hy:endWriteM x=Y at *
 obtain ⟨y,o⟩:=Y
 simp only at hEW
 obtain ⟨fs,hs⟩:=said hxo hxl hy
 have hob:=hs.bytes
 have hshort:=hs.short
 rw [hob] at hshort
 have hbl:=bytes_len fs
 have hyl:=hs.len
 have hokf:=hs.ok
 have hlater:∀n,x.wait.length≤n→n < fs.length→(fs.getD n Go.Proofs.YtdplmibomopkcaaGreat.fr0).stream≠id:=by
  intro n hn hnl
  cases hb:x.bad with
  | true=>rw [(hs.bad hb).1] at hnl; simp at hnl
  | false =>
   obtain ⟨g1,g2,g3⟩:=hs.good hb
   rw [g2,getD_app_right hn]
   have hnn:n - x.wait.length < (newF x).length:=by rw [g2,List.length_append] at hnl; omega
   have:=gone_silent (endOk_iff.1 hxo) g1 hk1 hk3 _ (getD_memF hnn)
   rwa [hk2] at this
 clear hs
 have hxw:=hXB.wait
 simp -implicitDefEqProofs (maxSteps:=1000000) (disch:=omega) only [push_cast,simprocAttr,↓gd]
 refine ((hEL2 _ (hx3.app _)).as (by simp [eV,enV,enC])).mono ?_
 rintro r S4 ⟨_,rfl,b4,c4,rfl,q4⟩
 have k6:=q4.upd.get (j:=S3.length) (B:=(.cells 0 (enC (.heap b3 x.strs.length) (.heap c3 x.wait.length) x))) (by simp -implicitDefEqProofs (maxSteps:=1000000) (disch:=omega) only [push_cast,simprocAttr,↓gd]) (by simp)
 have hx4:=(hx3.app [(.cells 0 (enC (.heap b3 x.strs.length) (.heap c3 x.wait.length) x))]).upd q4.upd (by simp) (by simp)
 have l6:=lt_of_some k6
 simp -implicitDefEqProofs (maxSteps:=1000000) (disch:=omega) only [push_cast,simprocAttr,k6,↓gd]
 refine ((hEW _ (hx4.app _)).as (by simp [eV,enV,enC])).mono ?_
 rintro r S5 ⟨_,rfl,b5,c5,rfl,q5⟩
 have k6':=q5.upd.get (j:=S3.length) (B:=(.cells 0 (enC (.heap b3 x.strs.length) (.heap c3 x.wait.length) x))) (by simp -implicitDefEqProofs (maxSteps:=1000000) (disch:=omega) only [push_cast,simprocAttr,k6,↓gd]) (by simp)
 have l6':=lt_of_some k6'
 simp -implicitDefEqProofs (maxSteps:=1000000) (disch:=omega) only [push_cast,simprocAttr,k6',↓gd]
 refine wpV_loop (fun m t S'=>∃n:Nat,m=fs.length - n∧n≤fs.length∧t 4=.int .i64 id∧t 7=.ptr S3.length 0∧t 10=.bool false∧t 11=.ptr S5.length 0∧t 12=.str (bytes (fs.drop n))∧t 13=.int .i64 n ∧
  S'[S3.length]?=some (.cells 0 (enC (.heap b3 x.strs.length) (.heap c3 x.wait.length) x))∧S'[S5.length]?=some (.cells 0 (enC (.heap b5 y.strs.length) (.heap c5 y.wait.length) y))) fs.length ⟨0,by omega,by omega,rfl,rfl,rfl,rfl,by rw [hob]; rfl,rfl,?_,?_⟩ ?_
 ·simp -implicitDefEqProofs (maxSteps:=1000000) (disch:=omega) only [push_cast,simprocAttr,k6',↓gd]
 ·simp -implicitDefEqProofs (maxSteps:=1000000) (disch:=omega) only [push_cast,simprocAttr,↓gd]
 rintro m t S' ⟨n,rfl,hn,h4,h7,h10,h11,h12,h13,k6,k8⟩
 refine wpV_of0 hDe ?_
 have lk6:=lt_of_some k6
 have lk8:=lt_of_some k8
 by_cases hnl:n < fs.length
 ·obtain ⟨g1,g2,g3,g4⟩:=bytes_at hokf hnl
  have hle:=bytes_le (fs:=fs) (n:=n)
  have hFR:=fun T=>FrameRead_ok (bytes (fs.drop n)) (by omega) T
  rw [g1] at hFR
  have hl:=fun h=>hlater n h hnl
  generalize bytes (fs.drop n)=B at *
  generalize hB2:bytes (fs.drop (n+1))=B2 at *
  have hused:((4+(fs.getD n Go.Proofs.YtdplmibomopkcaaGreat.fr0).body.length:Nat):Int)≤B.length:=by omega
  generalize fs.getD n Go.Proofs.YtdplmibomopkcaaGreat.fr0=f at *
  simp -implicitDefEqProofs (maxSteps:=1000000) (disch:=omega) only [push_cast,simprocAttr,h4,h7,h12,h13,g3,↓gd]
  refine ((hFR _).as rfl).to ?_
  by_cases hsi:f.stream=id
  ·have hnw:¬(n:Int) ≥ x.wait.length:=fun z=>hl (by omega) hsi
   have g2':B.drop ((4:Int)+f.body.length).toNat=B2:=by rw [show ((4:Int)+f.body.length).toNat=4+f.body.length by omega]; exact g2
   simp -implicitDefEqProofs (maxSteps:=1000000) (disch:=omega) only [push_cast,simprocAttr,h4,h7,h10,h11,h12,h13,k6,hsi,hnw,hused,↓gd]
   repeat refine And.intro (by omega) ?_
   exact ⟨fs.length - (n+1),by omega,n+1,rfl,by omega,by rw [List.take_length,g2',←hB2],by simp⟩
  ·have g2':B.drop ((4:Int)+f.body.length).toNat=B2:=by rw [show ((4:Int)+f.body.length).toNat=4+f.body.length by omega]; exact g2
   simp -implicitDefEqProofs (maxSteps:=1000000) (disch:=omega) only [push_cast,simprocAttr,h4,h7,h10,h11,h12,h13,k6,hsi,hused,↓gd]
   repeat refine And.intro (by omega) ?_
   exact ⟨fs.length - (n+1),by omega,n+1,rfl,by omega,by rw [List.take_length,g2',←hB2],by simp⟩
 ·have:n=fs.length:=by omega
  subst this
  rw [bytes_end] at h12
  simp -implicitDefEqProofs (maxSteps:=1000000) (disch:=omega) only [push_cast,simprocAttr,h4,h7,h10,h11,h12,h13,k6,k8,hyl,decide_true,↓gd]
  exact ⟨_,_,Wk.refl _ _ _,rfl⟩
end
end Go.Proofs.YtdplmibomopkcaaGreat
