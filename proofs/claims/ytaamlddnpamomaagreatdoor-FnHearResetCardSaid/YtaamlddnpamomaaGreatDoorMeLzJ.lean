/- A part of the proof: contracts of functions, or plain facts on which these lean. -/
import Derived.Test.YtaamlddnpamomaaGreatDoorMe35
import Derived.Test.YtaamlddnpamomaaGreatDoorMe40
import Derived.Test.YtaamlddnpamomaaGreatDoorMe41
namespace Go.Proofs.YtaamlddnpamomaaGreatDoor
open Go
set_option linter.unusedVariables false
set_option linter.unusedSimpArgs false
set_option maxRecDepth 100000
set_option maxHeartbeats 16000000

section
open Go
structure ResetF (e y z:En) (k:Nat) (o:List UInt8) (fs:List Fr):Prop where
 bytes:o=bytes fs
 ok:∀f ∈ fs,frameOk f=true
 short:o.length≤1100000
 nb:y.bad=false∧z.bad=false
 len:y.strs.length=e.strs.length
 gone:(stAt y k).state=3
 later:∀n,e.wait.length≤n→n < fs.length→(fs.getD n fr0).stream≠(stAt e k).id
theorem reset_facts {e y z:En} {k:Nat} {o:List UInt8} (hL:EnL e) (hb:e.bad=false) (hk:k < e.strs.length) (hy:y=setSt e k { stAt e k with state:=3 }) (hz:endWriteM y=(z,o)) :
  ∃fs,ResetF e y z k o fs:=by
 have hst:stAt y k={ stAt e k with state:=3 }:=by rw [hy]; exact stAt_set hk
 have hlen:y.strs.length=e.strs.length:=by rw [hy]; simp [setSt]
 have hyb:y.bad=false:=by rw [hy]; exact hb
 have hyw:y.wait=e.wait:=by rw [hy]; rfl
 have hso:=stOk_iff.1 (hL.w.st hk)
 have hW:EnW 36 y:=by
  rw [hy]
  refine hL.w.setSt hk ?_ rfl
  refine stOk_iff.2 ?_
  obtain ⟨a1,a2,a3⟩:=hso
  exact ⟨a1,⟨by show (1:Int)≤3; decide,by show (3:Int)≤3; decide⟩,a3⟩
 have hyo:endOk y=true:=endOk_iff.2 (hW.mono (by decide))
 have hyl:HL y:=by rw [hy]; exact HL.set hL.hl (hL.hl.at_ hk)
 obtain ⟨fs,hS⟩:=said hyo hyl hz
 obtain ⟨g1,g2,g3⟩:=hS.good hyb
 refine ⟨fs,hS.bytes,hS.ok,hS.short,⟨hyb,by rw [g3,writeM_badE,hyb]⟩,hlen,by rw [hst],fun n hn hnl=>?_⟩
 rw [g2,hyw,getD_app_right hn]
 have hnn:n - e.wait.length < (newF y).length:=by rw [g2,hyw,List.length_append] at hnl; omega
 have:=gone_silent hW g1 (k:=k) (by rw [hlen]; exact hk) (by rw [hst]; show (3:Int)≠1; decide) _ (getD_memF hnn)
 rw [hst] at this
 exact this
theorem FnHearReset_ok (code:List UInt8) (S:List Blk):VCall Tryz.prog 9 [.rows none (code.map u8V)] S fun r S'=>r=.bool true:=by
 refine VCall.ex hDe (fun _=>false) (fun id=>if id=5 then [4,3,3,4,8,8,8,8,32,32,32,32,32,32,32,32,32,32,32,32,32,32,32,32,32,32,32,32,32,32,32,32] else if id=6 then [4,3,3,4,6,6] else if id=8 then [11,11,11,11,11,11,11,11,1000000,1000000,1000000,12,10] else if id=15 then [20,20,20,20,20,20,20,20,20,20,20,20,20,20,20,20,20,20,20,20] else []) Tryz.func9 Tryz.ntmps9 Tryz.results9 ?_
 by_cases hc:(code.length:Int) > 1048576
 ·simp -implicitDefEqProofs (maxSteps:=1000000) (disch:=omega) only [push_cast,simprocAttr,hc,↓gd]
  exact ⟨_,_,Wk.refl _ _ _,rfl⟩
 simp -implicitDefEqProofs (maxSteps:=1000000) (disch:=omega) only [push_cast,simprocAttr,hc,↓gd]
 refine (DrawEndHear_ok code (by omega) _).mono ?_
 rintro r S1 ⟨e,bs,b,c,⟨wire,hw⟩,hbs,rfl,q1⟩
 have hB:=hw.b.1
 simp -implicitDefEqProofs (maxSteps:=1000000) (disch:=omega) only [push_cast,simprocAttr,↓gd]
 have hEH:=fun (Z:List Blk) (q:EnAt Z b c e)=>EndHear_ok hB bs (by omega) q
 have hspec:=fun (Z:List Blk) (q:EnAt Z b c e)=>sEndHear_ok hB bs (by omega) q
 have hXB:=endHearM_b e bs
 generalize hx:endHearM e bs=x at *
 refine ((hEH _ (q1.at_.app _)).as (by simp [eV,enV,enC])).mono ?_
 rintro r S2 ⟨b2,c2,rfl,q2⟩
 have k5:S2[S1.length]?=some (.cells 0 (enC (.heap b e.strs.length) (.heap c e.wait.length) e)):=q2.upd.get (by simp -implicitDefEqProofs (maxSteps:=1000000) (disch:=omega) only [push_cast,simprocAttr,↓gd]) (by simp)
 have hat2:=(q1.at_.app [(.cells 0 (enC (.heap b e.strs.length) (.heap c e.wait.length) e))]).upd q2.upd (by simp) (by simp)
 have l5:=lt_of_some k5
 have hX:=q2.at_
 simp -implicitDefEqProofs (maxSteps:=1000000) (disch:=omega) only [push_cast,simprocAttr,k5,↓gd]
 refine ((hspec _ (hat2.app _)).as (by simp [eV,enV,enC])).mono ?_
 rintro r S3 ⟨b3,c3,rfl,q3⟩
 have k5':=q3.upd.get (j:=S1.length) (B:=(.cells 0 (enC (.heap b e.strs.length) (.heap c e.wait.length) e))) (by simp -implicitDefEqProofs (maxSteps:=1000000) (disch:=omega) only [push_cast,simprocAttr,k5,↓gd]) (by simp)
 have k7':=q3.upd.get (j:=S2.length) (B:=(.cells 0 (enC (.heap b2 x.strs.length) (.heap c2 x.wait.length) x))) (by simp -implicitDefEqProofs (maxSteps:=1000000) (disch:=omega) only [push_cast,simprocAttr,↓gd]) (by simp)
 have hat3:=(hat2.app [(.cells 0 (enC (.heap b2 x.strs.length) (.heap c2 x.wait.length) x))]).upd q3.upd (by simp) (by simp)
 have hX3:=(hX.app [(.cells 0 (enC (.heap b2 x.strs.length) (.heap c2 x.wait.length) x))]).upd q3.upd (by simp) (by simp)
 simp -implicitDefEqProofs (maxSteps:=1000000) (disch:=omega) only [push_cast,simprocAttr,k5,k5',k7',↓gd]
 refine ((lkEnd_self hXB hX3 q3.at_).as (by simp [eV,enV,enC])).to ?_
 simp -implicitDefEqProofs (maxSteps:=1000000) (disch:=omega) only [push_cast,simprocAttr,k5',k7',↓gd]
 refine ((sEndOk_at hB hat3).as (by simp [eV,enV,enC])).to ?_
 cases hE:endOk e
 ·simp -implicitDefEqProofs (maxSteps:=1000000) (disch:=omega) only [push_cast,simprocAttr,k5',k7',↓gd]
  refine ((hspec _ hat3).as (by simp [eV,enV,enC])).mono ?_
  rintro r S4 ⟨b4,c4,rfl,q4⟩
  have k7'':=q4.upd.get k7' (by simp)
  simp -implicitDefEqProofs (maxSteps:=1000000) (disch:=omega) only [push_cast,simprocAttr,k5',k7',k7'',↓gd]
  refine ((lkEnd_self hXB (hX3.upd q4.upd (by simp) (by simp)) q4.at_).as (by simp [eV,enV,enC])).to ?_
  simp -implicitDefEqProofs (maxSteps:=1000000) (disch:=omega) only [push_cast,simprocAttr,↓gd]
  exact ⟨_,_,Wk.refl _ _ _,rfl⟩
 have hL:=hw.l hE
 have hwl:=hB.wait
 have hcl:=hB.came
 have hel:=hB.len
 cases hb:e.bad
 rotate_left
 ·simp -implicitDefEqProofs (maxSteps:=1000000) (disch:=omega) only [push_cast,simprocAttr,k5',k7',hb,↓gd]
  refine ((hspec _ hat3).as (by simp [eV,enV,enC,hb])).mono ?_
  rintro r S4 ⟨b4,c4,rfl,q4⟩
  have k7'':=q4.upd.get k7' (by simp)
  simp -implicitDefEqProofs (maxSteps:=1000000) (disch:=omega) only [push_cast,simprocAttr,k5',k7',k7'',hb,↓gd]
  refine ((lkEnd_self hXB (hX3.upd q4.upd (by simp) (by simp)) q4.at_).as (by simp [eV,enV,enC,hb])).to ?_
  simp -implicitDefEqProofs (maxSteps:=1000000) (disch:=omega) only [push_cast,simprocAttr,↓gd]
  exact ⟨_,_,Wk.refl _ _ _,rfl⟩
 by_cases h3:e.came=[]
 rotate_left
 ·simp -implicitDefEqProofs (maxSteps:=1000000) (disch:=omega) only [push_cast,simprocAttr,k5',k7',hb,h3,↓gd]
  refine ((hspec _ hat3).as (by simp [eV,enV,enC,hb,h3])).mono ?_
  rintro r S4 ⟨b4,c4,rfl,q4⟩
  have k7'':=q4.upd.get k7' (by simp)
  simp -implicitDefEqProofs (maxSteps:=1000000) (disch:=omega) only [push_cast,simprocAttr,k5',k7',k7'',hb,h3,↓gd]
  refine ((lkEnd_self hXB (hX3.upd q4.upd (by simp) (by simp)) q4.at_).as (by simp [eV,enV,enC,hb,h3])).to ?_
  simp -implicitDefEqProofs (maxSteps:=1000000) (disch:=omega) only [push_cast,simprocAttr,↓gd]
  exact ⟨_,_,Wk.refl _ _ _,rfl⟩
 by_cases h5:(e.strs.length:Int)=0
 ·simp -implicitDefEqProofs (maxSteps:=1000000) (disch:=omega) only [push_cast,simprocAttr,k5',k7',hb,h3,h5,↓gd]
  refine ((hspec _ hat3).as (by simp [eV,enV,enC,hb,h3,h5])).mono ?_
  rintro r S4 ⟨b4,c4,rfl,q4⟩
  have k7'':=q4.upd.get k7' (by simp)
  simp -implicitDefEqProofs (maxSteps:=1000000) (disch:=omega) only [push_cast,simprocAttr,k5',k7',k7'',hb,h3,h5,↓gd]
  refine ((lkEnd_self hXB (hX3.upd q4.upd (by simp) (by simp)) q4.at_).as (by simp [eV,enV,enC,hb,h3,h5])).to ?_
  simp -implicitDefEqProofs (maxSteps:=1000000) (disch:=omega) only [push_cast,simprocAttr,↓gd]
  exact ⟨_,_,Wk.refl _ _ _,rfl⟩
 by_cases h4:(e.wait.length:Int) > 40
 ·simp -implicitDefEqProofs (maxSteps:=1000000) (disch:=omega) only [push_cast,simprocAttr,k5',k7',hb,h3,h4,h5,↓gd]
  refine ((hspec _ hat3).as (by simp [eV,enV,enC,hb,h3,h4,h5])).mono ?_
  rintro r S4 ⟨b4,c4,rfl,q4⟩
  have k7'':=q4.upd.get k7' (by simp)
  simp -implicitDefEqProofs (maxSteps:=1000000) (disch:=omega) only [push_cast,simprocAttr,k5',k7',k7'',hb,h3,h4,h5,↓gd]
  refine ((lkEnd_self hXB (hX3.upd q4.upd (by simp) (by simp)) q4.at_).as (by simp [eV,enV,enC,hb,h3,h4,h5])).to ?_
  simp -implicitDefEqProofs (maxSteps:=1000000) (disch:=omega) only [push_cast,simprocAttr,↓gd]
  exact ⟨_,_,Wk.refl _ _ _,rfl⟩
 clear hspec hEH
 have hs0:0 < e.strs.length:=by omega
 obtain ⟨hf,hh⟩:=hear_reset hE hb h3 (by omega) hs0
 obtain ⟨k,hk1⟩:∃k,k=e.strs.length - 1:=⟨_,rfl⟩
 rw [←hk1] at hf hh
 have hk:k < e.strs.length:=by omega
 have hkc:(e.strs.length:Int) - 1=(k:Int):=by omega
 clear hk1
 have hYB:=endHearM_b e (frW ⟨3,false,(stAt e k).id,[]⟩)
 have hE1:=fun (Z:List Blk) (q:EnAt Z b c e)=>EndHear_ok hB (frW ⟨3,false,(stAt e k).id,[]⟩) (by simp [frW]) q
 have hFW:=fun T=>FrameWrite_ok ⟨3,false,(stAt e k).id,[]⟩ T
 rw [hf] at hFW
 have hsl:=strsC_len e.strs
 have c0:=strsC_id hk
 have hst:e.strs.getD k st0=stAt e k:=rfl
 rw [hst] at c0
 have hb3:=hat3.1
 have lb3:=lt_of_some hb3
 cases ha:e.ans
 ·rw [if_pos ha] at hh
  rw [hh] at hE1 hYB
  simp -implicitDefEqProofs (maxSteps:=1000000) (disch:=omega) only [push_cast,simprocAttr,k5',k7',hb,h3,h4,h5,hkc,hb3,c0,strC_eq,↓gd]
  repeat refine And.intro (by omega) ?_
  refine ((hFW _).as (by simp [frV,frmC])).to ?_
  simp -implicitDefEqProofs (maxSteps:=1000000) (disch:=omega) only [push_cast,simprocAttr,k5',k7',hb,h3,h4,↓gd]
  refine ((hE1 _ hat3).as (by simp [eV,enV,enC,hb,h3,ha])).mono ?_
  rintro r S4 ⟨b4,c4,rfl,q4⟩
  have m5:=q4.upd.get k5' (by simp)
  have l5:=lt_of_some m5
  have hb4:=(hat3.upd q4.upd (by simp) (by simp)).1
  have lb4:=lt_of_some hb4
  simp -implicitDefEqProofs (maxSteps:=1000000) (disch:=omega) only [push_cast,simprocAttr,m5,k5',hb3,hb4,ha,badM,↓gd]
  refine ⟨rfl,?_⟩
  exact ⟨_,_,Wk.refl _ _ _,rfl⟩
 rw [if_neg (by rw [ha]; decide)] at hh
 generalize hz:endWriteM (endHearM e (frW ⟨3,false,(stAt e k).id,[]⟩))=Z at *
 obtain ⟨z,o⟩:=Z
 generalize hy:endHearM e (frW ⟨3,false,(stAt e k).id,[]⟩)=y at *
 obtain ⟨fs,hF⟩:=reset_facts hL hb hk hh hz
 have hEW:=fun (Z:List Blk) (b c:Nat) (q:EnAt Z b c y)=>EndWrite_ok hYB q
 rw [hz] at hEW
 obtain ⟨n1,n2⟩:=hF.nb
 have hob:=hF.bytes
 have hshort:=hF.short
 rw [hob] at hshort
 have hokf:=hF.ok
 have hbl:=bytes_len fs
 have hyl:=hF.len
 have hg:=hF.gone
 have hlater:=hF.later
 have hky:k < y.strs.length:=by omega
 have d1:=strsC_get hky (c:=1) (by decide)
 have hsy:y.strs.getD k st0=stAt y k:=rfl
 rw [hsy] at d1
 have hsly:=strsC_len y.strs
 clear hh hF hy
 simp -implicitDefEqProofs (maxSteps:=1000000) (disch:=omega) only [push_cast,simprocAttr,k5',k7',hb,h3,h4,h5,hkc,hb3,c0,strC_eq,↓gd]
 repeat refine And.intro (by omega) ?_
 refine ((hFW _).as (by simp [frV,frmC])).to ?_
 simp -implicitDefEqProofs (maxSteps:=1000000) (disch:=omega) only [push_cast,simprocAttr,k5',k7',hb,h3,h4,↓gd]
 refine ((hE1 _ hat3).as (by simp [eV,enV,enC,hb,h3,ha])).mono ?_
 rintro r S4 ⟨b4,c4,rfl,q4⟩
 have m5:=q4.upd.get k5' (by simp)
 have l5:=lt_of_some m5
 have hat4:=hat3.upd q4.upd (by simp) (by simp)
 have hb4:=hat4.1
 have lb4:=lt_of_some hb4
 simp -implicitDefEqProofs (maxSteps:=1000000) (disch:=omega) only [push_cast,simprocAttr,m5,k5',hb3,hb4,ha,↓gd]
 refine ⟨rfl,?_⟩
 refine ((hEW _ b4 c4 (q4.at_.app _)).as (by simp [eV,enV,enC])).mono ?_
 rintro r S5 ⟨_,rfl,b5,c5,rfl,q5⟩
 have n5:=q5.upd.get (j:=S1.length) (B:=(.cells 0 (enC (.heap b e.strs.length) (.heap c e.wait.length) e))) (by simp -implicitDefEqProofs (maxSteps:=1000000) (disch:=omega) only [push_cast,simprocAttr,m5,↓gd]) (by simp)
 have n7:=q5.upd.get (j:=S4.length) (B:=.cells 0 (enC (.heap b4 y.strs.length) (.heap c4 y.wait.length) y)) (by simp -implicitDefEqProofs (maxSteps:=1000000) (disch:=omega) only [push_cast,simprocAttr,↓gd]) (by simp)
 have hat5:=(hat4.app [.cells 0 (enC (.heap b4 y.strs.length) (.heap c4 y.wait.length) y)]).upd q5.upd (by simp) (by simp)
 have hy5:=(q4.at_.app [.cells 0 (enC (.heap b4 y.strs.length) (.heap c4 y.wait.length) y)]).upd q5.upd (by simp) (by simp)
 have l5':=lt_of_some n5
 have l7':=lt_of_some n7
 simp -implicitDefEqProofs (maxSteps:=1000000) (disch:=omega) only [push_cast,simprocAttr,n5,n7,↓gd]
 refine wpV_loop (fun m t S'=>∃n:Nat,m=fs.length - n∧n≤fs.length∧t 3=.ptr S1.length 0∧t 6=.int .i64 (k:Int)∧t 7=.ptr S4.length 0∧t 8=.ptr S5.length 0∧t 9=.str (bytes (fs.drop n))∧t 10=.int .i64 n ∧
  S'[S1.length]?=some (.cells 0 (enC (.heap b e.strs.length) (.heap c e.wait.length) e))∧EnAt S' b c e∧S'[S4.length]?=some (.cells 0 (enC (.heap b4 y.strs.length) (.heap c4 y.wait.length) y))∧EnAt S' b4 c4 y∧S'[S5.length]?=some (.cells 0 (enC (.heap b5 z.strs.length) (.heap c5 z.wait.length) z))) fs.length ⟨0,by omega,by omega,rfl,rfl,rfl,rfl,by rw [hob]; rfl,rfl,?_,?_,?_,?_,?_⟩ ?_
 ·simp -implicitDefEqProofs (maxSteps:=1000000) (disch:=omega) only [push_cast,simprocAttr,n5,↓gd]
 ·exact hat5.app _
 ·simp -implicitDefEqProofs (maxSteps:=1000000) (disch:=omega) only [push_cast,simprocAttr,n7,↓gd]
 ·exact hy5.app _
 ·simp -implicitDefEqProofs (maxSteps:=1000000) (disch:=omega) only [push_cast,simprocAttr,↓gd]
 rintro m t S' ⟨n,rfl,hn,h3',h6,h7,h8,h9,h10,k3,hat,k7,haty,k8⟩
 refine wpV_of0 hDe ?_
 have lk3:=lt_of_some k3
 have lk7:=lt_of_some k7
 have lk8:=lt_of_some k8
 have hbe:=hat.1
 have hby:=haty.1
 have lbe:=lt_of_some hbe
 have lby:=lt_of_some hby
 by_cases hnl:n < fs.length
 ·obtain ⟨g1,g2,g3,g4⟩:=bytes_at hokf hnl
  have hle:=bytes_le (fs:=fs) (n:=n)
  have hFR:=fun T=>FrameRead_ok (bytes (fs.drop n)) (by omega) T
  rw [g1] at hFR
  have hl:=fun h=>hlater n h hnl
  generalize bytes (fs.drop n)=B at *
  generalize hB2:bytes (fs.drop (n+1))=B2 at *
  have hused:((4+(fs.getD n Go.Proofs.YtaamlddnpamomaaGreatDoor.fr0).body.length:Nat):Int)≤B.length:=by omega
  generalize fs.getD n Go.Proofs.YtaamlddnpamomaaGreatDoor.fr0=f at *
  simp -implicitDefEqProofs (maxSteps:=1000000) (disch:=omega) only [push_cast,simprocAttr,h3',h6,h7,h8,h9,h10,g3,↓gd]
  refine ((hFR _).as rfl).to ?_
  have g2':B.drop ((4:Int)+f.body.length).toNat=B2:=by rw [show ((4:Int)+f.body.length).toNat=4+f.body.length by omega]; exact g2
  by_cases hnw:(n:Int) ≥ e.wait.length
  ·have hsi:=hl (by omega)
   simp -implicitDefEqProofs (maxSteps:=1000000) (disch:=omega) only [push_cast,simprocAttr,h3',h6,h7,h8,h9,h10,k3,hbe,c0,strC_eq,hsi,hnw,hused,↓gd]
   repeat refine And.intro (by omega) ?_
   exact ⟨fs.length - (n+1),by omega,n+1,rfl,by omega,by rw [List.take_length,g2',←hB2],by simp,hat.app _,haty.app _⟩
  ·simp -implicitDefEqProofs (maxSteps:=1000000) (disch:=omega) only [push_cast,simprocAttr,h3',h6,h7,h8,h9,h10,k3,hnw,hused,↓gd]
   repeat refine And.intro (by omega) ?_
   exact ⟨fs.length - (n+1),by omega,n+1,rfl,by omega,by rw [List.take_length,g2',←hB2],by simp,hat.app _,haty.app _⟩
 ·have:n=fs.length:=by omega
  subst this
  rw [bytes_end] at h9
  simp -implicitDefEqProofs (maxSteps:=1000000) (disch:=omega) only [push_cast,simprocAttr,h3',h6,h7,h8,h9,h10,k7,k8,hby,d1,strC_eq,n1,n2,hg,decide_true,↓gd]
  repeat refine And.intro (by omega) ?_
  exact ⟨_,_,Wk.refl _ _ _,rfl⟩
end
end Go.Proofs.YtaamlddnpamomaaGreatDoor
