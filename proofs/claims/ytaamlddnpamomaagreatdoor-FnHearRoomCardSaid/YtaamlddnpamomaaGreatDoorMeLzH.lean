/- A part of the proof: contracts of functions, or plain facts on which these lean. -/
import Derived.Test.YtaamlddnpamomaaGreatDoorMe35
import Derived.Test.YtaamlddnpamomaaGreatDoorMe40
namespace Go.Proofs.YtaamlddnpamomaaGreatDoor
open Go
set_option linter.unusedVariables false
set_option linter.unusedSimpArgs false
set_option maxRecDepth 100000
set_option maxHeartbeats 16000000

section
open Go
theorem texts_le:∀l:List St,(∀s ∈ l,s.text.length≤1000)→texts l≤1000 * l.length
 | [],_=>Nat.le_refl _
 | s :: l,h=>by
  have h1:=h s (by simp)
  have h2:=texts_le l (fun g hg=>h g (by simp [hg]))
  simp only [texts,List.length_cons]; omega
theorem texts_snoc {l:List St} {i:Nat} (h:i < l.length):texts (l.take (i+1))=texts (l.take i)+(l.getD i st0).text.length:=by
 rw [List.take_add_one,List.getElem?_eq_getElem h,texts_app,List.getD_eq_getElem?_getD,List.getElem?_eq_getElem h]
 simp [texts]
theorem texts_part (l:List St) (i:Nat):texts (l.take i)≤texts l:=by
 conv=>rhs; rw [←List.take_append_drop i l,texts_app]
 omega
theorem EnW.texts {N:Nat} {e:En} (h:EnW N e):∀s ∈ e.strs,s.text.length≤1000:=fun s hs=>by
 obtain ⟨i,hi,rfl⟩:=List.getElem_of_mem hs
 have:=(wordOk_iff.1 (stOk_iff.1 (h.st hi)).2.2.2.2.2.1).2
 rw [stAt,getD_lt st0 hi] at this
 omega
theorem more0_le:∀l:List Fr,more0 l≤256 * l.length
 | []=>Nat.le_refl _
 | f :: l=>by
  have h1:byteAt f.body 0 < 256:=UInt8.toNat_lt _
  have h2:=more0_le l
  simp only [more0,List.length_cons]; split <;> omega
theorem more1_le:∀l:List Fr,more1 l≤256 * l.length
 | []=>Nat.le_refl _
 | f :: l=>by
  have h1:byteAt f.body 0 < 256:=UInt8.toNat_lt _
  have h2:=more1_le l
  simp only [more1,List.length_cons]; split <;> omega
theorem FnHearRoom_ok (code:List UInt8) (S:List Blk):VCall Tryz.prog 4 [.rows none (code.map u8V)] S fun r S'=>r=.bool true:=by
 refine VCall.ex hDe (fun _=>false) (fun id=>if id=5 then [4,3,3,4,8,8,8,8,30,30,30,30,30,30,30,30,30,30,30,30,30,30,30,30,30,30,30,30,30,30] else if id=6 then [4,3,3,4,6,6] else []) Tryz.func4 Tryz.ntmps4 Tryz.results4 ?_
 by_cases hc:(code.length:Int) > 1048576
 ·simp -implicitDefEqProofs (maxSteps:=1000000) (disch:=omega) only [push_cast,simprocAttr,hc,↓gd]
  exact ⟨_,_,Wk.refl _ _ _,rfl⟩
 simp -implicitDefEqProofs (maxSteps:=1000000) (disch:=omega) only [push_cast,simprocAttr,hc,↓gd]
 refine (DrawEndHear_ok code (by omega) _).mono ?_
 rintro r S1 ⟨e,bs,b,c,⟨wire,hw⟩,hbs,rfl,q1⟩
 have hB:=hw.b.1
 simp -implicitDefEqProofs (maxSteps:=1000000) (disch:=omega) only [push_cast,simprocAttr,↓gd]
 have hEH:=fun (Z:List Blk) (q:EnAt Z b c e)=>EndHear_ok hB bs (by omega) q
 have hspec:=fun (Z:List Blk) (q:EnAt Z b c e)=>sEndHear_ok hB bs (by omega) q
 have hXB:=endHearM_b e bs
 generalize hx:endHearM e bs=x at *
 refine ((hEH _ (q1.at_.app _)).as (by simp [eV,enV,enC])).mono ?_
 rintro r S2 ⟨b2,c2,rfl,q2⟩
 have k5:S2[S1.length]?=some (.cells 0 (enC (.heap b e.strs.length) (.heap c e.wait.length) e)):=q2.upd.get (by simp -implicitDefEqProofs (maxSteps:=1000000) (disch:=omega) only [push_cast,simprocAttr,↓gd]) (by simp)
 have hat2:=(q1.at_.app [(.cells 0 (enC (.heap b e.strs.length) (.heap c e.wait.length) e))]).upd q2.upd (by simp) (by simp)
 have l5:=lt_of_some k5
 have hX:=q2.at_
 simp -implicitDefEqProofs (maxSteps:=1000000) (disch:=omega) only [push_cast,simprocAttr,k5,↓gd]
 refine ((hspec _ (hat2.app _)).as (by simp [eV,enV,enC])).mono ?_
 rintro r S3 ⟨b3,c3,rfl,q3⟩
 have k5':=q3.upd.get (j:=S1.length) (B:=(.cells 0 (enC (.heap b e.strs.length) (.heap c e.wait.length) e))) (by simp -implicitDefEqProofs (maxSteps:=1000000) (disch:=omega) only [push_cast,simprocAttr,k5,↓gd]) (by simp)
 have k7':=q3.upd.get (j:=S2.length) (B:=(.cells 0 (enC (.heap b2 x.strs.length) (.heap c2 x.wait.length) x))) (by simp -implicitDefEqProofs (maxSteps:=1000000) (disch:=omega) only [push_cast,simprocAttr,↓gd]) (by simp)
 have hat3:=(hat2.app [(.cells 0 (enC (.heap b2 x.strs.length) (.heap c2 x.wait.length) x))]).upd q3.upd (by simp) (by simp)
 have hX3:=(hX.app [(.cells 0 (enC (.heap b2 x.strs.length) (.heap c2 x.wait.length) x))]).upd q3.upd (by simp) (by simp)
 simp -implicitDefEqProofs (maxSteps:=1000000) (disch:=omega) only [push_cast,simprocAttr,k5,k5',k7',↓gd]
 refine ((lkEnd_self hXB hX3 q3.at_).as (by simp [eV,enV,enC])).to ?_
 simp -implicitDefEqProofs (maxSteps:=1000000) (disch:=omega) only [push_cast,simprocAttr,k5',k7',↓gd]
 refine ((sEndOk_at hB hat3).as (by simp [eV,enV,enC])).to ?_
 cases hE:endOk e
 ·simp -implicitDefEqProofs (maxSteps:=1000000) (disch:=omega) only [push_cast,simprocAttr,k5',k7',↓gd]
  refine ((hspec _ hat3).as (by simp [eV,enV,enC])).mono ?_
  rintro r S4 ⟨b4,c4,rfl,q4⟩
  have k7'':=q4.upd.get k7' (by simp)
  simp -implicitDefEqProofs (maxSteps:=1000000) (disch:=omega) only [push_cast,simprocAttr,k5',k7',k7'',↓gd]
  refine ((lkEnd_self hXB (hX3.upd q4.upd (by simp) (by simp)) q4.at_).as (by simp [eV,enV,enC])).to ?_
  simp -implicitDefEqProofs (maxSteps:=1000000) (disch:=omega) only [push_cast,simprocAttr,↓gd]
  exact ⟨_,_,Wk.refl _ _ _,rfl⟩
 have hwl:=hB.wait
 have hcl:=hB.came
 cases hxb:x.bad
 rotate_left
 ·simp -implicitDefEqProofs (maxSteps:=1000000) (disch:=omega) only [push_cast,simprocAttr,k5',k7',hxb,↓gd]
  refine ((hspec _ hat3).as (by simp [eV,enV,enC,hxb])).mono ?_
  rintro r S4 ⟨b4,c4,rfl,q4⟩
  have k7'':=q4.upd.get k7' (by simp)
  simp -implicitDefEqProofs (maxSteps:=1000000) (disch:=omega) only [push_cast,simprocAttr,k5',k7',k7'',hxb,↓gd]
  refine ((lkEnd_self hXB (hX3.upd q4.upd (by simp) (by simp)) q4.at_).as (by simp [eV,enV,enC,hxb])).to ?_
  simp -implicitDefEqProofs (maxSteps:=1000000) (disch:=omega) only [push_cast,simprocAttr,↓gd]
  exact ⟨_,_,Wk.refl _ _ _,rfl⟩
 by_cases h3:(e.came.length:Int)+bs.length > 300
 ·simp -implicitDefEqProofs (maxSteps:=1000000) (disch:=omega) only [push_cast,simprocAttr,k5',k7',hxb,h3,↓gd]
  refine ((hspec _ hat3).as (by simp [eV,enV,enC,hxb,h3])).mono ?_
  rintro r S4 ⟨b4,c4,rfl,q4⟩
  have k7'':=q4.upd.get k7' (by simp)
  simp -implicitDefEqProofs (maxSteps:=1000000) (disch:=omega) only [push_cast,simprocAttr,k5',k7',k7'',hxb,h3,↓gd]
  refine ((lkEnd_self hXB (hX3.upd q4.upd (by simp) (by simp)) q4.at_).as (by simp [eV,enV,enC,hxb,h3])).to ?_
  simp -implicitDefEqProofs (maxSteps:=1000000) (disch:=omega) only [push_cast,simprocAttr,↓gd]
  exact ⟨_,_,Wk.refl _ _ _,rfl⟩
 by_cases h4:(e.wait.length:Int) > 40
 ·simp -implicitDefEqProofs (maxSteps:=1000000) (disch:=omega) only [push_cast,simprocAttr,k5',k7',hxb,h3,h4,↓gd]
  refine ((hspec _ hat3).as (by simp [eV,enV,enC,hxb,h3,h4])).mono ?_
  rintro r S4 ⟨b4,c4,rfl,q4⟩
  have k7'':=q4.upd.get k7' (by simp)
  simp -implicitDefEqProofs (maxSteps:=1000000) (disch:=omega) only [push_cast,simprocAttr,k5',k7',k7'',hxb,h3,h4,↓gd]
  refine ((lkEnd_self hXB (hX3.upd q4.upd (by simp) (by simp)) q4.at_).as (by simp [eV,enV,enC,hxb,h3,h4])).to ?_
  simp -implicitDefEqProofs (maxSteps:=1000000) (disch:=omega) only [push_cast,simprocAttr,↓gd]
  exact ⟨_,_,Wk.refl _ _ _,rfl⟩
 clear hspec hEH
 have hW:=endOk_iff.1 hE
 have heb:e.bad=false:=by
  cases q:e.bad with
  | false=>rfl
  | true =>
   have:endHearM e bs=e:=by rw [endHearM,if_neg (by rw [hE]; rintro (z | z); cases z; omega),hearWM,if_pos (.inl q)]
   rw [hx] at this
   rw [this,q] at hxb
   cases hxb
 have hxe:x=hearM e bs:=by
  rw [←hx,endHearM,if_neg (by rw [hE]; rintro (z | z); cases z; omega),hearWM,if_neg]
  rintro (z | z | z)
  ·rw [heb] at z; cases z
  ·omega
  ·omega
 obtain ⟨ww,mm,hR⟩:=hearM_r hW (b:=bs) (by omega)
 rw [←hxe] at hR
 have hXW:EnW 642 x:=by
  have:=(hearWM_w (hW.mono (show 60≤642 by decide)) (Nat.le_refl _) bs).1
  rwa [show hearWM e bs=x by rw [←hx,endHearM,if_neg (by rw [hE]; rintro (z | z); cases z; omega)]] at this
 obtain ⟨r1,r2,r3,r4,r5,r6⟩:=hR
 have hxl:=hXB.len
 have hel:=hB.len
 have hxwl:=hXB.wait
 have hsl:=strsC_len e.strs
 have hsx:=strsC_len x.strs
 have t1:=texts_le x.strs hXW.texts
 have t2:=texts_le e.strs hW.texts
 have tx:=texts_part x.strs
 have te:=texts_part e.strs
 have hwwl:x.wait.length=e.wait.length+ww.length:=by rw [r1,List.length_append]
 have hfl:=flowOk_iff.1 hW.flow
 clear hx hxe
 simp -implicitDefEqProofs (maxSteps:=1000000) (disch:=omega) only [push_cast,simprocAttr,k5',k7',hxb,h3,h4,↓gd]
 refine wpV_loop (fun m t S'=>∃i:Nat,m=x.strs.length - i∧i≤x.strs.length∧t 3=.ptr S1.length 0∧t 5=.ptr S2.length 0∧t 6=.int .i64 ((texts (x.strs.take i):Nat):Int)∧t 7=.int .i64 i∧S'=S3) x.strs.length ⟨0,by omega,by omega,rfl,rfl,rfl,rfl,rfl⟩ ?_
 rintro m t S' ⟨i,rfl,hi,h3',h5',h6,h7,rfl⟩
 refine wpV_of0 hDe ?_
 have lk5:=lt_of_some k5'
 have lk7:=lt_of_some k7'
 have hb5:=hat3.1
 have hb7:=hX3.1
 by_cases hil:i < x.strs.length
 ·have hil':(i:Int) < x.strs.length:=by omega
  have c8:=strsC_get hil (c:=8) (by decide)
  have hsn:=texts_snoc hil
  have htx:=tx i
  have htx2:=tx (i+1)
  rw [hsn] at htx2
  generalize x.strs.getD i st0=s at *
  simp -implicitDefEqProofs (maxSteps:=1000000) (disch:=omega) only [push_cast,simprocAttr,h3',h5',h6,h7,hil',k5',k7',hb7,c8,strC_eq,↓gd]
  repeat refine And.intro (by omega) ?_
  exact ⟨x.strs.length - (i+1),by omega,i+1,rfl,by omega,by rw [hsn]; simp,by simp⟩
 have:i=x.strs.length:=by omega
 subst this
 have hil':¬((x.strs.length:Nat):Int) < x.strs.length:=by omega
 rw [List.take_length] at h6
 simp -implicitDefEqProofs (maxSteps:=1000000) (disch:=omega) only [push_cast,simprocAttr,h3',h5',h6,h7,hil',k7',↓gd]
 refine wpV_loop (fun m t S4=>∃i:Nat,m=e.strs.length - i∧i≤e.strs.length∧t 3=.ptr S1.length 0∧t 5=.ptr S2.length 0∧t 6=.int .i64 (((texts x.strs:Nat):Int) - ((texts (e.strs.take i):Nat):Int))∧t 8=.int .i64 i∧Upd [] S' S4) e.strs.length ⟨0,by omega,by omega,h3',h5',by refine Eq.trans h6 ?_; simp [texts],rfl,Upd.refl _ _⟩ ?_
 rintro m t S4 ⟨i,rfl,hi,h3',h5',h6,h8,hu4⟩
 refine wpV_of0 hDe ?_
 have m5:=hu4.get k5' (by simp)
 have m7:=hu4.get k7' (by simp)
 have hat4:=hat3.upd hu4 (by simp) (by simp)
 have hX4:=hX3.upd hu4 (by simp) (by simp)
 have lm5:=lt_of_some m5
 have lm7:=lt_of_some m7
 have hb5:=hat4.1
 by_cases hil:i < e.strs.length
 ·have hil':(i:Int) < e.strs.length:=by omega
  have c8:=strsC_get hil (c:=8) (by decide)
  have hsn:=texts_snoc hil
  have htx:=te i
  have htx2:=te (i+1)
  rw [hsn] at htx2
  generalize e.strs.getD i st0=s at *
  simp -implicitDefEqProofs (maxSteps:=1000000) (disch:=omega) only [push_cast,simprocAttr,h3',h5',h6,h8,hil',m5,m7,hb5,c8,strC_eq,↓gd]
  repeat refine And.intro (by omega) ?_
  exact ⟨e.strs.length - (i+1),by omega,i+1,rfl,by omega,by rw [hsn]; congr 1; omega,by simp,hu4⟩
 have:i=e.strs.length:=by omega
 subst this
 have hil':¬((e.strs.length:Nat):Int) < e.strs.length:=by omega
 rw [List.take_length] at h6
 have hnn:((texts x.strs:Nat):Int) - ((texts e.strs:Nat):Int)=(mm:Int):=by rw [r6]; omega
 rw [hnn] at h6
 have hb9:=hX4.2
 have hxwl2:=frmsC_len x.wait
 simp -implicitDefEqProofs (maxSteps:=1000000) (disch:=omega) only [push_cast,simprocAttr,h3',h5',h6,h8,hil',m5,m7,↓gd]
 refine wpV_loop (fun m t S5=>∃i:Nat,m=ww.length - i∧i≤ww.length∧t 3=.ptr S1.length 0∧t 5=.ptr S2.length 0∧t 6=.int .i64 (mm:Int)∧t 9=.int .i64 ((more0 (ww.take i):Nat):Int)∧t 10=.int .i64 ((more1 (ww.take i):Nat):Int)∧t 11=.int .i64 ((e.wait.length:Int)+(i:Int))∧Upd [] S4 S5) ww.length ⟨0,by omega,by omega,h3',h5',h6,rfl,rfl,rfl,Upd.refl _ _⟩ ?_
 rintro m t S5 ⟨i,rfl,hi,h3',h5',h6,h9,h10,h11,hu5⟩
 refine wpV_of0 hDe ?_
 have n5:=hu5.get m5 (by simp)
 have n7:=hu5.get m7 (by simp)
 have hX5:=hX4.upd hu5 (by simp) (by simp)
 have ln5:=lt_of_some n5
 have ln7:=lt_of_some n7
 have hb9:=hX5.2
 have lb9:=lt_of_some hb9
 by_cases hil:i < ww.length
 ·have hil':(e.wait.length:Int)+(i:Int) < x.wait.length:=by omega
  have hti:((e.wait.length:Int)+(i:Int)).toNat=e.wait.length+i:=by omega
  have hfat:=frmsC_at (l:=x.wait) (i:=e.wait.length+i) (by omega)
  have hgx:x.wait.getD (e.wait.length+i) Go.Proofs.YtaamlddnpamomaaGreatDoor.fr0=ww.getD i Go.Proofs.YtaamlddnpamomaaGreatDoor.fr0:=by
   rw [r1,List.getD_eq_getElem?_getD,List.getElem?_append_right (by omega),Nat.add_sub_cancel_left,List.getD_eq_getElem?_getD]
  rw [hgx] at hfat
  obtain ⟨kk,kb⟩:=r2 _ (getD_memF hil)
  have s0:more0 (ww.take (i+1))=more0 (ww.take i)+(if (ww.getD i Go.Proofs.YtaamlddnpamomaaGreatDoor.fr0).stream=0 then byteAt (ww.getD i Go.Proofs.YtaamlddnpamomaaGreatDoor.fr0).body 0 else 0):=by
   rw [take_succ_fr hil,more0_app,more0,kk]
   simp [more0]
  have s1:more1 (ww.take (i+1))=more1 (ww.take i)+(if (ww.getD i Go.Proofs.YtaamlddnpamomaaGreatDoor.fr0).stream=0 then 0 else byteAt (ww.getD i Go.Proofs.YtaamlddnpamomaaGreatDoor.fr0).body 0):=by
   rw [take_succ_fr hil,more1_app,more1]
   simp [more1]
  have b0:=more0_le (ww.take i)
  have b1:=more1_le (ww.take i)
  have bl:(ww.take i).length≤ww.length:=by rw [List.length_take]; omega
  have hby:byteAt (ww.getD i Go.Proofs.YtaamlddnpamomaaGreatDoor.fr0).body 0 < 256:=UInt8.toNat_lt _
  unfold byteAt at s0 s1 hby
  generalize ww.getD i Go.Proofs.YtaamlddnpamomaaGreatDoor.fr0=f at *
  by_cases hs0:f.stream=0
  ·rw [if_pos hs0] at s0 s1
   simp -implicitDefEqProofs (maxSteps:=1000000) (disch:=omega) only [push_cast,simprocAttr,h3',h5',h6,h9,h10,h11,hil',hti,n5,n7,hb9,hfat,frmC_eq,kk,kb,hs0,↓gd]
   repeat refine And.intro (by omega) ?_
   exact ⟨ww.length - (i+1),by omega,i+1,rfl,by omega,by rw [s0]; simp,by rw [s1]; simp,by simp; omega,hu5.app _⟩
  ·rw [if_neg hs0] at s0 s1
   simp -implicitDefEqProofs (maxSteps:=1000000) (disch:=omega) only [push_cast,simprocAttr,h3',h5',h6,h9,h10,h11,hil',hti,n5,n7,hb9,hfat,frmC_eq,kk,kb,hs0,↓gd]
   repeat refine And.intro (by omega) ?_
   exact ⟨ww.length - (i+1),by omega,i+1,rfl,by omega,by rw [s0]; simp,by rw [s1]; simp,by simp; omega,hu5.app _⟩
 have:i=ww.length:=by omega
 subst this
 have hil':¬(e.wait.length:Int)+(ww.length:Int) < x.wait.length:=by omega
 rw [List.take_length,r3] at h9
 rw [List.take_length,r4] at h10
 simp -implicitDefEqProofs (maxSteps:=1000000) (disch:=omega) only [push_cast,simprocAttr,h3',h5',h6,h9,h10,h11,hil',n5,n7,r5,decide_true,↓gd]
 exact ⟨_,_,Wk.refl _ _ _,rfl⟩
end
end Go.Proofs.YtaamlddnpamomaaGreatDoor
