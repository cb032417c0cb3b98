/- A part of the proof: contracts of functions, or plain facts on which these lean. -/
import Derived.Test.YtldogccmhncnoaaGreatDoorMh26
namespace Go.Proofs.YtldogccmhncnoaaGreatDoor
open Go
set_option linter.unusedVariables false
set_option linter.unusedSimpArgs false
set_option maxRecDepth 100000
set_option maxHeartbeats 16000000

section
open Go
theorem last_none {ans:Bool} {l:List St} (h:stsOk ans l=true) {id:Int} (hl:l=[]∨(l.getD (l.length - 1) st0).id < id):atM l id=none:=by
 have mono:∀j i,i≤j→j < l.length→(l.getD i st0).id≤(l.getD j st0).id:=by
  intro j
  induction j with
  | zero=>intro i hi _; rw [show i=0 by omega]; exact Int.le_refl _
  | succ j ih =>
   intro i hi hj
   rcases Nat.lt_or_ge i (j+1) with q | q
   ·have h1:=ih i (by omega) (by omega)
    have h2:=(stsOk_iff.1 h (j+1) hj).2.1
    simp only [Nat.add_sub_cancel] at h2
    omega
   ·rw [show i=j+1 by omega]; exact Int.le_refl _
 refine atM_no (fun j hj e=>?_)
 rcases hl with hl | hl
 ·rw [hl] at hj; simp at hj
 ·have:=mono (l.length - 1) j (by omega) (by omega)
  omega
theorem hearHead_ok {N:Nat} {e:En} (hW:EnW N e) (hN:N≤1100000) (hbad:e.bad=false) {f:Fr} (hf:frameOk f=true) (hk1:f.kind=1) {S:List Blk} {p b c:Nat} (h:PtrAt S p b c e) :
  VCall Tryz.prog 91 [.ptr p 0,frV f] S fun r S'=>Heard S p b c (headFM e f) r S':=by
 have he:=hW.b hN
 have hsts:=hW.sts
 have hwn:=hW.len
 have hinn:=hW.inn
 have hfb:=(frameOk_nat hf).2.2
 have hsl:=stsOk_len hsts
 have hgrow:=growM_w hW (id:=f.stream) (by
  obtain ⟨fk,fl,fs,fb⟩:=f
  simp only at hk1
  subst hk1
  simp only [frameOk] at hf
  rw [if_pos (.inr trivial)] at hf
  simp only [Bool.and_eq_true] at hf
  exact hf.1)
 have hgood:∀x hd,headR f.body.length e.inn e.innM f.body 0=some (x,hd)→tableOk x e.innM=true∧headOk hd=true:=fun x hd hr=>by
  obtain ⟨x1,x2,x3⟩:=headR_good _ _ _ _ _ _ _ hinn (by omega) (by omega) hr
  exact ⟨x1,headOk_iff.2 ⟨x2,by omega⟩⟩
 have hhr:hrM e.inn e.innM f.body=headR f.body.length e.inn e.innM f.body 0:=by rw [hrM,if_pos ⟨hinn,by omega⟩]
 rw [headFM_eq]
 obtain ⟨ans,out,outM,inn,innM,came,strs,snd,rm,wait,bad⟩:=e
 simp only at hsts hwn hinn hgood hsl hbad hhr
 subst hbad
 obtain ⟨n1,n2,n3,n4,n5,n6⟩:=h.nes
 have hv:S[p]?=some (.cells 0 (enC (.heap b strs.length) (.heap c wait.length) ⟨ans,out,outM,inn,innM,came,strs,snd,rm,wait,false⟩)):=h.var
 have hb:S[b]?=some (.cells 12 (strsC strs)):=h.at_.1
 have hc:S[c]?=some (.cells 4 (frmsC wait)):=h.at_.2
 have hlen:=strsC_len strs
 have hlw:=frmsC_len wait
 have hln:=last_none hsts (id:=f.stream)
 obtain ⟨fk,fl,fs,fb⟩:=f
 simp only at hfb hgood hln hhr hgrow ⊢
 have hhead:=fun S2=>HeadRead_ok inn innM fb (tableOk_b hinn) (by omega) S2
 rw [hhr] at hhead
 generalize hO:headR fb.length inn innM fb 0=O at hgood hhead ⊢
 have stayG:¬(ans=true∧(strs=[]∨(strs.getD (strs.length - 1) st0).id < fs))→growM ⟨ans,out,outM,inn,innM,came,strs,snd,rm,wait,false⟩ fs=⟨ans,out,outM,inn,innM,came,strs,snd,rm,wait,false⟩:=fun q=>by
  rw [growM,if_neg (fun q'=>q ⟨q'.2.1,q'.2.2⟩)]
 have growG:ans=true→(strs=[]∨(strs.getD (strs.length - 1) st0).id < fs)→growM ⟨ans,out,outM,inn,innM,came,strs,snd,rm,wait,false⟩ fs=⟨ans,out,outM,inn,innM,came,strs++[newSt fs],snd,rm,wait,false⟩:=fun q1 q2=>by
  rw [growM,if_pos ⟨hln q2,q1,q2⟩]
 have happ:strsC strs++[V.int .i64 (newSt fs).id,V.int .i64 (newSt fs).state,V.rows none (List.map fV (newSt fs).head),V.str (newSt fs).say,V.bool (newSt fs).begun,V.bool (newSt fs).said,V.int .i64 (newSt fs).sent,V.rows none (List.map fV (newSt fs).got),V.str (newSt fs).text,V.bool (newSt fs).heard,V.int .i64 (newSt fs).send,V.int .i64 (newSt fs).room]=strsC (strs++[newSt fs]):=by rw [strsC_app,strsC_one]; rfl
 refine VCall.ex hDe (fun _=>false) (fun id=>if id=2 then [21,21,21,21,21,21,21,21,21,21,21,21,21,21,21,21,21,21,21,21,21] else if id=3 then [12,9,9,9,9,7,7,8,9,12,12,12,13] else if id=4 then [12,12,12,12,12,12,1000000,12,12,15,15,1000000,15,15,15,11] else []) Tryz.func91 Tryz.ntmps91 Tryz.results91 ?_
 by_cases hgr:ans=true∧(strs=[]∨(strs.getD (strs.length - 1) st0).id < fs)
 ·obtain ⟨ha,hgr⟩:=hgr
  subst ha
  rw [growG rfl hgr] at hgrow ⊢
  have hag:=atM_app (hln hgr)
  simp only [hag]
  have hlp:((strs.length:Int)+1 - 1).toNat=strs.length:=by omega
  by_cases hz:strs=[]
  ·have hz':((strs.length:Int) - 1 < 0)=True:=eq_true (by rw [hz]; decide)
   simp -implicitDefEqProofs (disch:=omega) only [push_cast,simprocAttr,hv,hz',hb,hc,↓gd]
   repeat refine And.intro (by omega) ?_
   refine (newStream_ok fs _).to ?_
   simp -implicitDefEqProofs (disch:=omega) only [push_cast,simprocAttr,hv,hz',hb,hc,happ,↓gd]
   repeat refine And.intro (by omega) ?_
   have heg:=hgrow.b hN
   have hll:(strs++[newSt fs]).length=strs.length+1:=by simp
   have hkk:strs.length < (strs++[newSt fs]).length:=by simp
   have hap:atP (strs++[newSt fs]) (S.length+2) fs=.ptr (S.length+2) (strs.length * 12):=by rw [atP,hag]
   refine ((hhead _).as rfl).to ?_
   cases O with
   | none =>
    simp -implicitDefEqProofs (disch:=omega) only [push_cast,simprocAttr,hrV,hv,hb,hc,happ,↓gd]
    refine ⟨rfl,?_⟩
    refine ((stream_ok (e:=⟨true,out,outM,inn,innM,came,strs++[newSt fs],snd,rm,wait,false⟩) heg (p:=p) (b:=S.length+2) (c:=c) ⟨?_,?_,?_⟩ fs).as rfl).to ?_
    ·simp -implicitDefEqProofs (disch:=omega) only [push_cast,simprocAttr,happ,↓gd]
    ·simp -implicitDefEqProofs (disch:=omega) only [push_cast,simprocAttr,happ,↓gd]
    ·simp -implicitDefEqProofs (disch:=omega) only [push_cast,simprocAttr,hc,↓gd]
    simp -implicitDefEqProofs (disch:=omega) only [push_cast,simprocAttr,hap,↓gd]
    refine ⟨_,_,Wk.refl _ _ _,S.length+2,c,⟨true,out,outM,inn,innM,came,strs++[newSt fs],snd,rm,wait,false⟩,false,rfl,PtrTo.mk' (c:=c) (S.length+2) c ?_ ?_ ?_ (.inr (by omega)) (.inl rfl) (((((Upd.refl _ _).set _ (.inr (by simp))).set _ (.inr (by simp))).app _)),rfl⟩
    ·simp -implicitDefEqProofs (disch:=omega) only [push_cast,simprocAttr,happ,↓gd]
    ·simp -implicitDefEqProofs (disch:=omega) only [push_cast,simprocAttr,happ,↓gd]
    ·simp -implicitDefEqProofs (disch:=omega) only [push_cast,simprocAttr,hc,↓gd]
   | some th =>
    obtain ⟨t,hd⟩:=th
    obtain ⟨ht,hh⟩:=hgood t hd rfl
    simp -implicitDefEqProofs (disch:=omega) only [push_cast,simprocAttr,hrV,hv,hb,hc,happ,↓gd]
    refine ⟨rfl,?_⟩
    refine ((stream_ok (e:=⟨true,out,outM,inn,innM,came,strs++[newSt fs],snd,rm,wait,false⟩) heg (p:=p) (b:=S.length+2) (c:=c) ⟨?_,?_,?_⟩ fs).as rfl).to ?_
    ·simp -implicitDefEqProofs (disch:=omega) only [push_cast,simprocAttr,happ,↓gd]
    ·simp -implicitDefEqProofs (disch:=omega) only [push_cast,simprocAttr,happ,↓gd]
    ·simp -implicitDefEqProofs (disch:=omega) only [push_cast,simprocAttr,hc,↓gd]
    have g9:=strsC_get (l:=strs++[newSt fs]) hkk (c:=9) (by decide)
    have g7:=strsC_get (l:=strs++[newSt fs]) hkk (c:=7) (by decide)
    have hput:∀v s',strC s'=(strC ((strs++[newSt fs]).getD strs.length st0)).set 7 v→splice (strsC (strs++[newSt fs])) (strs.length * 12+7) [v]=strsC ((strs++[newSt fs]).set strs.length s'):=fun v s'=>strsC_put hkk (by decide)
    have hso:=stsOk_at hgrow.sts hkk
    have hlG:=strsC_len (strs++[newSt fs])
    have hm:∀s,(strs++[newSt fs]).getD strs.length st0=s→tookM ⟨true,out,outM,inn,innM,came,strs++[newSt fs],snd,rm,wait,false⟩ true fl (some (t,hd)) (some strs.length)=if s.heard=true∨s.got≠[]∨hd=[] then badM ⟨true,out,outM,inn,innM,came,strs++[newSt fs],snd,rm,wait,false⟩ else
      setSt { (⟨true,out,outM,inn,innM,came,strs++[newSt fs],snd,rm,wait,false⟩:En) with inn:=t } strs.length (if fl then doneM true { s with got:=hd } else { s with got:=hd }):=fun s hs=>by subst hs; rfl
    simp only at hso
    generalize hs:(strs++[newSt fs]).getD strs.length st0=s at g9 g7 hput hso
    rw [hm s hs]
    clear hm hs
    obtain ⟨a1,a2,a3,a4,a5,a6,a7,a8⟩:=stOk_iff.1 hso
    obtain ⟨sid,sst,shd,ssay,sbg,ssd,ssent,sgot,stx,shrd,ssnd,srm⟩:=s
    simp only at a6
    have hwl:=(wordOk_iff.1 a6).2
    have p7:=hput (.rows none (hd.map fV)) ⟨sid,sst,shd,ssay,sbg,ssd,ssent,hd,stx,shrd,ssnd,srm⟩ rfl
    by_cases h3:hd=[]
    ·have h3d:decide ((hd.length:Int)=0)=true:=by rw [h3]; rfl
     rw [if_pos (by simp [h3])]
     simp -implicitDefEqProofs (disch:=omega) only [push_cast,simprocAttr,hap,h3d,↓gd]
     refine ⟨_,_,Wk.refl _ _ _,S.length+2,c,⟨true,out,outM,inn,innM,came,strs++[newSt fs],snd,rm,wait,false⟩,false,rfl,PtrTo.mk' (c:=c) (S.length+2) c ?_ ?_ ?_ (.inr (by omega)) (.inl rfl) (((((Upd.refl _ _).set _ (.inr (by simp))).set _ (.inr (by simp))).app _)),rfl⟩
     ·simp -implicitDefEqProofs (disch:=omega) only [push_cast,simprocAttr,happ,↓gd]
     ·simp -implicitDefEqProofs (disch:=omega) only [push_cast,simprocAttr,happ,↓gd]
     ·simp -implicitDefEqProofs (disch:=omega) only [push_cast,simprocAttr,hc,↓gd]
    ·have h3':¬(hd.length:Int)=0:=by
      have:=List.length_pos_iff.2 h3
      omega
     by_cases h2:sgot=[]
     ·have h2d:decide ((sgot.length:Int) > 0)=false:=by rw [h2]; rfl
      cases shrd
      ·rw [if_neg (by simp [h2,h3])]
       cases fl
       ·simp -implicitDefEqProofs (disch:=omega) only [push_cast,simprocAttr,hap,h3',h2d,g7,g9,p7,hv,hb,hc,happ,↓gd]
        repeat refine And.intro (by omega) ?_
        refine ⟨_,_,Wk.refl _ _ _,S.length+2,c,{ (⟨true,out,outM,inn,innM,came,strs++[newSt fs],snd,rm,wait,false⟩:En) with inn:=t,strs:=(strs++[newSt fs]).set strs.length ⟨sid,sst,shd,ssay,sbg,ssd,ssent,hd,stx,false,ssnd,srm⟩ },true,rfl,PtrTo.mk' (c:=c) (S.length+2) c ?_ ?_ ?_ (.inr (by omega)) (.inl rfl) (((((Upd.refl _ _).set _ (.inr (by simp))).set _ (.inr (by simp))).app _)),rfl⟩
        ·simp -implicitDefEqProofs (disch:=omega) only [push_cast,simprocAttr,happ,↓gd]
        ·simp -implicitDefEqProofs (disch:=omega) only [push_cast,simprocAttr,happ,↓gd]
        ·simp -implicitDefEqProofs (disch:=omega) only [push_cast,simprocAttr,hc,↓gd]
       ·simp -implicitDefEqProofs (disch:=omega) only [push_cast,simprocAttr,hap,h3',h2d,g7,g9,p7,hv,hb,hc,happ,↓gd]
        repeat refine And.intro (by omega) ?_
        refine heard_then (b:=b) (c:=c) (e1:={ (⟨true,out,outM,inn,innM,came,strs++[newSt fs],snd,rm,wait,false⟩:En) with inn:=t,strs:=(strs++[newSt fs]).set strs.length ⟨sid,sst,shd,ssay,sbg,ssd,ssent,hd,stx,false,ssnd,srm⟩ }) (PtrTo.mk' (c:=c) (S.length+2) c ?_ ?_ ?_ (.inr (by omega)) (.inl rfl) (((((Upd.refl _ _).set _ (.inr (by simp))).set _ (.inr (by simp))).app _))) (by first | (simp; done) | simpa using hkk) ?_ ?_ ?_
        ·simp -implicitDefEqProofs (disch:=omega) only [push_cast,simprocAttr,happ,↓gd]
        ·simp -implicitDefEqProofs (disch:=omega) only [push_cast,simprocAttr,happ,↓gd]
        ·simp -implicitDefEqProofs (disch:=omega) only [push_cast,simprocAttr,hc,↓gd]
        ·simp only [stAt]; rw [getD_set st0 _ hkk,if_pos rfl]; exact hh
        ·simp only [stAt]; rw [getD_set st0 _ hkk,if_pos rfl]; show stx.length < 100; omega
        ·intro S2 hto2
         simp only [stAt,setSt] at hto2
         rw [getD_set st0 _ hkk,if_pos rfl,List.set_set] at hto2
         simp only [if_true,setSt]
         simp -implicitDefEqProofs (disch:=omega) only [push_cast,simprocAttr,↓gd]
         exact ⟨_,_,Wk.refl _ _ _,S.length+2,c,_,true,rfl,hto2,rfl⟩
      ·rw [if_pos (by simp)]
       simp -implicitDefEqProofs (disch:=omega) only [push_cast,simprocAttr,hap,h3',h2d,g7,g9,hv,hb,hc,happ,↓gd]
       repeat refine And.intro (by omega) ?_
       refine ⟨_,_,Wk.refl _ _ _,S.length+2,c,⟨true,out,outM,inn,innM,came,strs++[newSt fs],snd,rm,wait,false⟩,false,rfl,PtrTo.mk' (c:=c) (S.length+2) c ?_ ?_ ?_ (.inr (by omega)) (.inl rfl) (((((Upd.refl _ _).set _ (.inr (by simp))).set _ (.inr (by simp))).app _)),rfl⟩
       ·simp -implicitDefEqProofs (disch:=omega) only [push_cast,simprocAttr,happ,↓gd]
       ·simp -implicitDefEqProofs (disch:=omega) only [push_cast,simprocAttr,happ,↓gd]
       ·simp -implicitDefEqProofs (disch:=omega) only [push_cast,simprocAttr,hc,↓gd]
     ·have h2':(sgot.length:Int) > 0:=by
       have:=List.length_pos_iff.2 h2
       omega
      rw [if_pos (by simp [h2])]
      simp -implicitDefEqProofs (disch:=omega) only [push_cast,simprocAttr,hap,h3',h2',g7,hv,hb,hc,happ,↓gd]
      repeat refine And.intro (by omega) ?_
      refine ⟨_,_,Wk.refl _ _ _,S.length+2,c,⟨true,out,outM,inn,innM,came,strs++[newSt fs],snd,rm,wait,false⟩,false,rfl,PtrTo.mk' (c:=c) (S.length+2) c ?_ ?_ ?_ (.inr (by omega)) (.inl rfl) (((((Upd.refl _ _).set _ (.inr (by simp))).set _ (.inr (by simp))).app _)),rfl⟩
      ·simp -implicitDefEqProofs (disch:=omega) only [push_cast,simprocAttr,happ,↓gd]
      ·simp -implicitDefEqProofs (disch:=omega) only [push_cast,simprocAttr,happ,↓gd]
      ·simp -implicitDefEqProofs (disch:=omega) only [push_cast,simprocAttr,hc,↓gd]
  ·have hz':¬((strs.length:Int) - 1 < 0):=by
    have:=List.length_pos_iff.2 hz
    omega
   have hi1:((strs.length:Int) - 1).toNat=strs.length - 1:=by omega
   have glast:=strsC_id (l:=strs) (i:=strs.length - 1) (by have:=List.length_pos_iff.2 hz; omega)
   have hl:fs > (strs.getD (strs.length - 1) st0).id:=by rcases hgr with q | q; exact absurd q hz; exact q
   simp -implicitDefEqProofs (disch:=omega) only [push_cast,simprocAttr,hv,hz',hb,hc,hi1,glast,hl,↓gd]
   repeat refine And.intro (by omega) ?_
   refine (newStream_ok fs _).to ?_
   simp -implicitDefEqProofs (disch:=omega) only [push_cast,simprocAttr,hv,hz',hb,hc,happ,↓gd]
   repeat refine And.intro (by omega) ?_
   have heg:=hgrow.b hN
   have hll:(strs++[newSt fs]).length=strs.length+1:=by simp
   have hkk:strs.length < (strs++[newSt fs]).length:=by simp
   have hap:atP (strs++[newSt fs]) (S.length+2) fs=.ptr (S.length+2) (strs.length * 12):=by rw [atP,hag]
   refine ((hhead _).as rfl).to ?_
   cases O with
   | none =>
    simp -implicitDefEqProofs (disch:=omega) only [push_cast,simprocAttr,hrV,hv,hb,hc,happ,↓gd]
    refine ⟨rfl,?_⟩
    refine ((stream_ok (e:=⟨true,out,outM,inn,innM,came,strs++[newSt fs],snd,rm,wait,false⟩) heg (p:=p) (b:=S.length+2) (c:=c) ⟨?_,?_,?_⟩ fs).as rfl).to ?_
    ·simp -implicitDefEqProofs (disch:=omega) only [push_cast,simprocAttr,happ,↓gd]
    ·simp -implicitDefEqProofs (disch:=omega) only [push_cast,simprocAttr,happ,↓gd]
    ·simp -implicitDefEqProofs (disch:=omega) only [push_cast,simprocAttr,hc,↓gd]
    simp -implicitDefEqProofs (disch:=omega) only [push_cast,simprocAttr,hap,↓gd]
    refine ⟨_,_,Wk.refl _ _ _,S.length+2,c,⟨true,out,outM,inn,innM,came,strs++[newSt fs],snd,rm,wait,false⟩,false,rfl,PtrTo.mk' (c:=c) (S.length+2) c ?_ ?_ ?_ (.inr (by omega)) (.inl rfl) (((((Upd.refl _ _).set _ (.inr (by simp))).set _ (.inr (by simp))).app _)),rfl⟩
    ·simp -implicitDefEqProofs (disch:=omega) only [push_cast,simprocAttr,happ,↓gd]
    ·simp -implicitDefEqProofs (disch:=omega) only [push_cast,simprocAttr,happ,↓gd]
    ·simp -implicitDefEqProofs (disch:=omega) only [push_cast,simprocAttr,hc,↓gd]
   | some th =>
    obtain ⟨t,hd⟩:=th
    obtain ⟨ht,hh⟩:=hgood t hd rfl
    simp -implicitDefEqProofs (disch:=omega) only [push_cast,simprocAttr,hrV,hv,hb,hc,happ,↓gd]
    refine ⟨rfl,?_⟩
    refine ((stream_ok (e:=⟨true,out,outM,inn,innM,came,strs++[newSt fs],snd,rm,wait,false⟩) heg (p:=p) (b:=S.length+2) (c:=c) ⟨?_,?_,?_⟩ fs).as rfl).to ?_
    ·simp -implicitDefEqProofs (disch:=omega) only [push_cast,simprocAttr,happ,↓gd]
    ·simp -implicitDefEqProofs (disch:=omega) only [push_cast,simprocAttr,happ,↓gd]
    ·simp -implicitDefEqProofs (disch:=omega) only [push_cast,simprocAttr,hc,↓gd]
    have g9:=strsC_get (l:=strs++[newSt fs]) hkk (c:=9) (by decide)
    have g7:=strsC_get (l:=strs++[newSt fs]) hkk (c:=7) (by decide)
    have hput:∀v s',strC s'=(strC ((strs++[newSt fs]).getD strs.length st0)).set 7 v→splice (strsC (strs++[newSt fs])) (strs.length * 12+7) [v]=strsC ((strs++[newSt fs]).set strs.length s'):=fun v s'=>strsC_put hkk (by decide)
    have hso:=stsOk_at hgrow.sts hkk
    have hlG:=strsC_len (strs++[newSt fs])
    have hm:∀s,(strs++[newSt fs]).getD strs.length st0=s→tookM ⟨true,out,outM,inn,innM,came,strs++[newSt fs],snd,rm,wait,false⟩ true fl (some (t,hd)) (some strs.length)=if s.heard=true∨s.got≠[]∨hd=[] then badM ⟨true,out,outM,inn,innM,came,strs++[newSt fs],snd,rm,wait,false⟩ else
      setSt { (⟨true,out,outM,inn,innM,came,strs++[newSt fs],snd,rm,wait,false⟩:En) with inn:=t } strs.length (if fl then doneM true { s with got:=hd } else { s with got:=hd }):=fun s hs=>by subst hs; rfl
    simp only at hso
    generalize hs:(strs++[newSt fs]).getD strs.length st0=s at g9 g7 hput hso
    rw [hm s hs]
    clear hm hs
    obtain ⟨a1,a2,a3,a4,a5,a6,a7,a8⟩:=stOk_iff.1 hso
    obtain ⟨sid,sst,shd,ssay,sbg,ssd,ssent,sgot,stx,shrd,ssnd,srm⟩:=s
    simp only at a6
    have hwl:=(wordOk_iff.1 a6).2
    have p7:=hput (.rows none (hd.map fV)) ⟨sid,sst,shd,ssay,sbg,ssd,ssent,hd,stx,shrd,ssnd,srm⟩ rfl
    by_cases h3:hd=[]
    ·have h3d:decide ((hd.length:Int)=0)=true:=by rw [h3]; rfl
     rw [if_pos (by simp [h3])]
     simp -implicitDefEqProofs (disch:=omega) only [push_cast,simprocAttr,hap,h3d,↓gd]
     refine ⟨_,_,Wk.refl _ _ _,S.length+2,c,⟨true,out,outM,inn,innM,came,strs++[newSt fs],snd,rm,wait,false⟩,false,rfl,PtrTo.mk' (c:=c) (S.length+2) c ?_ ?_ ?_ (.inr (by omega)) (.inl rfl) (((((Upd.refl _ _).set _ (.inr (by simp))).set _ (.inr (by simp))).app _)),rfl⟩
     ·simp -implicitDefEqProofs (disch:=omega) only [push_cast,simprocAttr,happ,↓gd]
     ·simp -implicitDefEqProofs (disch:=omega) only [push_cast,simprocAttr,happ,↓gd]
     ·simp -implicitDefEqProofs (disch:=omega) only [push_cast,simprocAttr,hc,↓gd]
    ·have h3':¬(hd.length:Int)=0:=by
      have:=List.length_pos_iff.2 h3
      omega
     by_cases h2:sgot=[]
     ·have h2d:decide ((sgot.length:Int) > 0)=false:=by rw [h2]; rfl
      cases shrd
      ·rw [if_neg (by simp [h2,h3])]
       cases fl
       ·simp -implicitDefEqProofs (disch:=omega) only [push_cast,simprocAttr,hap,h3',h2d,g7,g9,p7,hv,hb,hc,happ,↓gd]
        repeat refine And.intro (by omega) ?_
        refine ⟨_,_,Wk.refl _ _ _,S.length+2,c,{ (⟨true,out,outM,inn,innM,came,strs++[newSt fs],snd,rm,wait,false⟩:En) with inn:=t,strs:=(strs++[newSt fs]).set strs.length ⟨sid,sst,shd,ssay,sbg,ssd,ssent,hd,stx,false,ssnd,srm⟩ },true,rfl,PtrTo.mk' (c:=c) (S.length+2) c ?_ ?_ ?_ (.inr (by omega)) (.inl rfl) (((((Upd.refl _ _).set _ (.inr (by simp))).set _ (.inr (by simp))).app _)),rfl⟩
        ·simp -implicitDefEqProofs (disch:=omega) only [push_cast,simprocAttr,happ,↓gd]
        ·simp -implicitDefEqProofs (disch:=omega) only [push_cast,simprocAttr,happ,↓gd]
        ·simp -implicitDefEqProofs (disch:=omega) only [push_cast,simprocAttr,hc,↓gd]
       ·simp -implicitDefEqProofs (disch:=omega) only [push_cast,simprocAttr,hap,h3',h2d,g7,g9,p7,hv,hb,hc,happ,↓gd]
        repeat refine And.intro (by omega) ?_
        refine heard_then (b:=b) (c:=c) (e1:={ (⟨true,out,outM,inn,innM,came,strs++[newSt fs],snd,rm,wait,false⟩:En) with inn:=t,strs:=(strs++[newSt fs]).set strs.length ⟨sid,sst,shd,ssay,sbg,ssd,ssent,hd,stx,false,ssnd,srm⟩ }) (PtrTo.mk' (c:=c) (S.length+2) c ?_ ?_ ?_ (.inr (by omega)) (.inl rfl) (((((Upd.refl _ _).set _ (.inr (by simp))).set _ (.inr (by simp))).app _))) (by first | (simp; done) | simpa using hkk) ?_ ?_ ?_
        ·simp -implicitDefEqProofs (disch:=omega) only [push_cast,simprocAttr,happ,↓gd]
        ·simp -implicitDefEqProofs (disch:=omega) only [push_cast,simprocAttr,happ,↓gd]
        ·simp -implicitDefEqProofs (disch:=omega) only [push_cast,simprocAttr,hc,↓gd]
        ·simp only [stAt]; rw [getD_set st0 _ hkk,if_pos rfl]; exact hh
        ·simp only [stAt]; rw [getD_set st0 _ hkk,if_pos rfl]; show stx.length < 100; omega
        ·intro S2 hto2
         simp only [stAt,setSt] at hto2
         rw [getD_set st0 _ hkk,if_pos rfl,List.set_set] at hto2
         simp only [if_true,setSt]
         simp -implicitDefEqProofs (disch:=omega) only [push_cast,simprocAttr,↓gd]
         exact ⟨_,_,Wk.refl _ _ _,S.length+2,c,_,true,rfl,hto2,rfl⟩
      ·rw [if_pos (by simp)]
       simp -implicitDefEqProofs (disch:=omega) only [push_cast,simprocAttr,hap,h3',h2d,g7,g9,hv,hb,hc,happ,↓gd]
       repeat refine And.intro (by omega) ?_
       refine ⟨_,_,Wk.refl _ _ _,S.length+2,c,⟨true,out,outM,inn,innM,came,strs++[newSt fs],snd,rm,wait,false⟩,false,rfl,PtrTo.mk' (c:=c) (S.length+2) c ?_ ?_ ?_ (.inr (by omega)) (.inl rfl) (((((Upd.refl _ _).set _ (.inr (by simp))).set _ (.inr (by simp))).app _)),rfl⟩
       ·simp -implicitDefEqProofs (disch:=omega) only [push_cast,simprocAttr,happ,↓gd]
       ·simp -implicitDefEqProofs (disch:=omega) only [push_cast,simprocAttr,happ,↓gd]
       ·simp -implicitDefEqProofs (disch:=omega) only [push_cast,simprocAttr,hc,↓gd]
     ·have h2':(sgot.length:Int) > 0:=by
       have:=List.length_pos_iff.2 h2
       omega
      rw [if_pos (by simp [h2])]
      simp -implicitDefEqProofs (disch:=omega) only [push_cast,simprocAttr,hap,h3',h2',g7,hv,hb,hc,happ,↓gd]
      repeat refine And.intro (by omega) ?_
      refine ⟨_,_,Wk.refl _ _ _,S.length+2,c,⟨true,out,outM,inn,innM,came,strs++[newSt fs],snd,rm,wait,false⟩,false,rfl,PtrTo.mk' (c:=c) (S.length+2) c ?_ ?_ ?_ (.inr (by omega)) (.inl rfl) (((((Upd.refl _ _).set _ (.inr (by simp))).set _ (.inr (by simp))).app _)),rfl⟩
      ·simp -implicitDefEqProofs (disch:=omega) only [push_cast,simprocAttr,happ,↓gd]
      ·simp -implicitDefEqProofs (disch:=omega) only [push_cast,simprocAttr,happ,↓gd]
      ·simp -implicitDefEqProofs (disch:=omega) only [push_cast,simprocAttr,hc,↓gd]
 ·rw [stayG hgr] at hgrow ⊢
  have heg:=hgrow.b hN
  rcases Bool.eq_false_or_eq_true ans with ha' | ha'
  ·subst ha'
   have hz:strs≠[]:=fun q=>hgr ⟨rfl,.inl q⟩
   have hz':¬((strs.length:Int) - 1 < 0):=by
    have:=List.length_pos_iff.2 hz
    omega
   have hi1:((strs.length:Int) - 1).toNat=strs.length - 1:=by omega
   have glast:=strsC_id (l:=strs) (i:=strs.length - 1) (by have:=List.length_pos_iff.2 hz; omega)
   have hl:¬fs > (strs.getD (strs.length - 1) st0).id:=fun q=>hgr ⟨rfl,.inr q⟩
   simp -implicitDefEqProofs (disch:=omega) only [push_cast,simprocAttr,hv,hb,hc,hz',hi1,glast,hl,↓gd]
   repeat refine And.intro (by omega) ?_
   refine ((hhead _).as rfl).to ?_
   cases ha:atM strs fs with
   | none =>
    have hap:atP strs b fs=.nilp:=by rw [atP,ha]
    have hmN:∀o,tookM ⟨true,out,outM,inn,innM,came,strs,snd,rm,wait,false⟩ true fl o none=badM ⟨true,out,outM,inn,innM,came,strs,snd,rm,wait,false⟩:=fun o=>by cases o <;> rfl
    rw [hmN]
    cases O with
    | none =>
     simp -implicitDefEqProofs (disch:=omega) only [push_cast,simprocAttr,hrV,hv,hb,hc,↓gd]
     refine ⟨rfl,?_⟩
     refine ((stream_ok (e:=⟨true,out,outM,inn,innM,came,strs,snd,rm,wait,false⟩) heg (p:=p) (b:=b) (c:=c) ⟨?_,?_,?_⟩ fs).as rfl).to ?_
     ·simp -implicitDefEqProofs (disch:=omega) only [push_cast,simprocAttr,hv,↓gd]
     ·simp -implicitDefEqProofs (disch:=omega) only [push_cast,simprocAttr,hb,↓gd]
     ·simp -implicitDefEqProofs (disch:=omega) only [push_cast,simprocAttr,hc,↓gd]
     simp -implicitDefEqProofs (disch:=omega) only [push_cast,simprocAttr,hap,↓gd]
     refine ⟨_,_,Wk.refl _ _ _,b,c,⟨true,out,outM,inn,innM,came,strs,snd,rm,wait,false⟩,false,rfl,PtrTo.mk' (c:=c) b c ?_ ?_ ?_ (.inl rfl) (.inl rfl) ((Upd.refl _ _).app _),rfl⟩
     ·simp -implicitDefEqProofs (disch:=omega) only [push_cast,simprocAttr,hv,↓gd]
     ·simp -implicitDefEqProofs (disch:=omega) only [push_cast,simprocAttr,hb,↓gd]
     ·simp -implicitDefEqProofs (disch:=omega) only [push_cast,simprocAttr,hc,↓gd]
    | some th =>
     obtain ⟨t,hd⟩:=th
     simp -implicitDefEqProofs (disch:=omega) only [push_cast,simprocAttr,hrV,hv,hb,hc,↓gd]
     refine ⟨rfl,?_⟩
     refine ((stream_ok (e:=⟨true,out,outM,inn,innM,came,strs,snd,rm,wait,false⟩) heg (p:=p) (b:=b) (c:=c) ⟨?_,?_,?_⟩ fs).as rfl).to ?_
     ·simp -implicitDefEqProofs (disch:=omega) only [push_cast,simprocAttr,hv,↓gd]
     ·simp -implicitDefEqProofs (disch:=omega) only [push_cast,simprocAttr,hb,↓gd]
     ·simp -implicitDefEqProofs (disch:=omega) only [push_cast,simprocAttr,hc,↓gd]
     by_cases h3:hd=[]
     ·have h3d:decide ((hd.length:Int)=0)=true:=by rw [h3]; rfl
      simp -implicitDefEqProofs (disch:=omega) only [push_cast,simprocAttr,hap,h3d,↓gd]
      refine ⟨_,_,Wk.refl _ _ _,b,c,⟨true,out,outM,inn,innM,came,strs,snd,rm,wait,false⟩,false,rfl,PtrTo.mk' (c:=c) b c ?_ ?_ ?_ (.inl rfl) (.inl rfl) ((Upd.refl _ _).app _),rfl⟩
      ·simp -implicitDefEqProofs (disch:=omega) only [push_cast,simprocAttr,hv,↓gd]
      ·simp -implicitDefEqProofs (disch:=omega) only [push_cast,simprocAttr,hb,↓gd]
      ·simp -implicitDefEqProofs (disch:=omega) only [push_cast,simprocAttr,hc,↓gd]
     ·have h3':¬(hd.length:Int)=0:=by
       have:=List.length_pos_iff.2 h3
       omega
      simp -implicitDefEqProofs (disch:=omega) only [push_cast,simprocAttr,hap,h3',↓gd]
      refine ⟨_,_,Wk.refl _ _ _,b,c,⟨true,out,outM,inn,innM,came,strs,snd,rm,wait,false⟩,false,rfl,PtrTo.mk' (c:=c) b c ?_ ?_ ?_ (.inl rfl) (.inl rfl) ((Upd.refl _ _).app _),rfl⟩
      ·simp -implicitDefEqProofs (disch:=omega) only [push_cast,simprocAttr,hv,↓gd]
      ·simp -implicitDefEqProofs (disch:=omega) only [push_cast,simprocAttr,hb,↓gd]
      ·simp -implicitDefEqProofs (disch:=omega) only [push_cast,simprocAttr,hc,↓gd]
   | some k =>
    obtain ⟨hk,hid⟩:=atM_some ha
    have hap:atP strs b fs=.ptr b (k * 12):=by rw [atP,ha]
    cases O with
    | none =>
     simp -implicitDefEqProofs (disch:=omega) only [push_cast,simprocAttr,hrV,hv,hb,hc,↓gd]
     refine ⟨rfl,?_⟩
     refine ((stream_ok (e:=⟨true,out,outM,inn,innM,came,strs,snd,rm,wait,false⟩) heg (p:=p) (b:=b) (c:=c) ⟨?_,?_,?_⟩ fs).as rfl).to ?_
     ·simp -implicitDefEqProofs (disch:=omega) only [push_cast,simprocAttr,hv,↓gd]
     ·simp -implicitDefEqProofs (disch:=omega) only [push_cast,simprocAttr,hb,↓gd]
     ·simp -implicitDefEqProofs (disch:=omega) only [push_cast,simprocAttr,hc,↓gd]
     simp -implicitDefEqProofs (disch:=omega) only [push_cast,simprocAttr,hap,↓gd]
     refine ⟨_,_,Wk.refl _ _ _,b,c,⟨true,out,outM,inn,innM,came,strs,snd,rm,wait,false⟩,false,rfl,PtrTo.mk' (c:=c) b c ?_ ?_ ?_ (.inl rfl) (.inl rfl) (((Upd.refl _ _).app _)),rfl⟩
     ·simp -implicitDefEqProofs (disch:=omega) only [push_cast,simprocAttr,hv,↓gd]
     ·simp -implicitDefEqProofs (disch:=omega) only [push_cast,simprocAttr,hb,↓gd]
     ·simp -implicitDefEqProofs (disch:=omega) only [push_cast,simprocAttr,hc,↓gd]
    | some th =>
     obtain ⟨t,hd⟩:=th
     obtain ⟨ht,hh⟩:=hgood t hd rfl
     simp -implicitDefEqProofs (disch:=omega) only [push_cast,simprocAttr,hrV,hv,hb,hc,↓gd]
     refine ⟨rfl,?_⟩
     refine ((stream_ok (e:=⟨true,out,outM,inn,innM,came,strs,snd,rm,wait,false⟩) heg (p:=p) (b:=b) (c:=c) ⟨?_,?_,?_⟩ fs).as rfl).to ?_
     ·simp -implicitDefEqProofs (disch:=omega) only [push_cast,simprocAttr,hv,↓gd]
     ·simp -implicitDefEqProofs (disch:=omega) only [push_cast,simprocAttr,hb,↓gd]
     ·simp -implicitDefEqProofs (disch:=omega) only [push_cast,simprocAttr,hc,↓gd]
     have g9:=strsC_get (l:=strs) hk (c:=9) (by decide)
     have g7:=strsC_get (l:=strs) hk (c:=7) (by decide)
     have hput:∀v s',strC s'=(strC ((strs).getD k st0)).set 7 v→splice (strsC (strs)) (k * 12+7) [v]=strsC ((strs).set k s'):=fun v s'=>strsC_put hk (by decide)
     have hso:=stsOk_at hgrow.sts hk
     have hlG:=strsC_len (strs)
     have hm:∀s,(strs).getD k st0=s→tookM ⟨true,out,outM,inn,innM,came,strs,snd,rm,wait,false⟩ true fl (some (t,hd)) (some k)=if s.heard=true∨s.got≠[]∨hd=[] then badM ⟨true,out,outM,inn,innM,came,strs,snd,rm,wait,false⟩ else
       setSt { (⟨true,out,outM,inn,innM,came,strs,snd,rm,wait,false⟩:En) with inn:=t } k (if fl then doneM true { s with got:=hd } else { s with got:=hd }):=fun s hs=>by subst hs; rfl
     simp only at hso
     generalize hs:(strs).getD k st0=s at g9 g7 hput hso
     rw [hm s hs]
     clear hm hs
     obtain ⟨a1,a2,a3,a4,a5,a6,a7,a8⟩:=stOk_iff.1 hso
     obtain ⟨sid,sst,shd,ssay,sbg,ssd,ssent,sgot,stx,shrd,ssnd,srm⟩:=s
     simp only at a6
     have hwl:=(wordOk_iff.1 a6).2
     have p7:=hput (.rows none (hd.map fV)) ⟨sid,sst,shd,ssay,sbg,ssd,ssent,hd,stx,shrd,ssnd,srm⟩ rfl
     by_cases h3:hd=[]
     ·have h3d:decide ((hd.length:Int)=0)=true:=by rw [h3]; rfl
      rw [if_pos (by simp [h3])]
      simp -implicitDefEqProofs (disch:=omega) only [push_cast,simprocAttr,hap,h3d,↓gd]
      refine ⟨_,_,Wk.refl _ _ _,b,c,⟨true,out,outM,inn,innM,came,strs,snd,rm,wait,false⟩,false,rfl,PtrTo.mk' (c:=c) b c ?_ ?_ ?_ (.inl rfl) (.inl rfl) (((Upd.refl _ _).app _)),rfl⟩
      ·simp -implicitDefEqProofs (disch:=omega) only [push_cast,simprocAttr,hv,↓gd]
      ·simp -implicitDefEqProofs (disch:=omega) only [push_cast,simprocAttr,hb,↓gd]
      ·simp -implicitDefEqProofs (disch:=omega) only [push_cast,simprocAttr,hc,↓gd]
     ·have h3':¬(hd.length:Int)=0:=by
       have:=List.length_pos_iff.2 h3
       omega
      by_cases h2:sgot=[]
      ·have h2d:decide ((sgot.length:Int) > 0)=false:=by rw [h2]; rfl
       cases shrd
       ·rw [if_neg (by simp [h2,h3])]
        cases fl
        ·simp -implicitDefEqProofs (disch:=omega) only [push_cast,simprocAttr,hap,h3',h2d,g7,g9,p7,hv,hb,hc,↓gd]
         repeat refine And.intro (by omega) ?_
         refine ⟨_,_,Wk.refl _ _ _,b,c,{ (⟨true,out,outM,inn,innM,came,strs,snd,rm,wait,false⟩:En) with inn:=t,strs:=(strs).set k ⟨sid,sst,shd,ssay,sbg,ssd,ssent,hd,stx,false,ssnd,srm⟩ },true,rfl,PtrTo.mk' (c:=c) b c ?_ ?_ ?_ (.inl rfl) (.inl rfl) (((((Upd.refl _ _).set _ (.inr (by simp))).set _ (.inr (by simp))).app _)),rfl⟩
         ·simp -implicitDefEqProofs (disch:=omega) only [push_cast,simprocAttr,hv,↓gd]
         ·simp -implicitDefEqProofs (disch:=omega) only [push_cast,simprocAttr,hb,↓gd]
         ·simp -implicitDefEqProofs (disch:=omega) only [push_cast,simprocAttr,hc,↓gd]
        ·simp -implicitDefEqProofs (disch:=omega) only [push_cast,simprocAttr,hap,h3',h2d,g7,g9,p7,hv,hb,hc,↓gd]
         repeat refine And.intro (by omega) ?_
         refine heard_then (b:=b) (c:=c) (e1:={ (⟨true,out,outM,inn,innM,came,strs,snd,rm,wait,false⟩:En) with inn:=t,strs:=(strs).set k ⟨sid,sst,shd,ssay,sbg,ssd,ssent,hd,stx,false,ssnd,srm⟩ }) (PtrTo.mk' (c:=c) b c ?_ ?_ ?_ (.inl rfl) (.inl rfl) (((((Upd.refl _ _).set _ (.inr (by simp))).set _ (.inr (by simp))).app _))) (by simpa using hk) ?_ ?_ ?_
         ·simp -implicitDefEqProofs (disch:=omega) only [push_cast,simprocAttr,hv,↓gd]
         ·simp -implicitDefEqProofs (disch:=omega) only [push_cast,simprocAttr,hb,↓gd]
         ·simp -implicitDefEqProofs (disch:=omega) only [push_cast,simprocAttr,hc,↓gd]
         ·simp only [stAt]; rw [getD_set st0 _ hk,if_pos rfl]; exact hh
         ·simp only [stAt]; rw [getD_set st0 _ hk,if_pos rfl]; show stx.length < 100; omega
         ·intro S2 hto2
          simp only [stAt,setSt] at hto2
          rw [getD_set st0 _ hk,if_pos rfl,List.set_set] at hto2
          simp only [if_true,setSt]
          simp -implicitDefEqProofs (disch:=omega) only [push_cast,simprocAttr,↓gd]
          exact ⟨_,_,Wk.refl _ _ _,b,c,_,true,rfl,hto2,rfl⟩
       ·rw [if_pos (by simp)]
        simp -implicitDefEqProofs (disch:=omega) only [push_cast,simprocAttr,hap,h3',h2d,g7,g9,hv,hb,hc,↓gd]
        repeat refine And.intro (by omega) ?_
        refine ⟨_,_,Wk.refl _ _ _,b,c,⟨true,out,outM,inn,innM,came,strs,snd,rm,wait,false⟩,false,rfl,PtrTo.mk' (c:=c) b c ?_ ?_ ?_ (.inl rfl) (.inl rfl) (((Upd.refl _ _).app _)),rfl⟩
        ·simp -implicitDefEqProofs (disch:=omega) only [push_cast,simprocAttr,hv,↓gd]
        ·simp -implicitDefEqProofs (disch:=omega) only [push_cast,simprocAttr,hb,↓gd]
        ·simp -implicitDefEqProofs (disch:=omega) only [push_cast,simprocAttr,hc,↓gd]
      ·have h2':(sgot.length:Int) > 0:=by
        have:=List.length_pos_iff.2 h2
        omega
       rw [if_pos (by simp [h2])]
       simp -implicitDefEqProofs (disch:=omega) only [push_cast,simprocAttr,hap,h3',h2',g7,hv,hb,hc,↓gd]
       repeat refine And.intro (by omega) ?_
       refine ⟨_,_,Wk.refl _ _ _,b,c,⟨true,out,outM,inn,innM,came,strs,snd,rm,wait,false⟩,false,rfl,PtrTo.mk' (c:=c) b c ?_ ?_ ?_ (.inl rfl) (.inl rfl) (((Upd.refl _ _).app _)),rfl⟩
       ·simp -implicitDefEqProofs (disch:=omega) only [push_cast,simprocAttr,hv,↓gd]
       ·simp -implicitDefEqProofs (disch:=omega) only [push_cast,simprocAttr,hb,↓gd]
       ·simp -implicitDefEqProofs (disch:=omega) only [push_cast,simprocAttr,hc,↓gd]
  ·subst ha'
   simp -implicitDefEqProofs (disch:=omega) only [push_cast,simprocAttr,hv,hb,hc,List.length_cons,↓gd]
   repeat refine And.intro (by omega) ?_
   refine ((hhead _).as rfl).to ?_
   cases ha:atM strs fs with
   | none =>
    have hap:atP strs b fs=.nilp:=by rw [atP,ha]
    have hmN:∀o,tookM ⟨false,out,outM,inn,innM,came,strs,snd,rm,wait,false⟩ false fl o none=badM ⟨false,out,outM,inn,innM,came,strs,snd,rm,wait,false⟩:=fun o=>by cases o <;> rfl
    rw [hmN]
    cases O with
    | none =>
     simp -implicitDefEqProofs (disch:=omega) only [push_cast,simprocAttr,hrV,hv,hb,hc,↓gd]
     refine ⟨rfl,?_⟩
     refine ((stream_ok (e:=⟨false,out,outM,inn,innM,came,strs,snd,rm,wait,false⟩) heg (p:=p) (b:=b) (c:=c) ⟨?_,?_,?_⟩ fs).as rfl).to ?_
     ·simp -implicitDefEqProofs (disch:=omega) only [push_cast,simprocAttr,hv,↓gd]
     ·simp -implicitDefEqProofs (disch:=omega) only [push_cast,simprocAttr,hb,↓gd]
     ·simp -implicitDefEqProofs (disch:=omega) only [push_cast,simprocAttr,hc,↓gd]
     simp -implicitDefEqProofs (disch:=omega) only [push_cast,simprocAttr,hap,↓gd]
     refine ⟨_,_,Wk.refl _ _ _,b,c,⟨false,out,outM,inn,innM,came,strs,snd,rm,wait,false⟩,false,rfl,PtrTo.mk' (c:=c) b c ?_ ?_ ?_ (.inl rfl) (.inl rfl) ((Upd.refl _ _).app _),rfl⟩
     ·simp -implicitDefEqProofs (disch:=omega) only [push_cast,simprocAttr,hv,↓gd]
     ·simp -implicitDefEqProofs (disch:=omega) only [push_cast,simprocAttr,hb,↓gd]
     ·simp -implicitDefEqProofs (disch:=omega) only [push_cast,simprocAttr,hc,↓gd]
    | some th =>
     obtain ⟨t,hd⟩:=th
     simp -implicitDefEqProofs (disch:=omega) only [push_cast,simprocAttr,hrV,hv,hb,hc,↓gd]
     refine ⟨rfl,?_⟩
     refine ((stream_ok (e:=⟨false,out,outM,inn,innM,came,strs,snd,rm,wait,false⟩) heg (p:=p) (b:=b) (c:=c) ⟨?_,?_,?_⟩ fs).as rfl).to ?_
     ·simp -implicitDefEqProofs (disch:=omega) only [push_cast,simprocAttr,hv,↓gd]
     ·simp -implicitDefEqProofs (disch:=omega) only [push_cast,simprocAttr,hb,↓gd]
     ·simp -implicitDefEqProofs (disch:=omega) only [push_cast,simprocAttr,hc,↓gd]
     by_cases h3:hd=[]
     ·have h3d:decide ((hd.length:Int)=0)=true:=by rw [h3]; rfl
      simp -implicitDefEqProofs (disch:=omega) only [push_cast,simprocAttr,hap,h3d,↓gd]
      refine ⟨_,_,Wk.refl _ _ _,b,c,⟨false,out,outM,inn,innM,came,strs,snd,rm,wait,false⟩,false,rfl,PtrTo.mk' (c:=c) b c ?_ ?_ ?_ (.inl rfl) (.inl rfl) ((Upd.refl _ _).app _),rfl⟩
      ·simp -implicitDefEqProofs (disch:=omega) only [push_cast,simprocAttr,hv,↓gd]
      ·simp -implicitDefEqProofs (disch:=omega) only [push_cast,simprocAttr,hb,↓gd]
      ·simp -implicitDefEqProofs (disch:=omega) only [push_cast,simprocAttr,hc,↓gd]
     ·have h3':¬(hd.length:Int)=0:=by
       have:=List.length_pos_iff.2 h3
       omega
      simp -implicitDefEqProofs (disch:=omega) only [push_cast,simprocAttr,hap,h3',↓gd]
      refine ⟨_,_,Wk.refl _ _ _,b,c,⟨false,out,outM,inn,innM,came,strs,snd,rm,wait,false⟩,false,rfl,PtrTo.mk' (c:=c) b c ?_ ?_ ?_ (.inl rfl) (.inl rfl) ((Upd.refl _ _).app _),rfl⟩
      ·simp -implicitDefEqProofs (disch:=omega) only [push_cast,simprocAttr,hv,↓gd]
      ·simp -implicitDefEqProofs (disch:=omega) only [push_cast,simprocAttr,hb,↓gd]
      ·simp -implicitDefEqProofs (disch:=omega) only [push_cast,simprocAttr,hc,↓gd]
   | some k =>
    obtain ⟨hk,hid⟩:=atM_some ha
    have hap:atP strs b fs=.ptr b (k * 12):=by rw [atP,ha]
    cases O with
    | none =>
     simp -implicitDefEqProofs (disch:=omega) only [push_cast,simprocAttr,hrV,hv,hb,hc,↓gd]
     refine ⟨rfl,?_⟩
     refine ((stream_ok (e:=⟨false,out,outM,inn,innM,came,strs,snd,rm,wait,false⟩) heg (p:=p) (b:=b) (c:=c) ⟨?_,?_,?_⟩ fs).as rfl).to ?_
     ·simp -implicitDefEqProofs (disch:=omega) only [push_cast,simprocAttr,hv,↓gd]
     ·simp -implicitDefEqProofs (disch:=omega) only [push_cast,simprocAttr,hb,↓gd]
     ·simp -implicitDefEqProofs (disch:=omega) only [push_cast,simprocAttr,hc,↓gd]
     simp -implicitDefEqProofs (disch:=omega) only [push_cast,simprocAttr,hap,↓gd]
     refine ⟨_,_,Wk.refl _ _ _,b,c,⟨false,out,outM,inn,innM,came,strs,snd,rm,wait,false⟩,false,rfl,PtrTo.mk' (c:=c) b c ?_ ?_ ?_ (.inl rfl) (.inl rfl) (((Upd.refl _ _).app _)),rfl⟩
     ·simp -implicitDefEqProofs (disch:=omega) only [push_cast,simprocAttr,hv,↓gd]
     ·simp -implicitDefEqProofs (disch:=omega) only [push_cast,simprocAttr,hb,↓gd]
     ·simp -implicitDefEqProofs (disch:=omega) only [push_cast,simprocAttr,hc,↓gd]
    | some th =>
     obtain ⟨t,hd⟩:=th
     obtain ⟨ht,hh⟩:=hgood t hd rfl
     simp -implicitDefEqProofs (disch:=omega) only [push_cast,simprocAttr,hrV,hv,hb,hc,↓gd]
     refine ⟨rfl,?_⟩
     refine ((stream_ok (e:=⟨false,out,outM,inn,innM,came,strs,snd,rm,wait,false⟩) heg (p:=p) (b:=b) (c:=c) ⟨?_,?_,?_⟩ fs).as rfl).to ?_
     ·simp -implicitDefEqProofs (disch:=omega) only [push_cast,simprocAttr,hv,↓gd]
     ·simp -implicitDefEqProofs (disch:=omega) only [push_cast,simprocAttr,hb,↓gd]
     ·simp -implicitDefEqProofs (disch:=omega) only [push_cast,simprocAttr,hc,↓gd]
     have g9:=strsC_get (l:=strs) hk (c:=9) (by decide)
     have g7:=strsC_get (l:=strs) hk (c:=7) (by decide)
     have hput:∀v s',strC s'=(strC ((strs).getD k st0)).set 7 v→splice (strsC (strs)) (k * 12+7) [v]=strsC ((strs).set k s'):=fun v s'=>strsC_put hk (by decide)
     have hso:=stsOk_at hgrow.sts hk
     have hlG:=strsC_len (strs)
     have hm:∀s,(strs).getD k st0=s→tookM ⟨false,out,outM,inn,innM,came,strs,snd,rm,wait,false⟩ false fl (some (t,hd)) (some k)=if s.heard=true∨s.got≠[]∨hd=[] then badM ⟨false,out,outM,inn,innM,came,strs,snd,rm,wait,false⟩ else
       setSt { (⟨false,out,outM,inn,innM,came,strs,snd,rm,wait,false⟩:En) with inn:=t } k (if fl then doneM false { s with got:=hd } else { s with got:=hd }):=fun s hs=>by subst hs; rfl
     simp only at hso
     generalize hs:(strs).getD k st0=s at g9 g7 hput hso
     rw [hm s hs]
     clear hm hs
     obtain ⟨a1,a2,a3,a4,a5,a6,a7,a8⟩:=stOk_iff.1 hso
     obtain ⟨sid,sst,shd,ssay,sbg,ssd,ssent,sgot,stx,shrd,ssnd,srm⟩:=s
     simp only at a6
     have hwl:=(wordOk_iff.1 a6).2
     have p7:=hput (.rows none (hd.map fV)) ⟨sid,sst,shd,ssay,sbg,ssd,ssent,hd,stx,shrd,ssnd,srm⟩ rfl
     by_cases h3:hd=[]
     ·have h3d:decide ((hd.length:Int)=0)=true:=by rw [h3]; rfl
      rw [if_pos (by simp [h3])]
      simp -implicitDefEqProofs (disch:=omega) only [push_cast,simprocAttr,hap,h3d,↓gd]
      refine ⟨_,_,Wk.refl _ _ _,b,c,⟨false,out,outM,inn,innM,came,strs,snd,rm,wait,false⟩,false,rfl,PtrTo.mk' (c:=c) b c ?_ ?_ ?_ (.inl rfl) (.inl rfl) (((Upd.refl _ _).app _)),rfl⟩
      ·simp -implicitDefEqProofs (disch:=omega) only [push_cast,simprocAttr,hv,↓gd]
      ·simp -implicitDefEqProofs (disch:=omega) only [push_cast,simprocAttr,hb,↓gd]
      ·simp -implicitDefEqProofs (disch:=omega) only [push_cast,simprocAttr,hc,↓gd]
     ·have h3':¬(hd.length:Int)=0:=by
       have:=List.length_pos_iff.2 h3
       omega
      by_cases h2:sgot=[]
      ·have h2d:decide ((sgot.length:Int) > 0)=false:=by rw [h2]; rfl
       cases shrd
       ·rw [if_neg (by simp [h2,h3])]
        cases fl
        ·simp -implicitDefEqProofs (disch:=omega) only [push_cast,simprocAttr,hap,h3',h2d,g7,g9,p7,hv,hb,hc,↓gd]
         repeat refine And.intro (by omega) ?_
         refine ⟨_,_,Wk.refl _ _ _,b,c,{ (⟨false,out,outM,inn,innM,came,strs,snd,rm,wait,false⟩:En) with inn:=t,strs:=(strs).set k ⟨sid,sst,shd,ssay,sbg,ssd,ssent,hd,stx,false,ssnd,srm⟩ },true,rfl,PtrTo.mk' (c:=c) b c ?_ ?_ ?_ (.inl rfl) (.inl rfl) (((((Upd.refl _ _).set _ (.inr (by simp))).set _ (.inr (by simp))).app _)),rfl⟩
         ·simp -implicitDefEqProofs (disch:=omega) only [push_cast,simprocAttr,hv,↓gd]
         ·simp -implicitDefEqProofs (disch:=omega) only [push_cast,simprocAttr,hb,↓gd]
         ·simp -implicitDefEqProofs (disch:=omega) only [push_cast,simprocAttr,hc,↓gd]
        ·simp -implicitDefEqProofs (disch:=omega) only [push_cast,simprocAttr,hap,h3',h2d,g7,g9,p7,hv,hb,hc,↓gd]
         repeat refine And.intro (by omega) ?_
         refine heard_then (b:=b) (c:=c) (e1:={ (⟨false,out,outM,inn,innM,came,strs,snd,rm,wait,false⟩:En) with inn:=t,strs:=(strs).set k ⟨sid,sst,shd,ssay,sbg,ssd,ssent,hd,stx,false,ssnd,srm⟩ }) (PtrTo.mk' (c:=c) b c ?_ ?_ ?_ (.inl rfl) (.inl rfl) (((((Upd.refl _ _).set _ (.inr (by simp))).set _ (.inr (by simp))).app _))) (by simpa using hk) ?_ ?_ ?_
         ·simp -implicitDefEqProofs (disch:=omega) only [push_cast,simprocAttr,hv,↓gd]
         ·simp -implicitDefEqProofs (disch:=omega) only [push_cast,simprocAttr,hb,↓gd]
         ·simp -implicitDefEqProofs (disch:=omega) only [push_cast,simprocAttr,hc,↓gd]
         ·simp only [stAt]; rw [getD_set st0 _ hk,if_pos rfl]; exact hh
         ·simp only [stAt]; rw [getD_set st0 _ hk,if_pos rfl]; show stx.length < 100; omega
         ·intro S2 hto2
          simp only [stAt,setSt] at hto2
          rw [getD_set st0 _ hk,if_pos rfl,List.set_set] at hto2
          simp only [if_true,setSt]
          simp -implicitDefEqProofs (disch:=omega) only [push_cast,simprocAttr,↓gd]
          exact ⟨_,_,Wk.refl _ _ _,b,c,_,true,rfl,hto2,rfl⟩
       ·rw [if_pos (by simp)]
        simp -implicitDefEqProofs (disch:=omega) only [push_cast,simprocAttr,hap,h3',h2d,g7,g9,hv,hb,hc,↓gd]
        repeat refine And.intro (by omega) ?_
        refine ⟨_,_,Wk.refl _ _ _,b,c,⟨false,out,outM,inn,innM,came,strs,snd,rm,wait,false⟩,false,rfl,PtrTo.mk' (c:=c) b c ?_ ?_ ?_ (.inl rfl) (.inl rfl) (((Upd.refl _ _).app _)),rfl⟩
        ·simp -implicitDefEqProofs (disch:=omega) only [push_cast,simprocAttr,hv,↓gd]
        ·simp -implicitDefEqProofs (disch:=omega) only [push_cast,simprocAttr,hb,↓gd]
        ·simp -implicitDefEqProofs (disch:=omega) only [push_cast,simprocAttr,hc,↓gd]
      ·have h2':(sgot.length:Int) > 0:=by
        have:=List.length_pos_iff.2 h2
        omega
       rw [if_pos (by simp [h2])]
       simp -implicitDefEqProofs (disch:=omega) only [push_cast,simprocAttr,hap,h3',h2',g7,hv,hb,hc,↓gd]
       repeat refine And.intro (by omega) ?_
       refine ⟨_,_,Wk.refl _ _ _,b,c,⟨false,out,outM,inn,innM,came,strs,snd,rm,wait,false⟩,false,rfl,PtrTo.mk' (c:=c) b c ?_ ?_ ?_ (.inl rfl) (.inl rfl) (((Upd.refl _ _).app _)),rfl⟩
       ·simp -implicitDefEqProofs (disch:=omega) only [push_cast,simprocAttr,hv,↓gd]
       ·simp -implicitDefEqProofs (disch:=omega) only [push_cast,simprocAttr,hb,↓gd]
       ·simp -implicitDefEqProofs (disch:=omega) only [push_cast,simprocAttr,hc,↓gd]
end
end Go.Proofs.YtldogccmhncnoaaGreatDoor
