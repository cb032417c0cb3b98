/- A part of the proof: contracts of functions, or plain facts on which these lean. -/
import Derived.Test.YtldogccmhncnoaaGreatDoorMi20
import Derived.Test.YtldogccmhncnoaaGreatDoorMi23
import Derived.Test.YtldogccmhncnoaaGreatDoorMi24
namespace Go.Proofs.YtldogccmhncnoaaGreatDoor
open Go
set_option linter.unusedVariables false
set_option linter.unusedSimpArgs false
set_option maxRecDepth 100000
set_option maxHeartbeats 16000000

section
open Go
theorem atM_app {l:List St} {id:Int} (h:atM l id=none):atM (l++[newSt id]) id=some l.length:=by
 refine atM_at (by simp) (fun j hj=>?_) ?_
 ·rw [getD_app,if_pos hj]
  intro e
  have:atM l id≠none:=by
   intro h'
   unfold atM at h'
   rw [List.findIdx?_eq_none_iff] at h'
   have:=h' _ (getD_memS hj)
   rw [decide_eq_true e] at this
   cases this
  exact this h
 ·rw [getD_app,if_neg (by omega),if_pos rfl]
  rfl
def tookM (g:En) (ans last:Bool) (o:Option (List Fd × List Fd)) (k:Option Nat):En :=
 match o,k with
 | some (t,h),some k=>if (stAt g k).heard=true∨(stAt g k).got≠[]∨h=[] then badM g else
   setSt { g with inn:=t } k (if last then doneM ans { stAt g k with got:=h } else { stAt g k with got:=h })
 | _,_=>badM g
theorem headFM_eq (e:En) (f:Fr):headFM e f=tookM (growM e f.stream) e.ans f.last (headR f.body.length e.inn e.innM f.body 0) (atM (growM e f.stream).strs f.stream):=by
 unfold headFM tookM
 rfl
theorem last_get (l:List St) (X:List V) (c:Nat):(strsC l++X)[l.length * 12+c]?=X[c]?:=by
 rw [←strsC_len,List.getElem?_append_right (by omega),Nat.add_sub_cancel_left]
theorem last_drop (l:List St) (X:List V):(strsC l++X).drop (l.length * 12)=X:=by rw [←strsC_len,List.drop_left]
theorem last_splice (l:List St) (X Y:List V) (h:X.length=Y.length):splice (strsC l++X) (l.length * 12) Y=strsC l++Y:=by
 have:=splice_skip (strsC l) X 0 Y
 rw [Nat.add_zero,strsC_len] at this
 rw [this]
 have:=splice_front Y X [] h
 rw [List.append_nil,List.append_nil] at this
 rw [this]
theorem last_set (l:List St) (a s:St):strsC ((l++[a]).set l.length s)=strsC l++strC s:=by
 rw [List.set_append_right _ _ (Nat.le_refl _),Nat.sub_self,List.set_cons_zero,strsC_app,strsC_one]
theorem grow_fin {S X:List Blk} {b c:Nat} {bad:Bool} {out inn:List Fd} {outM innM snd rm:Int} {came:List UInt8} {strs:List St} {wait:List Fr} (a s':St) {E:En} {B0 B1 B2 B3 B4:Blk} {C:List V}
  (hb:S[b]?=some (.cells 12 (strsC strs))) (hc:S[c]?=some (.cells 4 (frmsC wait))) (hne:b≠c) (hC:C=strsC strs++strC s') (hE:E=⟨true,out,outM,inn,innM,came,(strs++[a]).set strs.length s',snd,rm,wait,bad⟩) :
  ∃r S2,Wk S (.agg [.bool true,.rows none (out.map fV),.int .i64 outM,.rows none (inn.map fV),.int .i64 innM,.str came,.heap (S.length+5) (strs.length+1),.int .i64 snd,.int .i64 rm,.heap c wait.length,.bool bad])
   (S.set b .dead++([B0,B1,B2,B3,B4,.cells 12 C]++X)) r S2∧RTo S b c E r S2:=by
 subst hE hC
 have hbl:=lt_of_some hb
 have hcl:=lt_of_some hc
 refine ⟨_,_,Wk.refl _ _ _,RTo.mk (S.length+5) c (by simp [eV,enV,enC]) ?_ ?_ (.inr (by omega)) (.inl rfl) (((Upd.refl _ _).set _ (.inr (by simp))).app _)⟩
 ·rw [s1_get,last_set]
  rfl
 ·simp -implicitDefEqProofs (maxSteps:=1000000) (disch:=omega) only [push_cast,simprocAttr,hc,↓gd]
theorem l21Head_ok {N:Nat} {e:En} (hW:EnW N e) (hN:N≤1100000) {f:Fr} (hf:frameOk f=true) {S:List Blk} {b c:Nat} (h:EnAt S b c e):VCall Tryz.prog 116 [eV b c e,frV f] S fun r S'=>RTo S b c (headFM e f) r S':=by
 have he:=hW.b hN
 have hsts:=hW.sts
 have hwn:=hW.len
 have hinn:=hW.inn
 have hfb:=(frameOk_nat hf).2.2
 have hsl:=stsOk_len hsts
 have hall:∀g ∈ fixedFds++e.inn,fieldOk g=true:=fun g hg=>by
  rcases List.mem_append.1 hg with hg | hg
  ·exact (by decide:∀g ∈ fixedFds,fieldOk g=true) g hg
  ·exact ((tableOk_parts hinn).2.2.2.1 g hg).1
 have hgood:∀x hd,headR f.body.length e.inn e.innM f.body 0=some (x,hd)→tableOk x e.innM=true∧headOk hd=true:=fun x hd hr=>by
  obtain ⟨x1,x2,x3⟩:=headR_good _ _ _ _ _ _ _ hinn (by omega) (by omega) hr
  exact ⟨x1,headOk_iff.2 ⟨x2,by omega⟩⟩
 rw [headFM_eq]
 obtain ⟨ans,out,outM,inn,innM,came,strs,snd,rm,wait,bad⟩:=e
 simp only at hsts hwn hinn hall hgood hsl
 have hne:=h.ne
 have hb:S[b]?=some (.cells 12 (strsC strs)):=h.1
 have hc:S[c]?=some (.cells 4 (frmsC wait)):=h.2
 have hbl:=lt_of_some hb
 have hcl:=lt_of_some hc
 have hlen:=strsC_len strs
 have hlw:=frmsC_len wait
 obtain ⟨fk,fl,fs,fb⟩:=f
 simp only at hfb hgood ⊢
 have sbad:∀X,RTo S b c ⟨ans,out,outM,inn,innM,came,strs,snd,rm,wait,true⟩ (eV b c ⟨ans,out,outM,inn,innM,came,strs,snd,rm,wait,true⟩) (S++X):=fun X=>.stay (e:=⟨ans,out,outM,inn,innM,came,strs,snd,rm,wait,true⟩) h
 refine VCall.ex hDe (fun _=>false) (fun id=>if id=3 then [26,26,26,26,26,26,26,26,26,26,26,26,26,26,26,26,26,26,26,26,26,26,26,26,26,26] else if id=5 then [6,6,4,4,5,6,8,8,9] else []) Tryz.func116 Tryz.ntmps116 Tryz.results116 ?_
 simp -implicitDefEqProofs (maxSteps:=1000000) (disch:=omega) only [push_cast,simprocAttr,↓gd]
 refine ((l11Read_ok inn innM fb (tableOk_b hinn) (table_len hinn) (tableOk_parts hinn).2.1 (by omega) hall _).as rfl).to ?_
 generalize hO:headR fb.length inn innM fb 0=O at hgood ⊢
 cases ha:atM strs fs with
 | some k =>
  obtain ⟨hk,hid⟩:=atM_some ha
  have hai:atI strs fs=k:=by rw [atI,ha]
  have hk0:¬(k:Int) < 0:=by omega
  have hg:growM ⟨ans,out,outM,inn,innM,came,strs,snd,rm,wait,bad⟩ fs=⟨ans,out,outM,inn,innM,came,strs,snd,rm,wait,bad⟩:=by rw [growM,if_neg (by rw [ha]; simp)]
  rw [hg]
  simp only [ha]
  have hso:=stsOk_at hsts hk
  obtain ⟨a1,a2,a3,a4,a5,a6,a7,a8⟩:=stOk_iff.1 hso
  have hat:=strsC_at hk
  have g9:=strsC_get hk (c:=9) (by decide)
  have g7:=strsC_get hk (c:=7) (by decide)
  cases O with
  | none =>
   have hm:tookM ⟨ans,out,outM,inn,innM,came,strs,snd,rm,wait,bad⟩ ans fl none (some k)=⟨ans,out,outM,inn,innM,came,strs,snd,rm,wait,true⟩:=rfl
   rw [hm]
   simp -implicitDefEqProofs (maxSteps:=1000000) (disch:=omega) only [push_cast,simprocAttr,hrV,↓gd]
   refine ((l21At_ok he (h.app _) fs).as rfl).to ?_
   simp -implicitDefEqProofs (maxSteps:=1000000) (disch:=omega) only [push_cast,simprocAttr,hai,hk0,↓gd]
   exact ⟨_,_,Wk.refl _ _ _,sbad _⟩
  | some th =>
   obtain ⟨t,hd⟩:=th
   obtain ⟨ht,hh⟩:=hgood t hd rfl
   simp -implicitDefEqProofs (maxSteps:=1000000) (disch:=omega) only [push_cast,simprocAttr,hrV,↓gd]
   refine ((l21At_ok he (h.app _) fs).as rfl).to ?_
   have hm:∀s,strs.getD k st0=s→tookM ⟨ans,out,outM,inn,innM,came,strs,snd,rm,wait,bad⟩ ans fl (some (t,hd)) (some k)=if s.heard=true∨s.got≠[]∨hd=[] then ⟨ans,out,outM,inn,innM,came,strs,snd,rm,wait,true⟩ else
    ⟨ans,out,outM,t,innM,came,strs.set k (if fl then doneM ans { s with got:=hd } else { s with got:=hd }),snd,rm,wait,bad⟩:=fun s hs=>by subst hs; rfl
   generalize hs:strs.getD k st0=s at hat hso a1 a2 a3 a4 a5 a6 a7 a8 g9 g7
   rw [hm s hs]
   clear hm hs
   obtain ⟨sid,sst,shd,ssay,sbg,ssd,ssent,sgot,stx,shrd,ssnd,srm⟩:=s
   simp only at a1 a2 a3 a4 a5 a6 a7 a8
   have hwl:=(wordOk_iff.1 a6).2
   cases shrd
   ·by_cases h2:sgot=[]
    ·subst h2
     by_cases h3:hd=[]
     ·subst h3
      rw [if_pos (by simp)]
      simp -implicitDefEqProofs (maxSteps:=1000000) (disch:=omega) only [push_cast,simprocAttr,hai,hk0,hb,g9,g7,↓gd]
      repeat refine And.intro (by omega) ?_
      exact ⟨_,_,Wk.refl _ _ _,sbad _⟩
     ·have h3':¬(hd.length:Int)=0:=by
       have:=List.length_pos_iff.2 h3
       omega
      rw [if_neg (by simp [h3])]
      cases fl
      ·simp -implicitDefEqProofs (maxSteps:=1000000) (disch:=omega) only [push_cast,simprocAttr,hai,hk0,hb,g9,g7,h3',hat,↓gd]
       repeat refine And.intro (by omega) ?_
       exact st_fin ⟨sid,sst,shd,ssay,sbg,ssd,ssent,hd,stx,false,ssnd,srm⟩ hb hc hne hk (by simp)
      ·simp -implicitDefEqProofs (maxSteps:=1000000) (disch:=omega) only [push_cast,simprocAttr,hai,hk0,hb,g9,g7,h3',hat,↓gd]
       repeat refine And.intro (by omega) ?_
       refine ((l21Done_ok (v:=.heap b strs.length) (w:=.heap c wait.length) ⟨ans,out,outM,t,innM,came,strs,snd,rm,wait,bad⟩ ⟨sid,sst,shd,ssay,sbg,ssd,ssent,hd,stx,false,ssnd,srm⟩ hh (show stx.length < 100 by omega) rfl rfl _).as (by simp [enV,enC,stV,strC])).to ?_
       generalize hdn:doneM ans ⟨sid,sst,shd,ssay,sbg,ssd,ssent,hd,stx,false,ssnd,srm⟩=s'
       simp -implicitDefEqProofs (maxSteps:=1000000) (disch:=omega) only [push_cast,simprocAttr,hai,hk0,hb,hat,↓gd]
       repeat refine And.intro (by omega) ?_
       exact st_fin s' hb hc hne hk (by simp [hdn])
    ·have h2':(sgot.length:Int) > 0:=by
      have:=List.length_pos_iff.2 h2
      omega
     rw [if_pos (by simp [h2])]
     simp -implicitDefEqProofs (maxSteps:=1000000) (disch:=omega) only [push_cast,simprocAttr,hai,hk0,hb,g9,g7,h2',↓gd]
     repeat refine And.intro (by omega) ?_
     exact ⟨_,_,Wk.refl _ _ _,sbad _⟩
   ·rw [if_pos (by simp)]
    simp -implicitDefEqProofs (maxSteps:=1000000) (disch:=omega) only [push_cast,simprocAttr,hai,hk0,hb,g9,↓gd]
    repeat refine And.intro (by omega) ?_
    exact ⟨_,_,Wk.refl _ _ _,sbad _⟩
 | none =>
  have hai:atI strs fs=-1:=by rw [atI,ha]
  have hn0:¬(strs.length:Int) < 0:=by omega
  have hn9:(newSt fs).heard=false:=rfl
  have hn7:(newSt fs).got=[]:=rfl
  have stayM:growM ⟨ans,out,outM,inn,innM,came,strs,snd,rm,wait,bad⟩ fs=⟨ans,out,outM,inn,innM,came,strs,snd,rm,wait,bad⟩→tookM (growM ⟨ans,out,outM,inn,innM,came,strs,snd,rm,wait,bad⟩ fs) ans fl O (atM (growM ⟨ans,out,outM,inn,innM,came,strs,snd,rm,wait,bad⟩ fs).strs fs)=⟨ans,out,outM,inn,innM,came,strs,snd,rm,wait,true⟩:=fun q=>by
   rw [q]
   simp only [ha]
   cases O <;> rfl
  have hst:stAt ⟨true,out,outM,inn,innM,came,strs++[newSt fs],snd,rm,wait,bad⟩ strs.length=newSt fs:=by simp only [stAt]; rw [getD_app,if_neg (by omega),if_pos rfl]
  have hmE:∀t (hd:List Fd),hd=[]→tookM ⟨true,out,outM,inn,innM,came,strs++[newSt fs],snd,rm,wait,bad⟩ true fl (some (t,hd)) (some strs.length)=⟨true,out,outM,inn,innM,came,strs++[newSt fs],snd,rm,wait,true⟩:=fun t hd q=>by
   simp only [tookM,hst]
   simp [q,badM]
  have hmS:∀t (hd:List Fd),hd≠[]→tookM ⟨true,out,outM,inn,innM,came,strs++[newSt fs],snd,rm,wait,bad⟩ true fl (some (t,hd)) (some strs.length) =
    ⟨true,out,outM,t,innM,came,(strs++[newSt fs]).set strs.length (if fl then doneM true { newSt fs with got:=hd } else { newSt fs with got:=hd }),snd,rm,wait,bad⟩:=fun t hd q=>by
   simp only [tookM,hst]
   simp [q,newSt,setSt]
  have hmN:tookM ⟨true,out,outM,inn,innM,came,strs++[newSt fs],snd,rm,wait,bad⟩ true fl none (some strs.length)=⟨true,out,outM,inn,innM,came,strs++[newSt fs],snd,rm,wait,true⟩:=rfl
  cases ans
  ·rw [stayM (by rw [growM,if_neg (by simp)])]
   cases O with
   | none =>
    simp -implicitDefEqProofs (maxSteps:=1000000) (disch:=omega) only [push_cast,simprocAttr,hrV,↓gd]
    refine ((l21At_ok he (h.app _) fs).as rfl).to ?_
    simp -implicitDefEqProofs (maxSteps:=1000000) (disch:=omega) only [push_cast,simprocAttr,hai,↓gd]
    exact ⟨_,_,Wk.refl _ _ _,sbad _⟩
   | some th =>
    obtain ⟨t,hd⟩:=th
    simp -implicitDefEqProofs (maxSteps:=1000000) (disch:=omega) only [push_cast,simprocAttr,hrV,↓gd]
    refine ((l21At_ok he (h.app _) fs).as rfl).to ?_
    simp -implicitDefEqProofs (maxSteps:=1000000) (disch:=omega) only [push_cast,simprocAttr,hai,↓gd]
    exact ⟨_,_,Wk.refl _ _ _,sbad _⟩
  ·by_cases hz:strs=[]
   ·have hg:growM ⟨true,out,outM,inn,innM,came,strs,snd,rm,wait,bad⟩ fs=⟨true,out,outM,inn,innM,came,strs++[newSt fs],snd,rm,wait,bad⟩:=by rw [growM,if_pos ⟨ha,rfl,.inl hz⟩]
    have hag:=atM_app ha
    have hzd:decide ((strs.length:Int)=0)=true:=by rw [hz]; rfl
    rw [hg,hag]
    cases O with
    | none =>
     rw [hmN]
     simp -implicitDefEqProofs (maxSteps:=1000000) (disch:=omega) only [push_cast,simprocAttr,hrV,hzd,↓gd]
     refine ((l21At_ok he (h.app _) fs).as rfl).to ?_
     simp -implicitDefEqProofs (maxSteps:=1000000) (disch:=omega) only [push_cast,simprocAttr,hai,hb,hzd,↓gd]
     repeat refine And.intro (by omega) ?_
     refine (l21New_ok fs _).to ?_
     simp -implicitDefEqProofs (maxSteps:=1000000) (disch:=omega) only [push_cast,simprocAttr,hai,hb,hzd,↓gd]
     repeat refine And.intro (by omega) ?_
     refine ⟨_,_,Wk.refl _ _ _,RTo.mk (S.length+5) c (by simp [eV,enV,enC]) ?_ ?_ (.inr (by omega)) (.inl rfl) (((Upd.refl _ _).set _ (.inr (by simp))).app _)⟩
     ·rw [s1_get,strsC_app,strsC_one]
      rfl
     ·simp -implicitDefEqProofs (maxSteps:=1000000) (disch:=omega) only [push_cast,simprocAttr,hc,↓gd]
    | some th =>
     obtain ⟨t,hd⟩:=th
     obtain ⟨ht,hh⟩:=hgood t hd rfl
     simp -implicitDefEqProofs (maxSteps:=1000000) (disch:=omega) only [push_cast,simprocAttr,hrV,hzd,↓gd]
     refine ((l21At_ok he (h.app _) fs).as rfl).to ?_
     simp -implicitDefEqProofs (maxSteps:=1000000) (disch:=omega) only [push_cast,simprocAttr,hai,hb,hzd,↓gd]
     repeat refine And.intro (by omega) ?_
     refine (l21New_ok fs _).to ?_
     by_cases h3:hd=[]
     ·rw [hmE t hd h3]
      have h3d:decide ((hd.length:Int)=0)=true:=by rw [h3]; rfl
      simp -implicitDefEqProofs (maxSteps:=1000000) (disch:=omega) only [push_cast,simprocAttr,hai,hb,last_get,last_drop,hn0,hn9,hn7,h3d,hzd,↓gd]
      repeat refine And.intro (by omega) ?_
      refine ⟨_,_,Wk.refl _ _ _,RTo.mk (S.length+5) c (by simp [eV,enV,enC]) ?_ ?_ (.inr (by omega)) (.inl rfl) (((Upd.refl _ _).set _ (.inr (by simp))).app _)⟩
      ·rw [s1_get,strsC_app,strsC_one]
       rfl
      ·simp -implicitDefEqProofs (maxSteps:=1000000) (disch:=omega) only [push_cast,simprocAttr,hc,↓gd]
     ·have h3':¬(hd.length:Int)=0:=by
       have:=List.length_pos_iff.2 h3
       omega
      rw [hmS t hd h3]
      cases fl
      ·simp -implicitDefEqProofs (maxSteps:=1000000) (disch:=omega) only [push_cast,simprocAttr,hai,hb,last_get,last_drop,hn0,hn9,hn7,hzd,h3',↓gd]
       repeat refine And.intro (by omega) ?_
       exact grow_fin (newSt fs) { newSt fs with got:=hd } hb hc hne (last_splice strs _ (strC { newSt fs with got:=hd }) rfl) rfl
      ·simp -implicitDefEqProofs (maxSteps:=1000000) (disch:=omega) only [push_cast,simprocAttr,hai,hb,last_get,last_drop,hn0,hn9,hn7,hzd,h3',↓gd]
       repeat refine And.intro (by omega) ?_
       refine ((l21Done_ok (v:=.heap (S.length+5) (strs.length+1)) (w:=.heap c wait.length) ⟨true,out,outM,t,innM,came,strs,snd,rm,wait,bad⟩ { newSt fs with got:=hd } hh (show ([]:List UInt8).length < 100 by decide) rfl rfl _).as (by simp [enV,enC,stV,strC,newSt])).to ?_
       simp only [if_true]
       generalize hdn:doneM true { newSt fs with got:=hd }=s'
       simp -implicitDefEqProofs (maxSteps:=1000000) (disch:=omega) only [push_cast,simprocAttr,hai,hb,last_get,last_drop,hn0,hn9,hn7,h3',↓gd]
       repeat refine And.intro (by omega) ?_
       exact grow_fin (newSt fs) s' hb hc hne (last_splice strs _ (strC s') rfl) (by rw [←hdn]; rfl)
   ·have hz':¬(strs.length:Int)=0:=by
     have:=List.length_pos_iff.2 hz
     omega
    have hlp:=List.length_pos_iff.2 hz
    have hi1:((strs.length:Int) - 1).toNat=strs.length - 1:=by omega
    have glast:=strsC_id (l:=strs) (i:=strs.length - 1) (by omega)
    by_cases hl:(strs.getD (strs.length - 1) st0).id < fs
    ·have hg:growM ⟨true,out,outM,inn,innM,came,strs,snd,rm,wait,bad⟩ fs=⟨true,out,outM,inn,innM,came,strs++[newSt fs],snd,rm,wait,bad⟩:=by rw [growM,if_pos ⟨ha,rfl,.inr hl⟩]
     have hag:=atM_app ha
     rw [hg,hag]
     cases O with
     | none =>
      rw [hmN]
      simp -implicitDefEqProofs (maxSteps:=1000000) (disch:=omega) only [push_cast,simprocAttr,hrV,hz',hi1,glast,hl,↓gd]
      refine ((l21At_ok he (h.app _) fs).as rfl).to ?_
      simp -implicitDefEqProofs (maxSteps:=1000000) (disch:=omega) only [push_cast,simprocAttr,hai,hb,hz',hi1,glast,hl,↓gd]
      repeat refine And.intro (by omega) ?_
      refine (l21New_ok fs _).to ?_
      simp -implicitDefEqProofs (maxSteps:=1000000) (disch:=omega) only [push_cast,simprocAttr,hai,hb,hz',hi1,glast,hl,↓gd]
      repeat refine And.intro (by omega) ?_
      refine ⟨_,_,Wk.refl _ _ _,RTo.mk (S.length+5) c (by simp [eV,enV,enC]) ?_ ?_ (.inr (by omega)) (.inl rfl) (((Upd.refl _ _).set _ (.inr (by simp))).app _)⟩
      ·rw [s1_get,strsC_app,strsC_one]
       rfl
      ·simp -implicitDefEqProofs (maxSteps:=1000000) (disch:=omega) only [push_cast,simprocAttr,hc,↓gd]
     | some th =>
      obtain ⟨t,hd⟩:=th
      obtain ⟨ht,hh⟩:=hgood t hd rfl
      simp -implicitDefEqProofs (maxSteps:=1000000) (disch:=omega) only [push_cast,simprocAttr,hrV,hz',hi1,glast,hl,↓gd]
      refine ((l21At_ok he (h.app _) fs).as rfl).to ?_
      simp -implicitDefEqProofs (maxSteps:=1000000) (disch:=omega) only [push_cast,simprocAttr,hai,hb,hz',hi1,glast,hl,↓gd]
      repeat refine And.intro (by omega) ?_
      refine (l21New_ok fs _).to ?_
      by_cases h3:hd=[]
      ·rw [hmE t hd h3]
       have h3d:decide ((hd.length:Int)=0)=true:=by rw [h3]; rfl
       simp -implicitDefEqProofs (maxSteps:=1000000) (disch:=omega) only [push_cast,simprocAttr,hai,hb,last_get,last_drop,hn0,hn9,hn7,h3d,hz',hi1,glast,hl,↓gd]
       repeat refine And.intro (by omega) ?_
       refine ⟨_,_,Wk.refl _ _ _,RTo.mk (S.length+5) c (by simp [eV,enV,enC]) ?_ ?_ (.inr (by omega)) (.inl rfl) (((Upd.refl _ _).set _ (.inr (by simp))).app _)⟩
       ·rw [s1_get,strsC_app,strsC_one]
        rfl
       ·simp -implicitDefEqProofs (maxSteps:=1000000) (disch:=omega) only [push_cast,simprocAttr,hc,↓gd]
      ·have h3':¬(hd.length:Int)=0:=by
        have:=List.length_pos_iff.2 h3
        omega
       rw [hmS t hd h3]
       cases fl
       ·simp -implicitDefEqProofs (maxSteps:=1000000) (disch:=omega) only [push_cast,simprocAttr,hai,hb,last_get,last_drop,hn0,hn9,hn7,hz',hi1,glast,hl,h3',↓gd]
        repeat refine And.intro (by omega) ?_
        exact grow_fin (newSt fs) { newSt fs with got:=hd } hb hc hne (last_splice strs _ (strC { newSt fs with got:=hd }) rfl) rfl
       ·simp -implicitDefEqProofs (maxSteps:=1000000) (disch:=omega) only [push_cast,simprocAttr,hai,hb,last_get,last_drop,hn0,hn9,hn7,hz',hi1,glast,hl,h3',↓gd]
        repeat refine And.intro (by omega) ?_
        refine ((l21Done_ok (v:=.heap (S.length+5) (strs.length+1)) (w:=.heap c wait.length) ⟨true,out,outM,t,innM,came,strs,snd,rm,wait,bad⟩ { newSt fs with got:=hd } hh (show ([]:List UInt8).length < 100 by decide) rfl rfl _).as (by simp [enV,enC,stV,strC,newSt])).to ?_
        simp only [if_true]
        generalize hdn:doneM true { newSt fs with got:=hd }=s'
        simp -implicitDefEqProofs (maxSteps:=1000000) (disch:=omega) only [push_cast,simprocAttr,hai,hb,last_get,last_drop,hn0,hn9,hn7,h3',↓gd]
        repeat refine And.intro (by omega) ?_
        exact grow_fin (newSt fs) s' hb hc hne (last_splice strs _ (strC s') rfl) (by rw [←hdn]; rfl)
    ·rw [stayM (by rw [growM,if_neg (by rintro ⟨_,_,q | q⟩; exact hz q; exact hl q)])]
     cases O with
     | none =>
      simp -implicitDefEqProofs (maxSteps:=1000000) (disch:=omega) only [push_cast,simprocAttr,hrV,↓gd]
      refine ((l21At_ok he (h.app _) fs).as rfl).to ?_
      simp -implicitDefEqProofs (maxSteps:=1000000) (disch:=omega) only [push_cast,simprocAttr,hai,hb,hz',hi1,glast,hl,↓gd]
      repeat refine And.intro (by omega) ?_
      exact ⟨_,_,Wk.refl _ _ _,sbad _⟩
     | some th =>
      obtain ⟨t,hd⟩:=th
      simp -implicitDefEqProofs (maxSteps:=1000000) (disch:=omega) only [push_cast,simprocAttr,hrV,↓gd]
      refine ((l21At_ok he (h.app _) fs).as rfl).to ?_
      simp -implicitDefEqProofs (maxSteps:=1000000) (disch:=omega) only [push_cast,simprocAttr,hai,hb,hz',hi1,glast,hl,↓gd]
      repeat refine And.intro (by omega) ?_
      exact ⟨_,_,Wk.refl _ _ _,sbad _⟩
end
section
open Go
theorem frameOk_kinds {f:Fr} (h:frameOk f=true):f.kind=0∨f.kind=1∨f.kind=3∨f.kind=8:=by
 unfold frameOk at h
 split at h
 ·omega
 ·split at h
  ·omega
  ·split at h
   ·omega
   ·cases h
theorem l21Frame_ok {N:Nat} {e:En} (hW:EnW N e) (hN:N≤1100000) {f:Fr} (hf:frameOk f=true) {S:List Blk} {b c:Nat} (h:EnAt S b c e):VCall Tryz.prog 78 [eV b c e,frV f] S fun r S'=>RTo S b c (frameM e f) r S':=by
 have he:=hW.b hN
 have hsts:=hW.sts
 have hkd:=frameOk_kinds hf
 have hfin:∀{X r S' E},RTo (S++X) b c E r S'→RTo S b c E r S':=fun ⟨b',c',h1,h2⟩=>⟨b',c',h1,h2.app⟩
 have kinds:∀k,f.kind=k→frameM e f=if k=1 then headFM e f else if k=0 then dataM e f else if k=8 then moreM e f
  else match atM e.strs f.stream with
   | none=>badM e
   | some k=>if e.ans=false then badM e else setSt e k { stAt e k with state:=3 }:=fun k hk=>by rw [←hk]; rfl
 by_cases k1:f.kind=1
 ·have hcon:=fun X=>l21Head_ok hW hN hf (h.app X)
  rw [kinds 1 k1,if_pos rfl]
  refine VCall.en hDe Tryz.func78 Tryz.ntmps78 Tryz.results78 ?_
  simp -implicitDefEqProofs (disch:=omega) only [push_cast,simprocAttr,k1,↓gd]
  refine ((hcon _).as (by simp [eV,enV,enC,frV,frmC,k1])).mono ?_
  rintro r S' ⟨b',c',rfl,hto⟩
  have hx:=hto.app
  have k0:S'[S.length+2]?=some (.cells 0 zE):=hto.upd.get (by simp -implicitDefEqProofs (disch:=omega) only [push_cast,simprocAttr,↓gd]) (by have:=lt_of_some h.1; have:=lt_of_some h.2; simp; omega)
  have l0:=lt_of_some k0
  generalize headFM e f=E at hto hx
  simp -implicitDefEqProofs (disch:=omega) only [push_cast,simprocAttr,k0,↓gd]
  refine ⟨_,_,Wk.refl _ _ _,b',c',rfl,hx.set _ (by omega) ?_ ?_⟩
  ·exact cells_ne hto.at_.1 k0 (by decide)
  ·exact cells_ne hto.at_.2 k0 (by decide)
 by_cases k2:f.kind=0
 ·have hcon:=fun X=>l21Data_ok hW hN hf k2 (h.app X)
  rw [kinds 0 k2,if_neg (by decide),if_pos rfl]
  refine VCall.en hDe Tryz.func78 Tryz.ntmps78 Tryz.results78 ?_
  simp -implicitDefEqProofs (disch:=omega) only [push_cast,simprocAttr,k2,↓gd]
  refine ((hcon _).as (by simp [eV,enV,enC,frV,frmC,k2])).mono ?_
  rintro r S' ⟨b',c',rfl,hto⟩
  have hx:=hto.app
  have k0:S'[S.length+2]?=some (.cells 0 zE):=hto.upd.get (by simp -implicitDefEqProofs (disch:=omega) only [push_cast,simprocAttr,↓gd]) (by have:=lt_of_some h.1; have:=lt_of_some h.2; simp; omega)
  have l0:=lt_of_some k0
  generalize dataM e f=E at hto hx
  simp -implicitDefEqProofs (disch:=omega) only [push_cast,simprocAttr,k0,↓gd]
  refine ⟨_,_,Wk.refl _ _ _,b',c',rfl,hx.set _ (by omega) ?_ ?_⟩
  ·exact cells_ne hto.at_.1 k0 (by decide)
  ·exact cells_ne hto.at_.2 k0 (by decide)
 by_cases k3:f.kind=8
 ·have hcon:=fun X=>l21More_ok hW hN hf k3 (h.app X)
  rw [kinds 8 k3,if_neg (by decide),if_neg (by decide),if_pos rfl]
  refine VCall.en hDe Tryz.func78 Tryz.ntmps78 Tryz.results78 ?_
  simp -implicitDefEqProofs (disch:=omega) only [push_cast,simprocAttr,k3,↓gd]
  refine ((hcon _).as (by simp [eV,enV,enC,frV,frmC,k3])).mono ?_
  rintro r S' ⟨b',c',rfl,hto⟩
  have hx:=hto.app
  have k0:S'[S.length+2]?=some (.cells 0 zE):=hto.upd.get (by simp -implicitDefEqProofs (disch:=omega) only [push_cast,simprocAttr,↓gd]) (by have:=lt_of_some h.1; have:=lt_of_some h.2; simp; omega)
  have l0:=lt_of_some k0
  generalize moreM e f=E at hto hx
  simp -implicitDefEqProofs (disch:=omega) only [push_cast,simprocAttr,k0,↓gd]
  refine ⟨_,_,Wk.refl _ _ _,b',c',rfl,hx.set _ (by omega) ?_ ?_⟩
  ·exact cells_ne hto.at_.1 k0 (by decide)
  ·exact cells_ne hto.at_.2 k0 (by decide)
 have k4:f.kind=3:=by omega
 rw [kinds 3 k4,if_neg (by decide),if_neg (by decide),if_neg (by decide)]
 clear kinds
 obtain ⟨ans,out,outM,inn,innM,came,strs,snd,rm,wait,bad⟩:=e
 simp only at hsts
 have hne:=h.ne
 have hb:S[b]?=some (.cells 12 (strsC strs)):=h.1
 have hc:S[c]?=some (.cells 4 (frmsC wait)):=h.2
 have hbl:=lt_of_some hb
 have hcl:=lt_of_some hc
 have hlen:=strsC_len strs
 obtain ⟨fk,fl,fs,fb⟩:=f
 simp only at k4 ⊢
 subst k4
 have sbad:∀X,RTo S b c ⟨ans,out,outM,inn,innM,came,strs,snd,rm,wait,true⟩ (eV b c ⟨ans,out,outM,inn,innM,came,strs,snd,rm,wait,true⟩) (S++X):=fun X=>.stay (e:=⟨ans,out,outM,inn,innM,came,strs,snd,rm,wait,true⟩) h
 refine VCall.en hDe Tryz.func78 Tryz.ntmps78 Tryz.results78 ?_
 simp -implicitDefEqProofs (disch:=omega) only [push_cast,simprocAttr,↓gd]
 refine ((l21At_ok he (h.app _) fs).as rfl).to ?_
 cases ha:atM strs fs with
 | none =>
  have hai:atI strs fs=-1:=by rw [atI,ha]
  simp only [badM]
  simp -implicitDefEqProofs (disch:=omega) only [push_cast,simprocAttr,hai,↓gd]
  exact ⟨_,_,Wk.refl _ _ _,sbad _⟩
 | some k =>
  obtain ⟨hk,hid⟩:=atM_some ha
  have hai:atI strs fs=k:=by rw [atI,ha]
  have hk0:¬(k:Int) < 0:=by omega
  cases ans
  ·simp only [badM,if_true]
   simp -implicitDefEqProofs (disch:=omega) only [push_cast,simprocAttr,hai,hk0,↓gd]
   exact ⟨_,_,Wk.refl _ _ _,sbad _⟩
  ·have hput:∀s',strC s'=(strC (strs.getD k st0)).set 1 (.int .i64 3)→splice (strsC strs) (k * 12+1) [.int .i64 3]=strsC (strs.set k s'):=fun s'=>strsC_put hk (by decide)
   simp only [stAt,setSt,Bool.true_eq_false,if_false]
   generalize strs.getD k st0=s at hput
   obtain ⟨sid,sst,shd,ssay,sbg,ssd,ssent,sgot,stx,shrd,ssnd,srm⟩:=s
   have hput:=hput ⟨sid,3,shd,ssay,sbg,ssd,ssent,sgot,stx,shrd,ssnd,srm⟩ rfl
   simp -implicitDefEqProofs (disch:=omega) only [push_cast,simprocAttr,hai,hk0,hb,hput,↓gd]
   repeat refine And.intro (by omega) ?_
   refine ⟨_,_,Wk.refl _ _ _,RTo.mk b c (by simp [eV,enV,enC]) ?_ ?_ (.inl rfl) (.inl rfl) (((Upd.refl _ _).set _ (.inr (by simp))).app _)⟩
   ·simp -implicitDefEqProofs (disch:=omega) only [push_cast,simprocAttr,↓gd]
   ·simp -implicitDefEqProofs (disch:=omega) only [push_cast,simprocAttr,hc,↓gd]
end
section
open Go
theorem hearsM_succ (n:Nat) (e:En):hearsM (n+1) e=if e.bad then e else if (frR e.came).2.2 < 0 then badM e else if (frR e.came).2.2=0 then e else hearsM n (frameM { e with came:=e.came.drop (frR e.came).2.1 } (frR e.came).1):=rfl
theorem l21Hear_ok {N:Nat} {e:En} (hW:EnW N e) (hN:N≤900000) {bs:List UInt8} (hbs:e.came.length+bs.length≤600) {S:List Blk} {b c:Nat} (h:EnAt S b c e):VCall Tryz.prog 36 [eV b c e,.str bs] S fun r S'=>RTo S b c (hearM e bs) r S':=by
 have hW0:EnW N { e with came:=e.came++bs }:=hW.withCame (by rw [List.length_append]; omega)
 have hl0:({ e with came:=e.came++bs }:En).came.length < e.came.length+bs.length+1:=by simp
 have hne:=h.ne
 have hbl:=lt_of_some h.1
 have hcl:=lt_of_some h.2
 have hcame:=hW.came
 have hen0:enC (.heap b e.strs.length) (.heap c e.wait.length) { e with came:=e.came++bs }=[.bool e.ans,.rows none (e.out.map fV),.int .i64 e.outM,.rows none (e.inn.map fV),.int .i64 e.innM,.str (e.came++bs),.heap b e.strs.length,.int .i64 e.send,.int .i64 e.room,.heap c e.wait.length,.bool e.bad]:=rfl
 have h0:EnAt S b c { e with came:=e.came++bs }:=h
 have hs0:({ e with came:=e.came++bs }:En).strs=e.strs∧({ e with came:=e.came++bs }:En).wait=e.wait:=⟨rfl,rfl⟩
 rw [hearM]
 generalize hR:hearsM (e.came.length+bs.length+1) { e with came:=e.came++bs }=R
 refine VCall.en hDe Tryz.func36 Tryz.ntmps36 Tryz.results36 ?_
 simp -implicitDefEqProofs (disch:=omega) only [push_cast,simprocAttr,↓gd]
 refine ⟨by omega,?_⟩
 generalize hE:({ e with came:=e.came++bs }:En)=E at *
 rw [←hen0]
 refine wpV_loop (fun m t S1=>∃(n:Nat) (x:En) (b1 c1 M:Nat),m=x.came.length∧x.came.length < n∧x.came.length≤600∧R=hearsM n x∧EnW M x∧M+2 * x.came.length≤N+1200 ∧
  t 2=.ptr S.length 0∧t 4=.ptr (S.length+1) 0∧S1[S.length]?=some (.cells 0 (enC (.heap b1 x.strs.length) (.heap c1 x.wait.length) x))∧S1[S.length+1]?=some (.cells 0 zE)∧EnTo S b c x b1 c1 S1) E.came.length
  ⟨e.came.length+bs.length+1,E,b,c,N,rfl,hl0,by omega,hR.symm,hW0,by omega,rfl,rfl,by simp -implicitDefEqProofs (disch:=omega) only [push_cast,simprocAttr,hs0.1,hs0.2,↓gd],by simp -implicitDefEqProofs (disch:=omega) only [push_cast,simprocAttr,↓gd],EnTo.stay h0⟩ ?_
 rintro m t S1 ⟨n,x,b1,c1,M,rfl,hn,hx6,hrun,hxW,hM,h2,h4,k0,k1,hto⟩
 clear hR
 have l0:=lt_of_some k0
 have l1:=lt_of_some k1
 refine wpV_of0 hDe ?_
 obtain ⟨n,rfl⟩:∃k,n=k+1:=⟨n - 1,by omega⟩
 rw [hearsM_succ] at hrun
 have hnb:=cells_ne hto.at_.1 k0 (by decide)
 have hnc:=cells_ne hto.at_.2 k0 (by decide)
 have hnb1:=cells_ne hto.at_.1 k1 (by decide)
 have hnc1:=cells_ne hto.at_.2 k1 (by decide)
 rcases Bool.eq_false_or_eq_true x.bad with hbad | hbad
 ·rw [if_pos hbad] at hrun
  rw [hrun]
  simp -implicitDefEqProofs (disch:=omega) only [push_cast,simprocAttr,h2,h4,k0,k1,hbad,↓gd]
  exact ⟨_,_,Wk.refl _ _ _,b1,c1,by simp -implicitDefEqProofs (disch:=omega) only [push_cast,simprocAttr,hbad,↓gd],hto.set _ (by omega) hnb1 hnc1⟩
 ·rw [if_neg (by rw [hbad]; simp)] at hrun
  simp -implicitDefEqProofs (disch:=omega) only [push_cast,simprocAttr,h2,h4,k0,k1,hbad,↓gd]
  refine (l12Read_ok x.came (by omega) _).to ?_
  have hsome:=@frR_some x.came
  generalize hq:frR x.came=q at hrun hsome
  obtain ⟨f,u,is⟩:=q
  simp only at hrun hsome
  by_cases h1:is < 0
  ·rw [if_pos h1] at hrun
   rw [hrun]
   have h1':is≤0:=by omega
   simp -implicitDefEqProofs (disch:=omega) only [push_cast,simprocAttr,h2,h4,k0,k1,h1,h1',↓gd]
   have hto':EnTo S b c (badM x) b1 c1 S1:=⟨hto.at_,hto.hb,hto.hc,hto.upd⟩
   exact ⟨_,_,Wk.refl _ _ _,b1,c1,rfl,((hto'.set _ (Nat.le_refl _) hnb hnc).set _ (by omega) hnb1 hnc1).appR _⟩
  ·rw [if_neg h1] at hrun
   by_cases h0:is=0
   ·subst h0
    rw [if_pos rfl] at hrun
    rw [hrun]
    simp -implicitDefEqProofs (disch:=omega) only [push_cast,simprocAttr,h2,h4,k0,k1,hbad,↓gd]
    exact ⟨_,_,Wk.refl _ _ _,b1,c1,by simp -implicitDefEqProofs (disch:=omega) only [push_cast,simprocAttr,hbad,↓gd],(hto.set _ (by omega) hnb1 hnc1).appR _⟩
   ·rw [if_neg h0] at hrun
    have h1':¬is≤0:=by omega
    obtain ⟨r1,r2,r3,r4⟩:=hsome (by omega)
    have hx':EnW M { x with came:=x.came.drop u }:=hxW.withCame (by rw [List.length_drop]; omega)
    simp -implicitDefEqProofs (disch:=omega) only [push_cast,simprocAttr,h2,h4,k0,k1,h1,h1',List.take_length,↓gd]
    repeat refine And.intro (by omega) ?_
    have hto':EnTo S b c { x with came:=x.came.drop u } b1 c1 S1:=⟨hto.at_,hto.hb,hto.hc,hto.upd⟩
    have htoX:=fun B X=>((hto'.set B (Nat.le_refl _) hnb hnc).appR X)
    refine ((l21Frame_ok hx' (by omega) r1 (htoX _ _).at_).as rfl).mono ?_
    rintro r S2 ⟨b2,c2,rfl,hto2⟩
    have k0':=hto2.upd.get (j:=S.length) (B:=.cells 0 (enC (.heap b1 x.strs.length) (.heap c1 x.wait.length) { x with came:=x.came.drop u })) (by simp -implicitDefEqProofs (disch:=omega) only [push_cast,simprocAttr,↓gd]) (by simp; omega)
    have k1':=hto2.upd.get (j:=S.length+1) (B:=.cells 0 zE) (by simp -implicitDefEqProofs (disch:=omega) only [push_cast,simprocAttr,k1,↓gd]) (by simp; omega)
    have l0':=lt_of_some k0'
    have hEw:=frameM_w hx' r1
    have hcl:(frameM { x with came:=x.came.drop u } f).came.length=x.came.length - u:=by rw [frameM_came,List.length_drop]
    have hto3:=(htoX _ _).trans hto2
    generalize frameM { x with came:=x.came.drop u } f=y at *
    have hnb':=cells_ne hto2.at_.1 k0' (by decide)
    have hnc':=cells_ne hto2.at_.2 k0' (by decide)
    simp -implicitDefEqProofs (disch:=omega) only [push_cast,simprocAttr,h2,h4,k0',k1',↓gd]
    exact ⟨y.came.length,by omega,n,y,b2,c2,M+2,rfl,by omega,by omega,hrun,hEw,by omega,rfl,hto3.set _ (Nat.le_refl _) hnb' hnc'⟩
end
section
open Go
def endWriteM (e:En):En × List UInt8:=if endOk e=false then (en0,[]) else if e.bad then (e,[]) else writeM e
def endLeaveM (e:En) (id:Int):En × Bool:=if endOk e=false then (en0,false) else leaveM e id
def endCallM (e:En) (path text:List UInt8):En × Int × Bool:=if endOk e=false then (en0,0,false) else callM e path text
def endHearM (e:En) (b:List UInt8):En:=if endOk e=false∨b.length > 300 then en0 else hearWM e b
def wo0:Wo:=⟨en0,en0,[],[]⟩
def worldDoM (w:Wo) (v:Ev):Wo:=if woOk w=false then wo0 else doM w v
end
section
open Go
def Plain:V→Prop
 | .int _ _ | .bool _ | .str _=>True
 | _=>False
theorem Plain.vr {x:V} (h:Plain x) {G G':Gh} {w w':World} {c:Value} (hv:VR G w x c):VR G' w' x c:=by
 cases hv <;> first | exact .int _ _ | exact .bool _ | exact .str _ | exact h.elim
theorem Wk.fst {S0 S S':List Blk} {r r':V} {xs:List V} (hx:∀x ∈ xs,Plain x) (h:Wk S0 r S r' S'):Wk S0 (.tup (r :: xs)) S (.tup (r' :: xs)) S':=by
 intro G0 w0 G w c h0 hE hv hR
 cases hv with
 | @tup _ c hl hr =>
  have hsz:0 < c.size:=by rw [←hl]; simp
  obtain ⟨G',h1,h2,h3⟩:=h G0 w0 G w c[0] h0 hE (hr 0 r c[0] rfl (Array.getElem?_eq_getElem hsz)) hR
  refine ⟨G',.tup hl (fun i v u hv hu=>?_),h2,h3⟩
  cases i with
  | zero =>
   cases hv
   rw [Array.getElem?_eq_getElem hsz] at hu
   cases hu
   exact h1
  | succ i=>exact (hx v (List.mem_of_getElem? hv)).vr (hr (i+1) v u hv hu)
theorem RNew.zero {S X:List Blk}:∃r S2,Wk S (.agg zE) (S++X) r S2∧RNew S en0 r S2:=by
 obtain ⟨r,S2,h1,b',c',rfl,h2⟩:=fin_new (S:=S) (S1:=S++X) (r:=enV .nils .nils en0) (e:=en0) rfl rfl ((Upd.refl _ _).app _) rfl rfl
 have hz:Wk S (.agg zE) (S++X) (.agg [.bool false,.nils,.int .i64 0,.nils,.int .i64 0,.str [],.nils,.int .i64 0,.int .i64 0,.nils,.bool false]) (S++X):=Wk.refl _ _ _
 have he:Wk S (.agg zE) (S++X) (enV .nils .nils en0) (S++X):=by
  intro G0 w0 G w c hR0 hE hv hR
  refine ⟨G,?_,hR,hE⟩
  cases hv with
  | agg hl hr ho =>
   refine .agg hl (fun i v u hv hu=>?_) ho
   have hi:i < 11:=by
    have:=List.getElem?_eq_some_iff.1 hv
    simpa [enC,enV] using this.1
   have hz:zE[i]?=some (zE[i]'(by simpa [zE] using hi)):=List.getElem?_eq_getElem _
   have hr':=hr i _ u hz hu
   have:i=0∨i=1∨i=2∨i=3∨i=4∨i=5∨i=6∨i=7∨i=8∨i=9∨i=10:=by omega
   rcases this with rfl | rfl | rfl | rfl | rfl | rfl | rfl | rfl | rfl | rfl | rfl <;> simp only [enC,en0,List.map_nil,List.getElem?_cons_zero,List.getElem?_cons_succ,Option.some.injEq] at hv <;> subst hv <;> first | exact hr' | exact eraseC_ok hr'
 exact ⟨_,_,he.trans h1,b',c',rfl,h2⟩
theorem EnNew.set {S:List Blk} {e:En} {b c:Nat} {S':List Blk} (h:EnNew S e b c S') {j:Nat} (B:Blk) (hj:S.length≤j) (h1:b≠j) (h2:c≠j):EnNew S e b c (S'.set j B) :=
 ⟨⟨by rw [get_set_ne (Ne.symm h1)]; exact h.at_.1,by rw [get_set_ne (Ne.symm h2)]; exact h.at_.2⟩,h.hb,h.hc,h.upd.set B (.inl hj)⟩
theorem EnNew.appR {S:List Blk} {e:En} {b c:Nat} {S':List Blk} (h:EnNew S e b c S') (X:List Blk):EnNew S e b c (S'++X):=⟨h.at_.app X,h.hb,h.hc,h.upd.app X⟩
theorem endOk_w {e:En} (h:endOk e=true):EnW 60 e:=endOk_iff.1 h
end
section
open Go
def wC (b c d f:Nat) (w:Wo):List V:=enC (.heap b w.caller.strs.length) (.heap c w.caller.wait.length) w.caller++enC (.heap d w.answerer.strs.length) (.heap f w.answerer.wait.length) w.answerer++[.str w.up,.str w.down]
def wV (b c d f:Nat) (w:Wo):V:=.agg (wC b c d f w)
@[push_cast] theorem wC_eq (b c d f:Nat) (w:Wo):wC b c d f w=enC (.heap b w.caller.strs.length) (.heap c w.caller.wait.length) w.caller++enC (.heap d w.answerer.strs.length) (.heap f w.answerer.wait.length) w.answerer++[.str w.up,.str w.down]:=rfl
@[push_cast] theorem wV_eq (b c d f:Nat) (w:Wo):wV b c d f w=.agg (enC (.heap b w.caller.strs.length) (.heap c w.caller.wait.length) w.caller++enC (.heap d w.answerer.strs.length) (.heap f w.answerer.wait.length) w.answerer++[.str w.up,.str w.down]):=rfl
def zW:List V:=zE++zE++[.str [],.str []]
@[push_cast] theorem zW_eq:zW=zE++zE++[.str [],.str []]:=rfl
structure WoAt (S:List Blk) (b c d f:Nat) (w:Wo):Prop where
 caller:EnAt S b c w.caller
 answerer:EnAt S d f w.answerer
 ne1:b≠d
 ne2:c≠f
theorem WoAt.app {S:List Blk} {b c d f:Nat} {w:Wo} (h:WoAt S b c d f w) (X:List Blk):WoAt (S++X) b c d f w:=⟨h.caller.app X,h.answerer.app X,h.ne1,h.ne2⟩
theorem WoAt.nes {S:List Blk} {b c d f:Nat} {w:Wo} (h:WoAt S b c d f w):b≠c∧d≠f∧b≠f∧c≠d∧b < S.length∧c < S.length∧d < S.length∧f < S.length :=
 ⟨h.caller.ne,h.answerer.ne,cells_ne h.caller.1 h.answerer.2 (by decide),cells_ne h.caller.2 h.answerer.1 (by decide),lt_of_some h.caller.1,lt_of_some h.caller.2,lt_of_some h.answerer.1,lt_of_some h.answerer.2⟩
structure WoNew (S:List Blk) (w:Wo) (b c d f:Nat) (S':List Blk):Prop where
 at_:WoAt S' b c d f w
 hb:S.length≤b
 hc:S.length≤c
 hd:S.length≤d
 hf:S.length≤f
 upd:Upd [] S S'
structure WoTo (S:List Blk) (b c d f:Nat) (w:Wo) (b' c' d' f':Nat) (S':List Blk):Prop where
 at_:WoAt S' b' c' d' f' w
 hb:b'=b∨S.length≤b'
 hc:c'=c∨S.length≤c'
 hd:d'=d∨S.length≤d'
 hf:f'=f∨S.length≤f'
 upd:Upd [b,c,d,f] S S'
def RWNew (S:List Blk) (w:Wo) (v:V) (S':List Blk):Prop:=∃b c d f,v=wV b c d f w∧WoNew S w b c d f S'
def RWTo (S:List Blk) (b c d f:Nat) (w:Wo) (v:V) (S':List Blk):Prop:=∃b' c' d' f',v=wV b' c' d' f' w∧WoTo S b c d f w b' c' d' f' S'
theorem WoTo.stay {S X:List Blk} {b c d f:Nat} {w:Wo} (h:WoAt S b c d f w):WoTo S b c d f w b c d f (S++X):=⟨h.app _,.inl rfl,.inl rfl,.inl rfl,.inl rfl,(Upd.refl _ _).app _⟩
theorem WoTo.trans {S S1 S2:List Blk} {b c d f b1 c1 d1 f1 b2 c2 d2 f2:Nat} {w1 w2:Wo} (h:WoTo S b c d f w1 b1 c1 d1 f1 S1) (k:WoTo S1 b1 c1 d1 f1 w2 b2 c2 d2 f2 S2):WoTo S b c d f w2 b2 c2 d2 f2 S2:=by
 have hl:=h.upd.1
 have h1:=h.hb; have h2:=h.hc; have h3:=h.hd; have h4:=h.hf
 refine ⟨k.at_,?_,?_,?_,?_,h.upd.then_ k.upd fun j hj hm=>?_⟩
 ·rcases k.hb with e | e <;> omega
 ·rcases k.hc with e | e <;> omega
 ·rcases k.hd with e | e <;> omega
 ·rcases k.hf with e | e <;> omega
 ·simp only [List.mem_cons,List.not_mem_nil,or_false] at hm ⊢
  omega
theorem WoNew.to {S S1 S2:List Blk} {b1 c1 d1 f1 b2 c2 d2 f2:Nat} {w1 w2:Wo} (h:WoNew S w1 b1 c1 d1 f1 S1) (k:WoTo S1 b1 c1 d1 f1 w2 b2 c2 d2 f2 S2):WoNew S w2 b2 c2 d2 f2 S2:=by
 have hl:=h.upd.1
 have h1:=h.hb; have h2:=h.hc; have h3:=h.hd; have h4:=h.hf
 refine ⟨k.at_,?_,?_,?_,?_,h.upd.then_ k.upd fun j hj hm=>?_⟩
 ·rcases k.hb with e | e <;> omega
 ·rcases k.hc with e | e <;> omega
 ·rcases k.hd with e | e <;> omega
 ·rcases k.hf with e | e <;> omega
 ·simp only [List.mem_cons,List.not_mem_nil,or_false] at hm
  omega
theorem WoNew.app {S X:List Blk} {w:Wo} {b c d f:Nat} {S':List Blk} (h:WoNew (S++X) w b c d f S'):WoNew S w b c d f S':=by
 have h1:=h.hb; have h2:=h.hc; have h3:=h.hd; have h4:=h.hf
 rw [List.length_append] at h1 h2 h3 h4
 exact ⟨h.at_,by omega,by omega,by omega,by omega,((Upd.refl [] S).app X).then_ h.upd (fun j hj hm=>hm)⟩
theorem WoTo.app {S X:List Blk} {b c d f:Nat} {w:Wo} {b' c' d' f':Nat} {S':List Blk} (h:WoTo (S++X) b c d f w b' c' d' f' S'):WoTo S b c d f w b' c' d' f' S':=by
 have h1:=h.hb; have h2:=h.hc; have h3:=h.hd; have h4:=h.hf
 rw [List.length_append] at h1 h2 h3 h4
 exact ⟨h.at_,by omega,by omega,by omega,by omega,((Upd.refl [b,c,d,f] S).app X).then_ h.upd (fun j hj hm=>hm)⟩
theorem EnAt.set {S:List Blk} {b c:Nat} {e:En} (h:EnAt S b c e) {j:Nat} (B:Blk) (h1:b≠j) (h2:c≠j):EnAt (S.set j B) b c e:=⟨by rw [get_set_ne (Ne.symm h1)]; exact h.1,by rw [get_set_ne (Ne.symm h2)]; exact h.2⟩
theorem WoAt.var {S:List Blk} {b c d f:Nat} {w:Wo} (h:WoAt S b c d f w) {j:Nat} {cs:List V} (hj:S[j]?=some (.cells 0 cs)):b≠j∧c≠j∧d≠j∧f≠j :=
 ⟨cells_ne h.caller.1 hj (by decide),cells_ne h.caller.2 hj (by decide),cells_ne h.answerer.1 hj (by decide),cells_ne h.answerer.2 hj (by decide)⟩
theorem WoAt.set {S:List Blk} {b c d f:Nat} {w:Wo} (h:WoAt S b c d f w) {j:Nat} (B:Blk) (hj:b≠j∧c≠j∧d≠j∧f≠j):WoAt (S.set j B) b c d f w:=⟨h.caller.set B hj.1 hj.2.1,h.answerer.set B hj.2.2.1 hj.2.2.2,h.ne1,h.ne2⟩
theorem WoTo.set {S:List Blk} {b c d f:Nat} {w:Wo} {b' c' d' f':Nat} {S':List Blk} (h:WoTo S b c d f w b' c' d' f' S') {j:Nat} (B:Blk) (hj:S.length≤j) (hn:b'≠j∧c'≠j∧d'≠j∧f'≠j):WoTo S b c d f w b' c' d' f' (S'.set j B) :=
 ⟨h.at_.set B hn,h.hb,h.hc,h.hd,h.hf,h.upd.set B (.inl hj)⟩
theorem WoTo.appR {S:List Blk} {b c d f:Nat} {w:Wo} {b' c' d' f':Nat} {S':List Blk} (h:WoTo S b c d f w b' c' d' f' S') (X:List Blk):WoTo S b c d f w b' c' d' f' (S'++X):=⟨h.at_.app X,h.hb,h.hc,h.hd,h.hf,h.upd.app X⟩
theorem WoNew.set {S:List Blk} {w:Wo} {b' c' d' f':Nat} {S':List Blk} (h:WoNew S w b' c' d' f' S') {j:Nat} (B:Blk) (hj:S.length≤j) (hn:b'≠j∧c'≠j∧d'≠j∧f'≠j):WoNew S w b' c' d' f' (S'.set j B) :=
 ⟨h.at_.set B hn,h.hb,h.hc,h.hd,h.hf,h.upd.set B (.inl hj)⟩
theorem WoAt.caller_to {S:List Blk} {b c d f:Nat} {w:Wo} (h:WoAt S b c d f w) {e:En} {b' c':Nat} {S':List Blk} (k:EnTo S b c e b' c' S'):WoTo S b c d f { w with caller:=e } b' c' d f S':=by
 obtain ⟨n1,n2,n3,n4,n5,n6,n7,n8⟩:=h.nes
 have n9:=h.ne1; have n10:=h.ne2
 have h1:=k.hb; have h2:=k.hc
 refine ⟨⟨k.at_,h.answerer.upd k.upd (by simp; omega) (by simp; omega),by omega,by omega⟩,k.hb,k.hc,.inl rfl,.inl rfl,k.upd.mono (fun j hj hm=>?_)⟩
 simp only [List.mem_cons,List.not_mem_nil,or_false] at hm ⊢
 omega
theorem WoAt.answerer_to {S:List Blk} {b c d f:Nat} {w:Wo} (h:WoAt S b c d f w) {e:En} {d' f':Nat} {S':List Blk} (k:EnTo S d f e d' f' S'):WoTo S b c d f { w with answerer:=e } b c d' f' S':=by
 obtain ⟨n1,n2,n3,n4,n5,n6,n7,n8⟩:=h.nes
 have n9:=h.ne1; have n10:=h.ne2
 have h1:=k.hb; have h2:=k.hc
 refine ⟨⟨h.caller.upd k.upd (by simp; omega) (by simp; omega),k.at_,by omega,by omega⟩,.inl rfl,.inl rfl,k.hb,k.hc,k.upd.mono (fun j hj hm=>?_)⟩
 simp only [List.mem_cons,List.not_mem_nil,or_false] at hm ⊢
 omega
end
end Go.Proofs.YtldogccmhncnoaaGreatDoor
