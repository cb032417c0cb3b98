/- A part of the proof: contracts of functions, or plain facts on which these lean. -/
import Derived.Test.YtldogccmhncnoaaGreatDoorMh16
import Derived.Test.YtldogccmhncnoaaGreatDoorMh17
import Derived.Test.YtldogccmhncnoaaGreatDoorMh20
namespace Go.Proofs.YtldogccmhncnoaaGreatDoor
open Go
set_option linter.unusedVariables false
set_option linter.unusedSimpArgs false
set_option maxRecDepth 100000
set_option maxHeartbeats 16000000

section
open Go
theorem st_fin {S X:List Blk} {b c k:Nat} {ans bad:Bool} {out inn:List Fd} {outM innM snd rm:Int} {came:List UInt8} {strs:List St} {wait:List Fr} (s':St) {E:En}
  (hb:S[b]?=some (.cells 12 (strsC strs))) (hc:S[c]?=some (.cells 4 (frmsC wait))) (hne:b≠c) (hk:k < strs.length) (hE:E=⟨ans,out,outM,inn,innM,came,strs.set k s',snd,rm,wait,bad⟩) :
  ∃r S2,Wk S (.agg [.bool ans,.rows none (out.map fV),.int .i64 outM,.rows none (inn.map fV),.int .i64 innM,.str came,.heap b strs.length,.int .i64 snd,.int .i64 rm,.heap c wait.length,.bool bad])
   (S.set b (.cells 12 (splice (strsC strs) (k * 12) (strC s')))++X) r S2∧RTo S b c E r S2:=by
 subst hE
 have hbl:=lt_of_some hb
 have hcl:=lt_of_some hc
 refine ⟨_,_,Wk.refl _ _ _,RTo.mk b c (by simp [eV,enV,enC]) ?_ ?_ (.inl rfl) (.inl rfl) (((Upd.refl _ _).set _ (.inr (by simp))).app _)⟩
 ·rw [strsC_set s' hk]
  simp -implicitDefEqProofs (maxSteps:=1000000) (disch:=omega) only [push_cast,simprocAttr,↓gd]
 ·simp -implicitDefEqProofs (maxSteps:=1000000) (disch:=omega) only [push_cast,simprocAttr,hc,↓gd]
theorem st_fin2 {S:List Blk} {b c k:Nat} {ans bad:Bool} {out inn:List Fd} {outM innM snd rm:Int} {came:List UInt8} {strs:List St} {wait:List Fr} (s':St) (more:List Fr) {E:En} {B0 B1 B2 B3 B4:Blk}
  (hb:S[b]?=some (.cells 12 (strsC strs))) (hc:S[c]?=some (.cells 4 (frmsC wait))) (hne:b≠c) (hk:k < strs.length) (hE:E=⟨ans,out,outM,inn,innM,came,strs.set k s',snd,rm,wait++more,bad⟩) :
  ∃r S2,Wk S (.agg [.bool ans,.rows none (out.map fV),.int .i64 outM,.rows none (inn.map fV),.int .i64 innM,.str came,.heap b strs.length,.int .i64 snd,.int .i64 rm,.heap (S.length+5) (wait.length+more.length),.bool bad])
   ((S.set c .dead).set b (.cells 12 (splice (strsC strs) (k * 12) (strC s')))++[B0,B1,B2,B3,B4,.cells 4 (frmsC wait++frmsC more)]) r S2∧RTo S b c E r S2:=by
 subst hE
 have hbl:=lt_of_some hb
 have hcl:=lt_of_some hc
 refine ⟨_,_,Wk.refl _ _ _,RTo.mk b (S.length+5) (by simp [eV,enV,enC]) ?_ ?_ (.inl rfl) (.inr (by omega)) ((((Upd.refl _ _).set _ (.inr (by simp))).set _ (.inr (by simp))).app _)⟩
 ·rw [strsC_set s' hk]
  simp -implicitDefEqProofs (maxSteps:=1000000) (disch:=omega) only [push_cast,simprocAttr,↓gd]
 ·simp -implicitDefEqProofs (maxSteps:=1000000) (disch:=omega) only [push_cast,simprocAttr,↓gd]
  rw [frmsC_app]
theorem l21More_ok {N:Nat} {e:En} (hW:EnW N e) (hN:N≤1100000) {f:Fr} (hf:frameOk f=true) (hk8:f.kind=8) {S:List Blk} {b c:Nat} (h:EnAt S b c e):VCall Tryz.prog 118 [eV b c e,frV f] S fun r S'=>RTo S b c (moreM e f) r S':=by
 have he:=hW.b hN
 have hfl:=hW.flows
 have hsts:=hW.sts
 obtain ⟨ans,out,outM,inn,innM,came,strs,snd,rm,wait,bad⟩:=e
 simp only at hfl hsts
 have hne:=h.ne
 have hb:S[b]?=some (.cells 12 (strsC strs)):=h.1
 have hc:S[c]?=some (.cells 4 (frmsC wait)):=h.2
 have hbl:=lt_of_some hb
 have hcl:=lt_of_some hc
 have hlen:=strsC_len strs
 have hm8:=frameOk_more hf hk8
 obtain ⟨fk,fl,fs,fb⟩:=f
 obtain ⟨x,rfl,hx1,hx2,rfl⟩:∃x:UInt8,fb=[x]∧1≤x.toNat∧x.toNat≤31∧fl=false:=hm8
 simp only at hk8
 subst hk8
 have hx0:([x]:List UInt8).getD 0 0=x:=rfl
 refine VCall.en hDe Tryz.func118 Tryz.ntmps118 Tryz.results118 ?_
 by_cases hs0:fs=0
 ·subst hs0
  have hm:moreM ⟨ans,out,outM,inn,innM,came,strs,snd,rm,wait,bad⟩ ⟨8,false,0,[x]⟩=⟨ans,out,outM,inn,innM,came,strs,min (snd+x.toNat) 31,rm,wait,bad || decide (snd+x.toNat > 31)⟩:=by simp [moreM,byteAt]
  rw [hm]
  cases bad
  ·simp -implicitDefEqProofs (maxSteps:=1000000) (disch:=omega) only [push_cast,simprocAttr,min31,hx0,↓gd]
   exact ⟨_,_,Wk.refl _ _ _,.stay (e:=⟨ans,out,outM,inn,innM,came,strs,min (snd+x.toNat) 31,rm,wait,false || decide (snd+x.toNat > 31)⟩) h⟩
  ·simp -implicitDefEqProofs (maxSteps:=1000000) (disch:=omega) only [push_cast,simprocAttr,min31,hx0,↓gd]
   exact ⟨_,_,Wk.refl _ _ _,.stay (e:=⟨ans,out,outM,inn,innM,came,strs,min (snd+x.toNat) 31,rm,wait,true || decide (snd+x.toNat > 31)⟩) h⟩
 ·simp -implicitDefEqProofs (maxSteps:=1000000) (disch:=omega) only [push_cast,simprocAttr,hs0,hx0,↓gd]
  refine ((l21At_ok he ((h.app _)) fs).as rfl).to ?_
  cases ha:atM strs fs with
  | none =>
   have hai:atI strs fs=-1:=by rw [atI,ha]
   have hm:moreM ⟨ans,out,outM,inn,innM,came,strs,snd,rm,wait,bad⟩ ⟨8,false,fs,[x]⟩=⟨ans,out,outM,inn,innM,came,strs,snd,rm,wait,true⟩:=by rw [moreM]; simp only [ha,hs0,badM]; simp
   rw [hm]
   simp -implicitDefEqProofs (maxSteps:=1000000) (disch:=omega) only [push_cast,simprocAttr,hai,↓gd]
   exact ⟨_,_,Wk.refl _ _ _,.stay (e:=⟨ans,out,outM,inn,innM,came,strs,snd,rm,wait,true⟩) h⟩
  | some k =>
   obtain ⟨hk,hid⟩:=atM_some ha
   have hai:atI strs fs=k:=by rw [atI,ha]
   have hk0:¬(k:Int) < 0:=by omega
   have hsf:=stOk_flow (stsOk_at hsts hk)
   have hat:=strsC_at hk
   have hm:moreM ⟨ans,out,outM,inn,innM,came,strs,snd,rm,wait,bad⟩ ⟨8,false,fs,[x]⟩=⟨ans,out,outM,inn,innM,came,strs.set k { strs.getD k st0 with send:=min ((strs.getD k st0).send+x.toNat) 31 },snd,rm,wait,bad || decide ((strs.getD k st0).send+x.toNat > 31)⟩:=by
    rw [moreM]; simp only [ha,hs0,stAt,setSt]; simp [byteAt]
   rw [hm]
   clear hm hid
   generalize strs.getD k st0=s at hat hsf
   obtain ⟨sid,sst,shd,ssay,sbg,ssd,ssent,sgot,stx,shrd,ssnd,srm⟩:=s
   simp only at hsf
   cases bad
   ·simp -implicitDefEqProofs (maxSteps:=1000000) (disch:=omega) only [push_cast,simprocAttr,hai,hk0,hb,hat,min31,↓gd]
    repeat refine And.intro (by omega) ?_
    exact st_fin ⟨sid,sst,shd,ssay,sbg,ssd,ssent,sgot,stx,shrd,min (ssnd+x.toNat) 31,srm⟩ hb hc hne hk rfl
   ·simp -implicitDefEqProofs (maxSteps:=1000000) (disch:=omega) only [push_cast,simprocAttr,hai,hk0,hb,hat,min31,↓gd]
    repeat refine And.intro (by omega) ?_
    exact st_fin ⟨sid,sst,shd,ssay,sbg,ssd,ssent,sgot,stx,shrd,min (ssnd+x.toNat) 31,srm⟩ hb hc hne hk rfl
theorem l21Data_ok {N:Nat} {e:En} (hW:EnW N e) (hN:N≤1100000) {f:Fr} (hf:frameOk f=true) (hk0:f.kind=0) {S:List Blk} {b c:Nat} (h:EnAt S b c e):VCall Tryz.prog 117 [eV b c e,frV f] S fun r S'=>RTo S b c (dataM e f) r S':=by
 have he:=hW.b hN
 have hfl:=hW.flows
 have hsts:=hW.sts
 have hwn:=hW.len
 have hfb:=(frameOk_nat hf).2.2
 obtain ⟨ans,out,outM,inn,innM,came,strs,snd,rm,wait,bad⟩:=e
 simp only at hfl hsts hwn
 have hne:=h.ne
 have hb:S[b]?=some (.cells 12 (strsC strs)):=h.1
 have hc:S[c]?=some (.cells 4 (frmsC wait)):=h.2
 have hbl:=lt_of_some hb
 have hcl:=lt_of_some hc
 have hlen:=strsC_len strs
 have hlw:=frmsC_len wait
 obtain ⟨fk,fl,fs,fb⟩:=f
 simp only at hk0 hfb
 subst hk0
 have sbad:∀X,RTo S b c ⟨ans,out,outM,inn,innM,came,strs,snd,rm,wait,true⟩ (eV b c ⟨ans,out,outM,inn,innM,came,strs,snd,rm,wait,true⟩) (S++X):=fun X=>.stay (e:=⟨ans,out,outM,inn,innM,came,strs,snd,rm,wait,true⟩) h
 refine VCall.ex hDe (fun _=>false) (fun id=>if id=3 then [48,48,48,48,48,48,48,48,48,48,48,48,48,48,48,48,48,48,48,48,48,48,48,48,48,48,48,48,48,48,48,48,48,48,48,48,48,48,48,48,48,48,48,48,48,48,48,48,51,51,51] else if id=11 then [11,11,3,8,10,10,10,8,10,10,11,13,13,14] else []) Tryz.func117 Tryz.ntmps117 Tryz.results117 ?_
 simp -implicitDefEqProofs (maxSteps:=1000000) (disch:=omega) only [push_cast,simprocAttr,↓gd]
 refine ((l21At_ok he ((h.app _)) fs).as rfl).to ?_
 cases ha:atM strs fs with
 | none =>
  have hai:atI strs fs=-1:=by rw [atI,ha]
  have hm:dataM ⟨ans,out,outM,inn,innM,came,strs,snd,rm,wait,bad⟩ ⟨0,fl,fs,fb⟩=⟨ans,out,outM,inn,innM,came,strs,snd,rm,wait,true⟩:=by rw [dataM]; simp only [ha,badM]
  rw [hm]
  simp -implicitDefEqProofs (maxSteps:=1000000) (disch:=omega) only [push_cast,simprocAttr,hai,↓gd]
  exact ⟨_,_,Wk.refl _ _ _,sbad _⟩
 | some k =>
  obtain ⟨hk,hid⟩:=atM_some ha
  have hai:atI strs fs=k:=by rw [atI,ha]
  have hk0:¬(k:Int) < 0:=by omega
  have hso:=stsOk_at hsts hk
  have hsf:=stOk_flow hso
  obtain ⟨a1,a2,a3,a4,a5,a6,a7,a8⟩:=stOk_iff.1 hso
  have hat:=strsC_at hk
  have g9:=strsC_get hk (c:=9) (by decide)
  have g7:=strsC_get hk (c:=7) (by decide)
  have g11:=strsC_get hk (c:=11) (by decide)
  have g8:=strsC_get hk (c:=8) (by decide)
  have hm:∀s,strs.getD k st0=s→dataM ⟨ans,out,outM,inn,innM,came,strs,snd,rm,wait,bad⟩ ⟨0,fl,fs,fb⟩=if s.heard=true∨s.got=[]∨(fb.length:Int) > rm∨(fb.length:Int) > s.room∨wordOk (s.text++fb)=false then ⟨ans,out,outM,inn,innM,came,strs,snd,rm,wait,true⟩ else
    ⟨ans,out,outM,inn,innM,came,strs.set k (if fl then doneM ans { s with text:=s.text++fb,room:=s.room - fb.length } else { s with text:=s.text++fb,room:=s.room - fb.length }),snd,rm - fb.length,
     if fb=[] then wait else wait++[⟨8,false,0,[by8 fb.length]⟩,⟨8,false,s.id,[by8 fb.length]⟩],bad⟩:=fun s hs=>by
   subst hs; rw [dataM]; simp only [ha,badM,stAt,setSt]; rfl
  generalize hs:strs.getD k st0=s at hat hso hsf a1 a2 a3 a4 a5 a6 a7 a8 g9 g7 g11 g8
  rw [hm s hs]
  clear hm hs
  obtain ⟨sid,sst,shd,ssay,sbg,ssd,ssent,sgot,stx,shrd,ssnd,srm⟩:=s
  simp only at hsf a1 a2 a3 a4 a5 a6 a7 a8
  cases shrd
  ·by_cases h2:sgot=[]
   ·subst h2
    rw [if_pos (by simp)]
    simp -implicitDefEqProofs (maxSteps:=1000000) (disch:=omega) only [push_cast,simprocAttr,hai,hk0,hb,g9,g7,↓gd]
    repeat refine And.intro (by omega) ?_
    exact ⟨_,_,Wk.refl _ _ _,sbad _⟩
   ·have h2':¬(sgot.length:Int)=0:=by
     have:=List.length_pos_iff.2 h2
     omega
    by_cases h3:(fb.length:Int) > rm
    ·rw [if_pos (by simp [h3])]
     simp -implicitDefEqProofs (maxSteps:=1000000) (disch:=omega) only [push_cast,simprocAttr,hai,hk0,hb,g9,g7,h2',h3,↓gd]
     repeat refine And.intro (by omega) ?_
     exact ⟨_,_,Wk.refl _ _ _,sbad _⟩
    ·by_cases h4:(fb.length:Int) > srm
     ·rw [if_pos (by simp [h4])]
      simp -implicitDefEqProofs (maxSteps:=1000000) (disch:=omega) only [push_cast,simprocAttr,hai,hk0,hb,g9,g7,g11,h2',h3,h4,↓gd]
      repeat refine And.intro (by omega) ?_
      exact ⟨_,_,Wk.refl _ _ _,sbad _⟩
     ·simp -implicitDefEqProofs (maxSteps:=1000000) (disch:=omega) only [push_cast,simprocAttr,hai,hk0,hb,g9,g7,g11,g8,h2',h3,h4,↓gd]
      have hwl:=(wordOk_iff.1 a6).2
      repeat refine And.intro (by omega) ?_
      refine ((sWordOk_ok (stx++fb) (by rw [List.length_append]; omega) _).as rfl).to ?_
      cases hw:wordOk (stx++fb)
      ·rw [if_pos (by simp [hw])]
       simp -implicitDefEqProofs (maxSteps:=1000000) (disch:=omega) only [push_cast,simprocAttr,hai,hk0,hb,g9,g7,g11,g8,h2',h3,h4,↓gd]
       exact ⟨_,_,Wk.refl _ _ _,sbad _⟩
      ·rw [if_neg (fun q=>by rcases q with q | q | q | q | q <;> first | cases q; done | exact h2 q | omega | (rw [hw] at q; cases q))]
       have hwl2:=(wordOk_iff.1 hw).2
       by_cases hfb0:fb=[]
       ·have hfb1:¬(fb.length:Int) > 0:=by rw [hfb0]; simp
        rw [if_pos hfb0]
        cases fl
        ·simp -implicitDefEqProofs (maxSteps:=1000000) (disch:=omega) only [push_cast,simprocAttr,hai,hk0,hb,hc,hat,hfb1,↓gd]
         repeat refine And.intro (by omega) ?_
         exact st_fin ⟨sid,sst,shd,ssay,sbg,ssd,ssent,sgot,stx++fb,false,ssnd,srm - fb.length⟩ hb hc hne hk (by simp)
        ·simp -implicitDefEqProofs (maxSteps:=1000000) (disch:=omega) only [push_cast,simprocAttr,hai,hk0,hb,hc,hat,hfb1,↓gd]
         repeat refine And.intro (by omega) ?_
         rw [List.length_append] at hwl2
         refine ((l21Done_ok (v:=.heap b strs.length) (w:=.heap c wait.length) ⟨ans,out,outM,inn,innM,came,strs,snd,rm - fb.length,wait,bad⟩ ⟨sid,sst,shd,ssay,sbg,ssd,ssent,sgot,stx++fb,false,ssnd,srm - fb.length⟩ a4 (show (stx++fb).length < 100 by rw [List.length_append]; omega) rfl rfl _).as (by simp [enV,enC,stV,strC])).to ?_
         generalize hdn:doneM ans ⟨sid,sst,shd,ssay,sbg,ssd,ssent,sgot,stx++fb,false,ssnd,srm - fb.length⟩=s'
         simp -implicitDefEqProofs (maxSteps:=1000000) (disch:=omega) only [push_cast,simprocAttr,hai,hk0,hb,hc,hat,hfb1,↓gd]
         repeat refine And.intro (by omega) ?_
         exact st_fin s' hb hc hne hk (by simp [hdn])
       ·have hfb1:(fb.length:Int) > 0:=by
         have:=List.length_pos_iff.2 hfb0
         omega
        rw [if_neg hfb0]
        simp -implicitDefEqProofs (maxSteps:=1000000) (disch:=omega) only [push_cast,simprocAttr,hai,hk0,hb,hc,hat,hfb1,↓gd]
        repeat refine And.intro (by omega) ?_
        refine (l1Byte_ok fb.length _).to ?_
        simp -implicitDefEqProofs (maxSteps:=1000000) (disch:=omega) only [push_cast,simprocAttr,hai,hk0,hb,hc,hat,hfb1,↓gd]
        refine (l1Byte_ok fb.length _).to ?_
        cases fl
        ·simp -implicitDefEqProofs (maxSteps:=1000000) (disch:=omega) only [push_cast,simprocAttr,hai,hk0,hb,hc,hat,hfb1,↓gd]
         repeat refine And.intro (by omega) ?_
         exact st_fin2 ⟨sid,sst,shd,ssay,sbg,ssd,ssent,sgot,stx++fb,false,ssnd,srm - fb.length⟩ [⟨8,false,0,[by8 fb.length]⟩,⟨8,false,sid,[by8 fb.length]⟩] hb hc hne hk (by simp)
        ·simp -implicitDefEqProofs (maxSteps:=1000000) (disch:=omega) only [push_cast,simprocAttr,hai,hk0,hb,hc,hat,hfb1,↓gd]
         repeat refine And.intro (by omega) ?_
         rw [List.length_append] at hwl2
         refine ((l21Done_ok (v:=.heap b strs.length) (w:=.heap (S.length+5) (wait.length+2)) ⟨ans,out,outM,inn,innM,came,strs,snd,rm - fb.length,wait,bad⟩ ⟨sid,sst,shd,ssay,sbg,ssd,ssent,sgot,stx++fb,false,ssnd,srm - fb.length⟩ a4 (show (stx++fb).length < 100 by rw [List.length_append]; omega) rfl rfl _).as (by simp [enV,enC,stV,strC])).to ?_
         generalize hdn:doneM ans ⟨sid,sst,shd,ssay,sbg,ssd,ssent,sgot,stx++fb,false,ssnd,srm - fb.length⟩=s'
         simp -implicitDefEqProofs (maxSteps:=1000000) (disch:=omega) only [push_cast,simprocAttr,hai,hk0,hb,hc,hat,hfb1,↓gd]
         repeat refine And.intro (by omega) ?_
         exact st_fin2 s' [⟨8,false,0,[by8 fb.length]⟩,⟨8,false,sid,[by8 fb.length]⟩] hb hc hne hk (by simp [hdn])
  ·rw [if_pos (by simp)]
   simp -implicitDefEqProofs (maxSteps:=1000000) (disch:=omega) only [push_cast,simprocAttr,hai,hk0,hb,g9,↓gd]
   repeat refine And.intro (by omega) ?_
   exact ⟨_,_,Wk.refl _ _ _,sbad _⟩
end
section
open Go
theorem tailR_zero:∀(K:Nat) (r:List UInt8) (k:Nat),tailR K r=some (0,k)→(r.getD (k - 1) 0).toNat=0
 | 0,r,k,h=>by simp [tailR] at h
 | K+1,[],k,h=>by simp [tailR] at h
 | K+1,c :: r,k,h=>by
  rw [tailR] at h
  split at h
  ·simp only [Option.some.injEq,Prod.mk.injEq] at h
   obtain ⟨h1,rfl⟩:=h
   simpa using h1
  ·split at h
   ·rename_i v' k' h'
    simp only [Option.some.injEq,Prod.mk.injEq] at h
    obtain ⟨h1,rfl⟩:=h
    have hv:v'=0:=by omega
    subst hv
    have hb:=tailR_bound K r 0 k' h'
    have ih:=tailR_zero K r k' h'
    obtain ⟨j,rfl⟩:∃j,k'=j+1:=⟨k' - 1,by omega⟩
    simpa using ih
   ·cases h
theorem tailR_canon:∀(K:Nat) (r:List UInt8) (v k:Nat),tailR K r=some (v,k)→(numTail v=r.take k↔(k=1∨(r.getD (k - 1) 0).toNat≠0))
 | 0,r,v,k,h=>by simp [tailR] at h
 | K+1,[],v,k,h=>by simp [tailR] at h
 | K+1,c :: r,v,k,h=>by
  have hc:=c.toNat_lt
  rw [tailR] at h
  split at h
  ·rename_i h128
   simp only [Option.some.injEq,Prod.mk.injEq] at h
   obtain ⟨rfl,rfl⟩:=h
   refine ⟨fun _=>.inl rfl,fun _=>?_⟩
   rw [numTail_lt h128]
   simp [by8]
  ·rename_i h128
   split at h
   ·rename_i v' k' h'
    simp only [Option.some.injEq,Prod.mk.injEq] at h
    obtain ⟨rfl,rfl⟩:=h
    obtain ⟨b1,b2,b3,b4⟩:=tailR_bound K r v' k' h'
    have ih:=tailR_canon K r v' k' h'
    obtain ⟨j,rfl⟩:∃j,k'=j+1:=⟨k' - 1,by omega⟩
    have hgd:(c :: r).getD (j+1+1 - 1) 0=r.getD (j+1 - 1) 0:=rfl
    rw [hgd]
    by_cases hv:v'=0
    ·subst hv
     have hz:=tailR_zero K r _ h'
     refine ⟨fun e=>?_,fun e=>?_⟩
     ·exfalso
      have:=congrArg List.length e
      rw [numTail_lt (by omega),List.length_singleton,List.length_take,List.length_cons] at this
      omega
     ·rcases e with e | e
      ·omega
      ·exact absurd hz e
    ·have e1:numTail (c.toNat % 128+128 * v')=c :: numTail v':=by
      rw [numTail_ge (by omega),show (c.toNat % 128+128 * v') % 128+128=c.toNat by omega,show (c.toNat % 128+128 * v') / 128=v' by omega]
      simp [by8]
     rw [e1,List.take_succ_cons]
     refine ⟨fun e=>.inr ?_,fun e=>?_⟩
     ·have e2:=ih.1 (List.cons.inj e).2
      rcases e2 with e2 | e2
      ·have:j=0:=by omega
       subst this
       obtain ⟨K',rfl⟩:∃m,K=m+1:=⟨K - 1,by omega⟩
       cases r with
       | nil=>simp [tailR] at h'
       | cons d r =>
        rw [tailR] at h'
        split at h'
        ·simp only [Option.some.injEq,Prod.mk.injEq] at h'
         simpa using (by omega:d.toNat≠0)
        ·split at h'
         ·rename_i v2 k2 h2
          have:=tailR_bound K' r v2 k2 h2
          simp only [Option.some.injEq,Prod.mk.injEq] at h'
          omega
         ·cases h'
      ·exact e2
     ·rcases e with e | e
      ·omega
      ·rw [ih.2 (.inr e)]
   ·cases h
theorem l1Read_ok (b:List UInt8) (bits:Nat) (hb:3≤bits∧bits≤7) (hl:b.length≤1000000000) (S:List Blk) :
  VCall Tryz.prog 173 [.str b,.int .i64 bits] S fun r S'=>r=nrV (numR b bits)∧S'=S:=by
 cases b with
 | nil =>
  refine VCall.en hD Tryz.func173 Tryz.ntmps173 Tryz.results173 ?_
  simp -implicitDefEqProofs (disch:=omega) only [push_cast,simprocAttr,↓gd]
  exact fin0 rfl
 | cons c r =>
  obtain ⟨p,hp⟩:∃p,p=2 ^ bits:=⟨_,rfl⟩
  have hp2:p≤2 ^ 7:=by rw [hp]; exact Nat.pow_le_pow_right (by omega) (by omega)
  have hp1:2≤p:=by rw [hp,show bits=(bits - 1)+1 by omega,Nat.pow_succ]; have:=Nat.one_le_two_pow (n:=bits - 1); omega
  have hc:=c.toNat_lt
  have hw:IntKind.i64.wrap (c.toNat:Int)=c.toNat:=i64_fit _ (by omega)
  obtain ⟨m,hm⟩:∃m,m=c.toNat % p:=⟨_,rfl⟩
  have hmp:m < p:=by rw [hm]; exact Nat.mod_lt _ (by omega)
  have htm:Int.tmod (c.toNat:Int) ((p:Int) - 1+1)=m:=by rw [show (p:Int) - 1+1=p by omega,hm]; exact tmod_nat _ _
  have hp0:¬((p:Int) - 1+1=0):=by omega
  have h0:(c :: r).getD 0 0=c:=rfl
  have hne:(c :: r=[])=False:=by simp
  have hl':r.length≤1000000000:=by simp at hl; omega
  refine VCall.en hD Tryz.func173 Tryz.ntmps173 Tryz.results173 ?_
  simp -implicitDefEqProofs (disch:=omega) only [push_cast,simprocAttr,hne,h0,↓gd]
  refine ((l1Top_ok bits (by omega) _).as (by simp)).to ?_
  rw [←hp]
  simp -implicitDefEqProofs (disch:=omega) only [push_cast,simprocAttr,hne,h0,hw,htm,hp0,↓gd]
  refine ⟨by omega,fun hmt=>fin0 ?_,fun hmt=>?_⟩
  ·rw [numR,←hp,←hm,if_pos (by omega)]
   rfl
  have hnr:∀v k:Nat,tailR 3 r=some (v,k)→numR (c :: r) bits=if p - 1+v≤9999∧numTail v=r.take k then some (p - 1+v,k+1) else none:=by
   intro v k ht
   rw [numR,←hp,←hm,if_neg (by omega),ht]
  have hnn:tailR 3 r=none→numR (c :: r) bits=none:=by
   intro ht
   rw [numR,←hp,←hm,if_neg (by omega),ht]
  refine wpV_loop (fun x t S'=>∃k z w q acc:Nat,x=3 - k∧k≤3∧k≤r.length∧z=1+k∧q=128 ^ k∧w=p - 1+acc∧acc < q∧tailR 3 r=(tailR (3 - k) (r.drop k)).map (fun y=>(acc+q * y.1,k+y.2))∧t 0=.str (c :: r)∧t 8=.int .i64 w∧t 9=.int .i64 q∧t 10=.int .i64 z∧S'=S) 3
   ⟨0,1,p - 1,1,0,rfl,by omega,by omega,rfl,rfl,rfl,by omega,by simp,rfl,?_,rfl,rfl,rfl⟩ ?_
  ·simp only [putT]
   simp
   omega
  rintro x t S' ⟨k,z,w,q,acc,rfl,hk3,hkr,hz,hq,hw',hacc,htr,h0',h8,h9,h10,rfl⟩
  have hq3:q≤2097152:=by rw [hq]; exact Nat.pow_le_pow_right (by decide) hk3
  refine wpV_of0 hD ?_
  by_cases hlast:k=r.length
  ·have htn:tailR 3 r=none:=by
    rw [htr,hlast,List.drop_length]
    cases hx:3 - r.length <;> rfl
   have hz':¬(z:Int) < (r.length:Int)+1:=by omega
   simp -implicitDefEqProofs (disch:=omega) only [push_cast,simprocAttr,h0',h8,h9,h10,hz',↓gd]
   exact fin0 (by rw [hnn htn]; rfl)
  have hz':(z:Int) < (r.length:Int)+1:=by omega
  by_cases h3:k=3
  ·have htn:tailR 3 r=none:=by rw [htr,h3]; rfl
   have hs':¬(z:Int)≤3:=by omega
   simp -implicitDefEqProofs (disch:=omega) only [push_cast,simprocAttr,h0',h8,h9,h10,hz',hs',↓gd]
   exact fin0 (by rw [hnn htn]; rfl)
  have hs':(z:Int)≤3:=by omega
  obtain ⟨d,hd⟩:∃d,d=r.getD k 0:=⟨_,rfl⟩
  have hzd:(c :: r).getD z 0=d:=by rw [hz,Nat.add_comm,hd]; rfl
  have hz0:(0:Int)≤z:=by omega
  have hdl:=d.toNat_lt
  have hdw:IntKind.i64.wrap (d.toNat:Int)=d.toNat:=i64_fit _ (by omega)
  obtain ⟨u,hu⟩:∃u,u=d.toNat % 128:=⟨_,rfl⟩
  have hda:Int.tmod (d.toNat:Int) 128=u:=by rw [hu]; exact tmod_nat _ 128
  have hq2:q≤16384:=by rw [hq]; exact Nat.pow_le_pow_right (by decide) (by omega:k≤2)
  obtain ⟨g,hg⟩:∃g,g=u * q:=⟨_,rfl⟩
  have hug:(q:Int) * (u:Int)=g:=by rw [hg,Nat.mul_comm]; simp
  have hgb:g≤127 * 16384:=by rw [hg]; exact Nat.mul_le_mul (by omega) hq2
  have hrd:r.drop k=d :: r.drop (k+1):=by
   rw [List.drop_eq_getElem_cons (by omega),hd,List.getD,List.getElem?_eq_getElem (by omega)]; rfl
  have htd:tailR (3 - k) (r.drop k)=if d.toNat < 128 then some (d.toNat,1) else (tailR (3 - (k+1)) (r.drop (k+1))).map (fun y=>(u+128 * y.1,y.2+1)):=by
   rw [hrd,show 3 - k=(3 - (k+1))+1 by omega,tailR]
   split
   ·rfl
   ·rw [hu]
    cases tailR (3 - (k+1)) (r.drop (k+1)) <;> rfl
  by_cases hd128:d.toNat < 128
  ·have hd128':(d.toNat:Int) < 128:=by omega
   have hud:u=d.toNat:=by omega
   obtain ⟨v,hv⟩:∃v,v=acc+g:=⟨_,rfl⟩
   have ht3:tailR 3 r=some (v,k+1):=by
    rw [htr,htd,if_pos (by omega),Option.map_some,hv,hg,hud,Nat.mul_comm q]
   have hnr2:=hnr v (k+1) ht3
   have hcan:=tailR_canon 3 r v (k+1) ht3
   rw [Nat.add_sub_cancel,←hd] at hcan
   by_cases hbad:d.toNat=0∧z > 1
   ·have hb1:(d.toNat:Int)=0:=by omega
    have hb2:(z:Int) > 1:=by omega
    have:¬numTail v=r.take (k+1):=fun e=>by rcases hcan.1 e with h | h <;> omega
    rw [if_neg (fun h=>this h.2)] at hnr2
    simp -implicitDefEqProofs (disch:=omega) only [push_cast,simprocAttr,h0',h8,h9,h10,hz',hs',hz0,hzd,hdw,hda,hug,hd128',hb1,hb2,↓gd]
    exact fin0 (by rw [hnr2]; rfl)
   ·have hcan2:numTail v=r.take (k+1):=hcan.2 (by omega)
    by_cases g9:p - 1+v≤9999
    ·rw [if_pos ⟨g9,hcan2⟩] at hnr2
     have h9999:¬((w:Int)+g > 9999):=by omega
     by_cases hdz:d.toNat=0
     ·have hb1:((d.toNat:Int)=0)=True:=eq_true (by omega)
      have hb2:¬(z:Int) > 1:=by omega
      simp -implicitDefEqProofs (disch:=omega) only [push_cast,simprocAttr,h0',h8,h9,h10,hz',hs',hz0,hzd,hdw,hda,hug,hd128',hb1,hb2,h9999,↓gd]
      refine fin0 ?_
      rw [hnr2,nrV]
      congr 3
      ·omega
      ·congr 2; omega
     ·have hb1:¬(d.toNat:Int)=0:=by omega
      simp -implicitDefEqProofs (disch:=omega) only [push_cast,simprocAttr,h0',h8,h9,h10,hz',hs',hz0,hzd,hdw,hda,hug,hd128',hb1,h9999,↓gd]
      refine fin0 ?_
      rw [hnr2,nrV]
      congr 3
      ·omega
      ·congr 2; omega
    ·rw [if_neg (fun h=>g9 h.1)] at hnr2
     have h9999:((w:Int)+g > 9999):=by omega
     by_cases hdz:d.toNat=0
     ·have hb1:((d.toNat:Int)=0)=True:=eq_true (by omega)
      have hb2:¬(z:Int) > 1:=by omega
      simp -implicitDefEqProofs (disch:=omega) only [push_cast,simprocAttr,h0',h8,h9,h10,hz',hs',hz0,hzd,hdw,hda,hug,hd128',hb1,hb2,h9999,↓gd]
      exact fin0 (by rw [hnr2]; rfl)
     ·have hb1:¬(d.toNat:Int)=0:=by omega
      simp -implicitDefEqProofs (disch:=omega) only [push_cast,simprocAttr,h0',h8,h9,h10,hz',hs',hz0,hzd,hdw,hda,hug,hd128',hb1,h9999,↓gd]
      exact fin0 (by rw [hnr2]; rfl)
  ·have hd128':¬(d.toNat:Int) < 128:=by omega
   simp -implicitDefEqProofs (disch:=omega) only [push_cast,simprocAttr,h0',h8,h9,h10,hz',hs',hz0,hzd,hdw,hda,hug,hd128',↓gd]
   have hgq:g≤127 * q:=by rw [hg]; exact Nat.mul_le_mul_right _ (by omega)
   refine ⟨3 - (k+1),by omega,k+1,z+1,w+g,q * 128,acc+g,rfl,by omega,by omega,by omega,by rw [hq,Nat.pow_succ],by omega,by omega,?_,by simp,by simp; omega,by simp⟩
   rw [htr,htd,if_neg (by omega),Option.map_map]
   congr 1
   funext y
   simp only [Function.comp_apply,Prod.mk.injEq]
   refine ⟨?_,by omega⟩
   rw [Nat.mul_add,hg,Nat.mul_comm u q,Nat.mul_assoc]
   omega
end
section
open Go
theorem l2Unpack_ok (b:List UInt8) (hb:b.length≤16) (S:List Blk):VCall Tryz.prog 219 [.str b] S fun r S'=>r=.tup [.str (unO b),.bool (unOk b)]∧S'=S:=by
 have hL:=bitsB_len b
 obtain ⟨L,hLd⟩:∃L,L=bitsB b:=⟨_,rfl⟩
 have hLle:∀x ∈ L,x≤1:=by rw [hLd]; exact bitsB_le b
 rw [←hLd] at hL
 refine VCall.en hD Tryz.func219 Tryz.ntmps219 Tryz.results219 ?_
 simp -implicitDefEqProofs (disch:=omega) only [push_cast,simprocAttr,↓gd]
 refine wpV_loop (fun m t S'=>∃(i τ:Nat),m=b.length - i∧i≤b.length∧t 0=.str b∧t 4=.rows (some τ) ((bitsB (b.take i)).map iV)∧t 5=.int .i64 i∧Tok S S' τ 1) b.length ⟨0,S.length,by omega,by omega,rfl,rfl,rfl,Tok.new _ _⟩ ?_
 rintro m t S' ⟨i,τ,rfl,hi,h0,h4,h5,hT⟩
 have hat:=hT.at
 have hbl:=bitsB_len (b.take i)
 have hti:(b.take i).length≤16:=by simp; omega
 refine wpV_of0 hD ?_
 by_cases hil:i < b.length
 ·have hil':(i:Int) < b.length:=by omega
  obtain ⟨c,hc⟩:∃c,c=b.getD i 0:=⟨_,rfl⟩
  have hc256:=c.toNat_lt
  have hcw:IntKind.i64.wrap (c.toNat:Int)=c.toNat:=i64_fit _ (by omega)
  simp -implicitDefEqProofs (disch:=omega) only [push_cast,simprocAttr,h0,h4,h5,hil',←hc,hcw,↓gd]
  refine ⟨by omega,((l2Bits_ok c.toNat 8 (by omega) (by omega) _).as (by simp)).to ?_⟩
  simp -implicitDefEqProofs (disch:=omega) only [push_cast,simprocAttr,h0,h4,h5,hat,↓gd]
  refine ⟨by rw [bitsOf_len]; omega,by omega,b.length - (i+1),by omega,i+1,S'.length,rfl,by omega,?_,by simp,hT.step⟩
  rw [take_get8 hil,←hc]
  simp [bitsB]
 ·have hil':¬(i:Int) < b.length:=by omega
  have:i=b.length:=by omega
  subst this
  rw [List.take_length,←hLd] at h4
  simp -implicitDefEqProofs (disch:=omega) only [push_cast,simprocAttr,h0,h4,h5,hil',↓gd]
  refine wpV_mono (k:=fun e t S2=>e=.exit 2∧t 6=.str (unO b)∧(∃tk,t 4=.rows tk ((unL b).map iV))∧S2=S') ?_ ?_
  ·refine wpV_loop (fun m t S2=>∃(x:List Nat) (f:Nat) (o:List UInt8),m=x.length∧x.length≤f∧x.length≤128∧o.length≤128 - x.length∧(∀y ∈ x,y≤1)∧unO b=o++(unB f x).1∧unL b=(unB f x).2∧(∃tk,t 4=.rows tk (x.map iV))∧t 6=.str o∧S2=S') L.length
    ⟨L,L.length,[],rfl,Nat.le_refl _,by omega,by simp,hLle,by rw [unO,←hLd]; rfl,by rw [unL,←hLd],⟨_,by simpa [putT] using h4⟩,rfl,rfl⟩ ?_
   clear h0 h4 h5 hT hat
   rintro m t S2 ⟨x,f,o,rfl,hxf,hx128,hol,hxb,hun,hul,⟨tk,h4⟩,h6,rfl⟩
   have hstop:unB f x=([],x)→V.str o=.str (unO b)∧∃tk',V.rows tk (x.map iV)=.rows tk' ((unL b).map iV):=fun e=>by
    rw [hun,hul,e]
    exact ⟨by rw [List.append_nil],tk,rfl⟩
   refine wpV_of0 hD ?_
   have hs5:List.take 5 (List.map iV x)=List.map iV (x.take 5):=by rw [List.map_take]
   have hs7:List.take 7 (List.map iV x)=List.map iV (x.take 7):=by rw [List.map_take]
   have hd5:List.drop 5 (List.take x.length (List.map iV x))=List.map iV (x.drop 5):=by rw [List.take_of_length_le (by simp),List.map_drop]
   have hd7:List.drop 7 (List.take x.length (List.map iV x))=List.map iV (x.drop 7):=by rw [List.take_of_length_le (by simp),List.map_drop]
   by_cases h5l:5≤x.length
   ·have h5l':(x.length:Int) ≥ 5:=by omega
    obtain ⟨k,rfl⟩:∃k,f=k+1:=⟨f - 1,by omega⟩
    simp -implicitDefEqProofs (disch:=omega) only [push_cast,simprocAttr,h4,h6,h5l',hs5,↓gd]
    refine (l2Num_ok (x.take 5) (by simp; omega) (fun y hy=>hxb y (List.mem_of_mem_take hy)) _).to ?_
    by_cases h24:numOf (x.take 5) < 24
    ·have hst:=unB_5 (k:=k) h5l h24
     generalize numOf (x.take 5)=w at h24 hst
     have h24':¬(w:Int) ≥ 24:=by omega
     have h39':¬(w:Int) ≥ 39:=by omega
     have hnx:unB (k+1) x=(signOf w :: (unB k (x.drop 5)).1,(unB k (x.drop 5)).2):=hst
     simp -implicitDefEqProofs (disch:=omega) only [push_cast,simprocAttr,h4,h6,hs5,h24',h39',↓gd]
     refine ⟨by omega,by omega,?_⟩
     generalize hc:(List.getD (α:=UInt8) _ w 0)=c
     have hcs:signOf w=c:=hc
     have hc256:=c.toNat_lt
     rw [i64_fit _ (by omega)]
     refine (l1Byte_ok c.toNat _).to ?_
     simp -implicitDefEqProofs (disch:=omega) only [push_cast,simprocAttr,h4,h6,hd5,↓gd]
     refine ⟨by omega,by omega,by omega,(x.drop 5).length,by simp; omega,x.drop 5,k,o++[c],rfl,by simp; omega,by simp; omega,by simp; omega,fun y hy=>hxb y (List.mem_of_mem_drop hy),?_,?_,⟨_,rfl⟩,?_⟩
     ·rw [hun,hnx,hcs,List.append_assoc]; rfl
     ·rw [hul,hnx]
     ·simp [by8]
    ·have h24':((numOf (x.take 5):Nat):Int) ≥ 24:=by omega
     by_cases h7l:7≤x.length
     ·have h7l':¬(x.length:Int) < 7:=by omega
      obtain ⟨n1,n2,n3⟩:=num57 h7l hxb
      simp -implicitDefEqProofs (disch:=omega) only [push_cast,simprocAttr,h4,h6,h24',h7l',hs7,↓gd]
      refine ⟨by omega,(l2Num_ok (x.take 7) (by simp; omega) (fun y hy=>hxb y (List.mem_of_mem_take hy)) _).to ?_⟩
      by_cases h39:39≤numOf (x.take 7) - 72
      ·have hst:=hstop (unB_bad (k:=k) h7l h24 h39)
       generalize numOf (x.take 7)=v at n1 n2 n3 h39
       have ev:(v:Int) - 96+24=((v - 72:Nat):Int):=by omega
       have h39':((v - 72:Nat):Int) ≥ 39:=by omega
       generalize v - 72=w at ev h39'
       simp -implicitDefEqProofs (disch:=omega) only [push_cast,simprocAttr,h4,h6,ev,h39',↓gd]
       exact hst
      ·have hst:=unB_7 (k:=k) h7l h24 h39
       generalize numOf (x.take 7)=v at n1 n2 n3 h39 hst
       have ev:(v:Int) - 96+24=((v - 72:Nat):Int):=by omega
       have h39':¬((v - 72:Nat):Int) ≥ 39:=by omega
       generalize v - 72=w at ev h39' hst
       have hnx:unB (k+1) x=(signOf w :: (unB k (x.drop 7)).1,(unB k (x.drop 7)).2):=hst
       simp -implicitDefEqProofs (disch:=omega) only [push_cast,simprocAttr,h4,h6,hs7,ev,h39',↓gd]
       refine ⟨by omega,by omega,?_⟩
       generalize hc:(List.getD (α:=UInt8) _ w 0)=c
       have hcs:signOf w=c:=hc
       have hc256:=c.toNat_lt
       rw [i64_fit _ (by omega)]
       refine (l1Byte_ok c.toNat _).to ?_
       simp -implicitDefEqProofs (disch:=omega) only [push_cast,simprocAttr,h4,h6,hd7,↓gd]
       refine ⟨by omega,by omega,by omega,(x.drop 7).length,by simp; omega,x.drop 7,k,o++[c],rfl,by simp; omega,by simp; omega,by simp; omega,fun y hy=>hxb y (List.mem_of_mem_drop hy),?_,?_,⟨_,rfl⟩,?_⟩
       ·rw [hun,hnx,hcs,List.append_assoc]; rfl
       ·rw [hul,hnx]
       ·simp [by8]
     ·have h7l':(x.length:Int) < 7:=by omega
      simp -implicitDefEqProofs (disch:=omega) only [push_cast,simprocAttr,h4,h6,h24',h7l',↓gd]
      exact hstop (unB_lt7 (by omega) h24)
   ·have h5l':¬(x.length:Int) ≥ 5:=by omega
    simp -implicitDefEqProofs (disch:=omega) only [push_cast,simprocAttr,h4,h6,h5l',↓gd]
    refine hstop ?_
    cases f with
    | zero =>
     have:x=[]:=List.length_eq_zero_iff.1 (by omega)
     subst this
     rfl
    | succ k=>exact unB_lt5 (by omega)
  ·rintro _ t2 S2 ⟨rfl,h6,⟨tk,h4⟩,rfl⟩
   have hul:=congrArg List.length (un_bits b)
   rw [List.length_append,←hLd] at hul
   have hol:(unO b).length≤1000:=by
    have h3:∀w:List UInt8,w.length≤(w.flatMap codeOf).length:=by
     intro w
     induction w with
     | nil=>simp
     | cons c w ih =>
      have:1≤(codeOf c).length:=by unfold codeOf; split <;> simp [bitsOf_len]
      simp only [List.flatMap_cons,List.length_append,List.length_cons]; omega
    have:=h3 (unO b)
    omega
   have huk:unOk b=((unL b).all (fun x=>decide (x=1)) && decide ((unL b).length < 8) && decide ((unO b).length≤16)):=rfl
   generalize unL b=l at h4 hul huk
   generalize unO b=o at h6 hol huk
   simp -implicitDefEqProofs (disch:=omega) only [push_cast,simprocAttr,h4,h6,↓gd]
   refine wpV_loop (fun m t S3=>∃i:Nat,m=l.length - i∧i≤l.length∧t 4=.rows tk (l.map iV)∧t 6=.str o∧t 9=.bool ((l.take i).all (fun x=>decide (x=1)))∧t 10=.int .i64 i∧S3=S2) l.length ⟨0,by omega,by omega,h4,h6,rfl,rfl,rfl⟩ ?_
   clear h4 h6 h0 h5
   rintro m t S3 ⟨i,rfl,hi,h4,h6,h9,h10,rfl⟩
   refine wpV_of0 hD ?_
   by_cases hil:i < l.length
   ·have hil':(i:Int) < l.length:=by omega
    have hgd:=getD_iV hil
    rw [iV_eq] at hgd
    have htk:(l.take (i+1)).all (fun x=>decide (x=1))=((l.take i).all (fun x=>decide (x=1)) && decide (l.getD i 0=1)):=by
     rw [take_getD hil,List.all_append]; simp
    generalize l.getD i 0=y at hgd htk
    cases hal:(l.take i).all (fun x=>decide (x=1))
    ·rw [hal] at h9 htk
     simp -implicitDefEqProofs (disch:=omega) only [push_cast,simprocAttr,h4,h6,h9,h10,hil',↓gd]
     exact ⟨l.length - (i+1),by omega,i+1,rfl,by omega,by rw [htk]; rfl,by simp⟩
    ·rw [hal] at h9 htk
     by_cases hy:y=1
     ·have hy':(y:Int)=1:=by omega
      rw [decide_eq_true hy] at htk
      simp -implicitDefEqProofs (disch:=omega) only [push_cast,simprocAttr,h4,h6,h9,h10,hil',hgd,hy',↓gd]
      exact ⟨by omega,l.length - (i+1),by omega,i+1,rfl,by omega,by rw [htk]; simp,by simp⟩
     ·have hy':¬(y:Int)=1:=by omega
      rw [decide_eq_false hy] at htk
      simp -implicitDefEqProofs (disch:=omega) only [push_cast,simprocAttr,h4,h6,h9,h10,hil',hgd,hy',↓gd]
      exact ⟨by omega,l.length - (i+1),by omega,i+1,rfl,by omega,by rw [htk]; simp,by simp⟩
   ·have hil':¬(i:Int) < l.length:=by omega
    have:i=l.length:=by omega
    subst this
    rw [List.take_length] at h9
    cases hal:l.all (fun x=>decide (x=1))
    ·rw [hal] at h9 huk
     simp -implicitDefEqProofs (disch:=omega) only [push_cast,simprocAttr,h4,h6,h9,h10,hil',↓gd]
     exact hT.fin (Cl.two (.str _) (.bool _)) (by rw [huk]; rfl)
    ·rw [hal] at h9 huk
     by_cases h8:l.length < 8
     ·have h8':(l.length:Int) < 8:=by omega
      simp -implicitDefEqProofs (disch:=omega) only [push_cast,simprocAttr,h4,h6,h9,h10,hil',h8',↓gd]
      refine hT.fin (Cl.two (.str _) (.bool _)) ?_
      rw [huk]
      simp [h8]
      omega
     ·have h8':¬(l.length:Int) < 8:=by omega
      simp -implicitDefEqProofs (disch:=omega) only [push_cast,simprocAttr,h4,h6,h9,h10,hil',h8',↓gd]
      exact hT.fin (Cl.two (.str _) (.bool _)) (by rw [huk]; simp [h8])
theorem sWordUnpack_ok (b:List UInt8) (hb:b.length≤1000000) (S:List Blk):VCall Tryz.prog 214 [.str b] S fun r S'=>r=unV (unpackM b)∧S'=S:=by
 by_cases h16:b.length≤16
 ·have h16':¬(b.length:Int) > 16:=by omega
  refine VCall.en hD Tryz.func214 Tryz.ntmps214 Tryz.results214 ?_
  simp -implicitDefEqProofs (disch:=omega) only [push_cast,simprocAttr,h16',↓gd]
  refine (l2Unpack_ok b h16 _).to ?_
  cases hu:unOk b
  ·simp -implicitDefEqProofs (disch:=omega) only [push_cast,simprocAttr,↓gd]
   exact fin0 (by rw [unpackM,if_pos h16,hu]; rfl)
  ·simp -implicitDefEqProofs (disch:=omega) only [push_cast,simprocAttr,↓gd]
   exact fin0 (by rw [unpackM,if_pos h16,hu]; rfl)
 ·have h16':(b.length:Int) > 16:=by omega
  refine VCall.en hD Tryz.func214 Tryz.ntmps214 Tryz.results214 ?_
  simp -implicitDefEqProofs (disch:=omega) only [push_cast,simprocAttr,h16',↓gd]
  exact fin0 (by rw [unpackM,if_neg h16]; rfl)
theorem l2Read_ok (b:List UInt8) (hb:b.length≤1000000) (S:List Blk):VCall Tryz.prog 197 [.str b] S fun r S'=>r=wrV (wordR b)∧S'=S:=by
 refine VCall.en hD Tryz.func197 Tryz.ntmps197 Tryz.results197 ?_
 simp -implicitDefEqProofs (disch:=omega) only [push_cast,simprocAttr,↓gd]
 refine ((l1Read_ok b 7 (by omega) (by omega) _).as (by simp)).to ?_
 cases hn:numR b 7 with
 | none =>
  simp -implicitDefEqProofs (disch:=omega) only [push_cast,simprocAttr,nrV,↓gd]
  exact fin0 (by rw [wordR,hn]; rfl)
 | some x =>
  obtain ⟨n,s⟩:=x
  obtain ⟨h1,h2,h3,h4⟩:=numR_bound (by decide) hn
  have hw:wordR b=if n≤16∧s+n≤b.length then
   (if 128≤(b.getD 0 0).toNat then (unpackM ((b.drop s).take n)).map (fun x=>(x,s+n)) else if wordOk ((b.drop s).take n)=true then some ((b.drop s).take n,s+n) else none) else none:=by rw [wordR,hn]
  by_cases h16:n≤16
  ·have h16':¬((n:Int) > 16):=by omega
   by_cases hsn:s+n≤b.length
   ·have hsn':¬((s:Int)+n > b.length):=by omega
    rw [if_pos ⟨h16,hsn⟩] at hw
    have hsl:List.drop s (List.take ((s:Int)+n).toNat b)=(b.drop s).take n:=by rw [show ((s:Int)+n).toNat=s+n by omega,List.drop_take,Nat.add_sub_cancel_left]
    have hwl:((b.drop s).take n).length≤1000:=by simp; omega
    generalize hwd:(b.drop s).take n=w at hsl hw hwl
    generalize hc:b.getD 0 0=c at hw
    have hcn:=c.toNat_lt
    by_cases hc8:128≤c.toNat
    ·rw [if_pos hc8] at hw
     have hc8':((c.toNat:Int) ≥ 128):=by omega
     simp -implicitDefEqProofs (disch:=omega) only [push_cast,simprocAttr,nrV,h16',hsn',hsl,hc,hc8',↓gd]
     refine ⟨by omega,by omega,by omega,by omega,(sWordUnpack_ok w (by omega) _).to ?_⟩
     cases hu:unpackM w with
     | none =>
      simp -implicitDefEqProofs (disch:=omega) only [push_cast,simprocAttr,unV,↓gd]
      exact fin0 (by rw [hw,hu]; rfl)
     | some x =>
      simp -implicitDefEqProofs (disch:=omega) only [push_cast,simprocAttr,unV,↓gd]
      exact fin0 (by rw [hw,hu]; simp [wrV])
    ·have hc8':¬((c.toNat:Int) ≥ 128):=by omega
     rw [if_neg hc8] at hw
     simp -implicitDefEqProofs (disch:=omega) only [push_cast,simprocAttr,nrV,h16',hsn',hsl,hc,hc8',↓gd]
     refine ⟨by omega,by omega,by omega,by omega,(sWordOk_ok w (by omega) _).to ?_⟩
     cases hk:wordOk w
     ·simp -implicitDefEqProofs (disch:=omega) only [push_cast,simprocAttr,↓gd]
      exact fin0 (by rw [hw,hk]; rfl)
     ·simp -implicitDefEqProofs (disch:=omega) only [push_cast,simprocAttr,↓gd]
      exact fin0 (by rw [hw,hk]; simp [wrV])
   ·have hsn':((s:Int)+n > b.length):=by omega
    simp -implicitDefEqProofs (disch:=omega) only [push_cast,simprocAttr,nrV,h16',hsn',↓gd]
    exact fin0 (by rw [hw,if_neg (fun h=>hsn h.2)]; rfl)
  ·have h16':((n:Int) > 16):=by omega
   simp -implicitDefEqProofs (disch:=omega) only [push_cast,simprocAttr,nrV,h16',↓gd]
   exact fin0 (by rw [hw,if_neg (fun h=>h16 h.1)]; rfl)
end
end Go.Proofs.YtldogccmhncnoaaGreatDoor
