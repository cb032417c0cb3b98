/- A part of the proof: contracts of functions, or plain facts on which these lean. -/
import Derived.Test.YtldogccmhncnoaaGreatDoorMj28
import Derived.Test.YtldogccmhncnoaaGreatDoorMj30
namespace Go.Proofs.YtldogccmhncnoaaGreatDoor
open Go
set_option linter.unusedVariables false
set_option linter.unusedSimpArgs false
set_option maxRecDepth 100000
set_option maxHeartbeats 16000000

section
open Go
theorem Heard.app {S X:List Blk} {p b c:Nat} {E:En} {r:V} {S':List Blk} (h:Heard (S++X) p b c E r S'):Heard S p b c E r S':=by
 obtain ⟨b',c',E',ok,h1,h2,h3⟩:=h
 exact ⟨b',c',E',ok,h1,h2.app,h3⟩
theorem hear_ok {N:Nat} {e:En} (hW:EnW N e) (hN:N≤1100000) (hbad:e.bad=false) {f:Fr} (hf:frameOk f=true) {S:List Blk} {p b c:Nat} (h:PtrAt S p b c e) :
  VCall Tryz.prog 44 [.ptr p 0,frV f] S fun r S'=>Heard S p b c (frameM e f) r S':=by
 have he:=hW.b hN
 have hkd:=frameOk_kinds hf
 have kinds:∀k,f.kind=k→frameM e f=if k=1 then headFM e f else if k=0 then dataM e f else if k=8 then moreM e f
  else match atM e.strs f.stream with
   | none=>badM e
   | some k=>if e.ans=false then badM e else setSt e k { stAt e k with state:=3 }:=fun k hk=>by rw [←hk]; rfl
 by_cases k1:f.kind=1
 ·have hcon:=fun X=>hearHead_ok hW hN hbad hf k1 (h.app X)
  rw [kinds 1 k1,if_pos rfl]
  refine VCall.en hDe Tryz.func44 Tryz.ntmps44 Tryz.results44 ?_
  simp -implicitDefEqProofs (disch:=omega) only [push_cast,simprocAttr,k1,↓gd]
  refine ((hcon _).as (by simp [frV,frmC,k1])).mono ?_
  rintro r S' hh
  obtain ⟨b',c',E',ok,rfl,h2,h3⟩:=hh.app
  simp -implicitDefEqProofs (disch:=omega) only [push_cast,simprocAttr,↓gd]
  exact ⟨_,_,Wk.refl _ _ _,b',c',E',ok,rfl,h2,h3⟩
 by_cases k2:f.kind=0
 ·have hcon:=fun X=>hearData_ok hW hN hbad hf k2 (h.app X)
  rw [kinds 0 k2,if_neg (by decide),if_pos rfl]
  refine VCall.en hDe Tryz.func44 Tryz.ntmps44 Tryz.results44 ?_
  simp -implicitDefEqProofs (disch:=omega) only [push_cast,simprocAttr,k2,↓gd]
  refine ((hcon _).as (by simp [frV,frmC,k2])).mono ?_
  rintro r S' hh
  obtain ⟨b',c',E',ok,rfl,h2,h3⟩:=hh.app
  simp -implicitDefEqProofs (disch:=omega) only [push_cast,simprocAttr,↓gd]
  exact ⟨_,_,Wk.refl _ _ _,b',c',E',ok,rfl,h2,h3⟩
 by_cases k3:f.kind=8
 ·have hcon:=fun X=>hearMore_ok hW hN hbad hf k3 (h.app X)
  rw [kinds 8 k3,if_neg (by decide),if_neg (by decide),if_pos rfl]
  refine VCall.en hDe Tryz.func44 Tryz.ntmps44 Tryz.results44 ?_
  simp -implicitDefEqProofs (disch:=omega) only [push_cast,simprocAttr,k3,↓gd]
  refine ((hcon _).as (by simp [frV,frmC,k3])).mono ?_
  rintro r S' hh
  obtain ⟨b',c',E',ok,rfl,h2,h3⟩:=hh.app
  simp -implicitDefEqProofs (disch:=omega) only [push_cast,simprocAttr,↓gd]
  exact ⟨_,_,Wk.refl _ _ _,b',c',E',ok,rfl,h2,h3⟩
 have k4:f.kind=3:=by omega
 rw [kinds 3 k4,if_neg (by decide),if_neg (by decide),if_neg (by decide)]
 clear kinds
 obtain ⟨ans,out,outM,inn,innM,came,strs,snd,rm,wait,bad⟩:=e
 simp only at hbad
 subst hbad
 obtain ⟨n1,n2,n3,n4,n5,n6⟩:=h.nes
 have hv:S[p]?=some (.cells 0 (enC (.heap b strs.length) (.heap c wait.length) ⟨ans,out,outM,inn,innM,came,strs,snd,rm,wait,false⟩)):=h.var
 have hb:S[b]?=some (.cells 12 (strsC strs)):=h.at_.1
 have hc:S[c]?=some (.cells 4 (frmsC wait)):=h.at_.2
 have hlen:=strsC_len strs
 obtain ⟨fk,fl,fs,fb⟩:=f
 simp only at k4 ⊢
 subst k4
 refine VCall.en hDe Tryz.func44 Tryz.ntmps44 Tryz.results44 ?_
 simp -implicitDefEqProofs (disch:=omega) only [push_cast,simprocAttr,↓gd]
 refine ((stream_ok he (h.app _) fs).as rfl).to ?_
 cases ha:atM strs fs with
 | none =>
  have hap:atP strs b fs=.nilp:=by rw [atP,ha]
  simp only [badM]
  simp -implicitDefEqProofs (disch:=omega) only [push_cast,simprocAttr,hap,↓gd]
  exact Heard.still h rfl
 | some k =>
  obtain ⟨hk,hid⟩:=atM_some ha
  have hap:atP strs b fs=.ptr b (k * 12):=by rw [atP,ha]
  cases ans
  ·simp only [badM,if_true]
   simp -implicitDefEqProofs (disch:=omega) only [push_cast,simprocAttr,hap,hv,↓gd]
   exact Heard.still h rfl
  ·have hput:∀s',strC s'=(strC (strs.getD k st0)).set 1 (.int .i64 3)→splice (strsC strs) (k * 12+1) [.int .i64 3]=strsC (strs.set k s'):=fun s'=>strsC_put hk (by decide)
   simp only [stAt,setSt,Bool.true_eq_false,if_false]
   generalize strs.getD k st0=s at hput
   obtain ⟨sid,sst,shd,ssay,sbg,ssd,ssent,sgot,stx,shrd,ssnd,srm⟩:=s
   have hput:=hput ⟨sid,3,shd,ssay,sbg,ssd,ssent,sgot,stx,shrd,ssnd,srm⟩ rfl
   simp -implicitDefEqProofs (disch:=omega) only [push_cast,simprocAttr,hap,hv,hb,hput,↓gd]
   repeat refine And.intro (by omega) ?_
   refine ⟨_,_,Wk.refl _ _ _,b,c,⟨true,out,outM,inn,innM,came,strs.set k ⟨sid,3,shd,ssay,sbg,ssd,ssent,sgot,stx,shrd,ssnd,srm⟩,snd,rm,wait,false⟩,true,rfl,PtrTo.mk' (c:=c) b c ?_ ?_ ?_ (.inl rfl) (.inl rfl) (((Upd.refl _ _).set _ (.inr (by simp))).app _),rfl⟩
   ·simp -implicitDefEqProofs (disch:=omega) only [push_cast,simprocAttr,hv,↓gd]
   ·simp -implicitDefEqProofs (disch:=omega) only [push_cast,simprocAttr,↓gd]
   ·simp -implicitDefEqProofs (disch:=omega) only [push_cast,simprocAttr,hc,↓gd]
end
section
open Go
theorem Upd.mem3 {S S1 S2:List Blk} {p b c:Nat} (h:Upd [] S S1) (k:Upd [p,b,c] S1 S2) (hp:S.length≤p) (hb:S.length≤b) (hc:S.length≤c):Upd [] S S2:=h.then_ k (fun j hj hm=>by
 simp only [List.mem_cons,List.not_mem_nil,or_false] at hm
 omega)
theorem frR_neg {b:List UInt8} (h:(frR b).2.2 < 0):(frR b).2.1=0:=by
 unfold frR at h ⊢
 split
 ·rfl
 ·split
  ·rfl
  ·split
   ·rfl
   ·split
    ·rename_i h1 h2 h3 h4
     rw [if_neg h1,if_neg h2,if_neg h3,if_pos h4] at h
     simp at h
    ·rfl
theorem EndHear_ok {e:En} (he:EnB e) (bs:List UInt8) (hbs:bs.length≤1100000) {S:List Blk} {b c:Nat} (h:EnAt S b c e):VCall Tryz.prog 10 [eV b c e,.str bs] S fun r S'=>RNew S (endHearM e bs) r S':=by
 have hok:=fun X=>EndOk_ok he (h.app X)
 have hcp:=fun X=>eclone_ok he (h.app X)
 have hwn:=he.wait
 have hcm:=he.came
 refine VCall.en hDe Tryz.func10 Tryz.ntmps10 Tryz.results10 ?_
 simp -implicitDefEqProofs (disch:=omega) only [push_cast,simprocAttr,↓gd]
 refine ((hok _).as (by simp [eV,enV,enC])).to ?_
 cases hE:endOk e
 ·rw [endHearM,if_pos (.inl hE)]
  simp -implicitDefEqProofs (disch:=omega) only [push_cast,simprocAttr,↓gd]
  exact RNew.zero
 by_cases h3:(bs.length:Int) > 300
 ·rw [endHearM,if_pos (.inr (by omega))]
  simp -implicitDefEqProofs (disch:=omega) only [push_cast,simprocAttr,h3,↓gd]
  exact RNew.zero
 have hW:=endOk_w hE
 rw [endHearM,if_neg (by rintro (q | q); rw [hE] at q; cases q; omega),hearWM]
 simp -implicitDefEqProofs (disch:=omega) only [push_cast,simprocAttr,h3,↓gd]
 refine ((hcp _).as (by simp [eV,enV,enC])).mono ?_
 rintro r S1 ⟨b',c',rfl,hn⟩
 have k0:S1[S.length]?=some (.cells 0 (enC (.heap b e.strs.length) (.heap c e.wait.length) e)):=hn.upd.get (by simp -implicitDefEqProofs (disch:=omega) only [push_cast,simprocAttr,↓gd]) (by simp)
 have k1:S1[S.length+1]?=some (.cells 0 zE):=hn.upd.get (by simp -implicitDefEqProofs (disch:=omega) only [push_cast,simprocAttr,↓gd]) (by simp)
 have l0:=lt_of_some k0
 have l1:=lt_of_some k1
 have hx:=hn.app
 have hb1:=hn.hb; have hc1:=hn.hc
 simp at hb1 hc1
 have done:∀X,∃r S2,Wk S (eV b' c' e) (S1.set (S.length+1) (.cells 0 (enC (.heap b' e.strs.length) (.heap c' e.wait.length) e))++X) r S2∧RNew S e r S2:=fun X =>
  ⟨_,_,Wk.refl _ _ _,b',c',rfl,(hx.set _ (by omega) (by omega) (by omega)).appR _⟩
 rcases Bool.eq_false_or_eq_true e.bad with hbad | hbad
 ·rw [if_pos (.inl hbad)]
  simp -implicitDefEqProofs (disch:=omega) only [push_cast,simprocAttr,k0,k1,hbad,↓gd]
  simpa [eV,enV,enC,hbad] using done _
 by_cases h4:(e.came.length:Int)+bs.length > 300
 ·rw [if_pos (.inr (.inl (by omega)))]
  simp -implicitDefEqProofs (disch:=omega) only [push_cast,simprocAttr,k0,k1,hbad,h4,↓gd]
  simpa [eV,enV,enC,hbad] using done _
 by_cases h5:(e.wait.length:Int) > 40
 ·rw [if_pos (.inr (.inr (by omega)))]
  simp -implicitDefEqProofs (disch:=omega) only [push_cast,simprocAttr,k0,k1,hbad,h4,h5,↓gd]
  simpa [eV,enV,enC,hbad] using done _
 rw [if_neg (by rw [hbad]; rintro (q | q | q); cases q; omega; omega)]
 have hW0:EnW 60 { e with came:=e.came++bs }:=hW.withCame (by rw [List.length_append]; omega)
 rw [hearM]
 generalize hR:hearsM (e.came.length+bs.length+1) { e with came:=e.came++bs }=R
 have hl0:({ e with came:=e.came++bs }:En).came.length < e.came.length+bs.length+1:=by simp
 have hl6:({ e with came:=e.came++bs }:En).came.length≤600:=by simp; omega
 have hx0:EnNew S { e with came:=e.came++bs } b' c' S1:=⟨hx.at_,hx.hb,hx.hc,hx.upd⟩
 simp -implicitDefEqProofs (disch:=omega) only [push_cast,simprocAttr,k0,k1,hbad,h4,h5,↓gd]
 repeat refine And.intro (by omega) ?_
 refine wpV_loop (fun m t S2=>∃(n:Nat) (x:En) (b1 c1 M:Nat),m=(if x.bad then 0 else x.came.length+1)∧x.came.length < n∧x.came.length≤600∧R=hearsM n x∧EnW M x∧M+2 * x.came.length≤2000 ∧
  t 4=.ptr (S.length+1) 0∧t 5=.ptr S1.length 0∧PtrAt S2 S1.length b1 c1 x∧S2[S.length+1]?=some (.cells 0 zE)∧S.length≤b1∧S.length≤c1∧Upd [] S S2) ((e.came++bs).length+1)
  ⟨e.came.length+bs.length+1,{ e with came:=e.came++bs },b',c',60,by simp [hbad],hl0,hl6,hR.symm,hW0,by simp; omega,rfl,rfl,⟨by simp -implicitDefEqProofs (disch:=omega) only [push_cast,simprocAttr,hbad,↓gd],hx0.at_.app _⟩,by simp -implicitDefEqProofs (disch:=omega) only [push_cast,simprocAttr,k1,↓gd],hx.hb,hx.hc,hx.upd.app _⟩ ?_
 clear hR
 rintro m t S2 ⟨n,x,b1,c1,M,rfl,hn1,hx6,hrun,hxW,hM,h4',h5',hP,kz,hb2,hc2,hu⟩
 obtain ⟨n1,n2,n3,n4,n5,n6⟩:=hP.nes
 have kv:=hP.var
 have kb:=hP.at_.1
 have kc:=hP.at_.2
 have hlS1:S.length+1 < S1.length:=l1
 have lz:=lt_of_some kz
 refine wpV_of0 hDe ?_
 obtain ⟨n,rfl⟩:∃k,n=k+1:=⟨n - 1,by omega⟩
 rw [hearsM_succ] at hrun
 have endr:∀X,R=x→VCall Tryz.prog 42 [eV b1 c1 x] (S2++X) fun r S'=>∃b3 c3,r=eV b3 c3 x∧EnNew S x b3 c3 S'∧S'[S.length+1]?=some (.cells 0 zE):=fun X q =>
  (eclone_ok (hxW.b (by omega)) (hP.at_.app X)).mono fun r S' ⟨b3,c3,q1,q2⟩=>⟨b3,c3,q1,⟨q2.at_,by have:=q2.hb; simp at this; have:=hu.1; omega,by have:=q2.hc; simp at this; have:=hu.1; omega,(hu.app X).trans q2.upd⟩,q2.upd.get (by simp -implicitDefEqProofs (disch:=omega) only [push_cast,simprocAttr,kz,↓gd]) (by simp)⟩
 rcases Bool.eq_false_or_eq_true x.bad with hxb | hxb
 ·rw [if_pos hxb] at hrun
  have hend:=endr [] hrun
  rw [List.append_nil] at hend
  rw [hrun]
  simp -implicitDefEqProofs (disch:=omega) only [push_cast,simprocAttr,h4',h5',kv,hxb,↓gd]
  refine (hend.as (by simp [eV,enV,enC,hxb])).mono ?_
  rintro r S3 ⟨b3,c3,rfl,q3,kz3⟩
  have lz3:=lt_of_some kz3
  simp -implicitDefEqProofs (disch:=omega) only [push_cast,simprocAttr,h4',kz3,↓gd]
  exact ⟨_,_,Wk.refl _ _ _,b3,c3,rfl,q3.set (j:=S.length+1) _ (by omega) (cells_ne q3.at_.1 kz3 (by decide)) (cells_ne q3.at_.2 kz3 (by decide))⟩
 ·rw [if_neg (by rw [hxb]; simp)] at hrun
  simp -implicitDefEqProofs (disch:=omega) only [push_cast,simprocAttr,h4',h5',kv,hxb,↓gd]
  refine (FrameRead_ok x.came (by omega) _).to ?_
  have hsome:=@frR_some x.came
  have hneg:=@frR_neg x.came
  generalize hq:frR x.came=q at hrun hsome hneg
  obtain ⟨f,u,is⟩:=q
  simp only at hrun hsome hneg
  by_cases hi0:is=0
  ·subst hi0
   rw [if_neg (by omega),if_pos rfl] at hrun
   have hend:=endr [.cells 0 [.int .i64 f.kind,.bool f.last,.int .i64 f.stream,.str f.body]] hrun
   rw [hrun]
   simp -implicitDefEqProofs (disch:=omega) only [push_cast,simprocAttr,h4',h5',kv,hxb,↓gd]
   refine (hend.as (by simp [eV,enV,enC,hxb])).mono ?_
   rintro r S3 ⟨b3,c3,rfl,q3,kz3⟩
   have lz3:=lt_of_some kz3
   simp -implicitDefEqProofs (disch:=omega) only [push_cast,simprocAttr,h4',kz3,↓gd]
   exact ⟨_,_,Wk.refl _ _ _,b3,c3,rfl,q3.set (j:=S.length+1) _ (by omega) (cells_ne q3.at_.1 kz3 (by decide)) (cells_ne q3.at_.2 kz3 (by decide))⟩
  ·by_cases hi1:is < 0
   ·rw [if_pos hi1] at hrun
    have hu0:u=0:=hneg hi1
    subst hu0
    simp -implicitDefEqProofs (disch:=omega) only [push_cast,simprocAttr,h4',h5',kv,hxb,hi0,hi1,List.take_length,↓gd]
    repeat refine And.intro (by omega) ?_
    refine ⟨0,by omega,n+1,badM x,b1,c1,M,by simp [badM],hn1,hx6,?_,hxW.bad,hM,⟨?_,(hP.at_.set _ n1 n2).app _⟩,?_,hb2,hc2,(hu.set _ (.inl (by omega))).app _⟩
    ·rw [hrun,hearsM_succ]
     exact (if_pos rfl).symm
    ·simp -implicitDefEqProofs (disch:=omega) only [push_cast,simprocAttr,↓gd]
     rfl
    ·simp -implicitDefEqProofs (disch:=omega) only [push_cast,simprocAttr,kz,↓gd]
   ·rw [if_neg hi1,if_neg hi0] at hrun
    obtain ⟨r1,r2,r3,r4⟩:=hsome (by omega)
    have hx':EnW M { x with came:=x.came.drop u }:=hxW.withCame (by rw [List.length_drop]; omega)
    simp -implicitDefEqProofs (disch:=omega) only [push_cast,simprocAttr,h4',h5',kv,hxb,hi0,hi1,List.take_length,↓gd]
    repeat refine And.intro (by omega) ?_
    have hat:∀B Y,EnAt (S2.set S1.length B++Y) b1 c1 { x with came:=x.came.drop u }:=fun B Y=>(hP.at_.set B n1 n2).app Y
    have nz1:=cells_ne hP.at_.1 kz (by decide)
    have nz2:=cells_ne hP.at_.2 kz (by decide)
    refine ((hear_ok hx' (by omega) hxb r1 (p:=S1.length) (b:=b1) (c:=c1) ⟨?_,hat _ _⟩).as rfl).mono ?_
    ·simp -implicitDefEqProofs (disch:=omega) only [push_cast,simprocAttr,hxb,↓gd]
    rintro r S3 ⟨b3,c3,E',ok,rfl,hto,hE'⟩
    have kz3:=hto.upd.get (j:=S.length+1) (B:=.cells 0 zE) (by simp -implicitDefEqProofs (disch:=omega) only [push_cast,simprocAttr,kz,↓gd]) (by simp; omega)
    have kv3:=hto.at_.var
    obtain ⟨m1,m2,m3,m4,m5,m6⟩:=hto.at_.nes
    have hEw:=frameM_w hx' r1
    have hcl:(frameM { x with came:=x.came.drop u } f).came.length=x.came.length - u:=by rw [frameM_came,List.length_drop]
    have hlen3:=hto.upd.1
    have hb3:=hto.hb
    have hc3:=hto.hc
    simp at hlen3 hb3 hc3
    have hu3:Upd [] S S3:=((hu.set (i:=S1.length) _ (.inl (by omega))).app _).mem3 hto.upd (by omega) hb2 hc2
    rw [hE'] at hrun hEw hcl
    simp -implicitDefEqProofs (disch:=omega) only [push_cast,simprocAttr,h4',h5',kv3,hxb,hi0,hi1,↓gd]
    simp only at hcl
    have hcl2:E'.came.length=x.came.length - u:=hcl
    refine ⟨(if !ok then 0 else E'.came.length+1),by split <;> omega,n,{ E' with bad:=!ok },b3,c3,M+2,rfl,by simp only; omega,by simp only; omega,hrun,hEw,by simp only; omega,⟨?_,hto.at_.at_.set _ m1 m2⟩,by simp -implicitDefEqProofs (disch:=omega) only [push_cast,simprocAttr,kz3,↓gd],by omega,by omega,hu3.set _ (.inl (by omega))⟩
    simp -implicitDefEqProofs (disch:=omega) only [push_cast,simprocAttr,↓gd]
end
section
open Go
theorem EndHear_R (ow:Bool) {e:En} (he:EnB e) (bs:List UInt8) (hbs:bs.length≤1100000) {S:List Blk} {vo vi:V} {b c:Nat} {ls:List XS} (h:EnX S vo vi b c ls e):VCall Tryz.prog 10 [xV vo vi b c e,.str bs] S fun r S'=>RRes ow S (endHearM e bs) r S':=by
 have hok:=fun X=>EndOk_X he (h.app X)
 have hcp:=fun X=>eclone_X he (h.app X)
 have hcr:=fun X=>eclone_R ow he (h.app X)
 have vo1:=h.out.one
 have vi1:=h.inn.one
 have voe:=h.out.er
 have vie:=h.inn.er
 have voe1:=h.out.er1
 have vie1:=h.inn.er1
 have hwn:=he.wait
 have hcm:=he.came
 refine VCall.en hDe Tryz.func10 Tryz.ntmps10 Tryz.results10 ?_
 simp -implicitDefEqProofs (disch:=omega) only [push_cast,simprocAttr,vo1,vi1,voe,vie,↓gd]
 refine ((hok _).as (by simp [xV,enX,voe,vie,voe1,vie1])).to ?_
 cases hE:endOk e
 ·rw [endHearM,if_pos (.inl hE)]
  simp -implicitDefEqProofs (disch:=omega) only [push_cast,simprocAttr,↓gd]
  exact RRes.zero ow
 by_cases h3:(bs.length:Int) > 300
 ·rw [endHearM,if_pos (.inr (by omega))]
  simp -implicitDefEqProofs (disch:=omega) only [push_cast,simprocAttr,h3,↓gd]
  exact RRes.zero ow
 have hW:=endOk_w hE
 rw [endHearM,if_neg (by rintro (q | q); rw [hE] at q; cases q; omega),hearWM]
 by_cases hstop:e.bad=true∨(e.came.length:Int)+bs.length > 300∨(e.wait.length:Int) > 40
 ·rw [if_pos (by rcases hstop with q | q | q; exact .inl q; exact .inr (.inl (by omega)); exact .inr (.inr (by omega)))]
  simp -implicitDefEqProofs (disch:=omega) only [push_cast,simprocAttr,h3,vo1,vi1,voe,vie,↓gd]
  refine ((hcr _).as (by simp [xV,enX,voe,vie,voe1,vie1])).mono ?_
  rintro r S1 ⟨vo',vi',b',c',rfl,hn⟩
  have k0:=hn.upd.get (j:=S.length) (B:=.cells 0 (enX vo vi (.heap b e.strs.length) (.heap c e.wait.length) e)) (by simp -implicitDefEqProofs (disch:=omega) only [push_cast,simprocAttr,↓gd]) (by simp)
  have k1:=hn.upd.get (j:=S.length+1) (B:=.cells 0 zE) (by simp -implicitDefEqProofs (disch:=omega) only [push_cast,simprocAttr,↓gd]) (by simp)
  have l0:=lt_of_some k0
  have l1:=lt_of_some k1
  obtain ⟨w1,w2⟩:=hn.one
  obtain ⟨w3,w4⟩:=hn.er
  have hn':=hn.of ((Upd.refl _ _).app _)
  have done:∀X,∃r S2,Wk S (xV vo' vi' b' c' e) (S1.set (S.length+1) (.cells 0 (enX vo' vi' (.heap b' e.strs.length) (.heap c' e.wait.length) e))++X) r S2∧RRes ow S e r S2:=fun X =>
   ⟨_,_,Wk.refl _ _ _,vo',vi',b',c',rfl,(hn'.setVar _ k1 (by omega)).appR _⟩
  rcases Bool.eq_false_or_eq_true e.bad with hbad | hbad
  ·simp -implicitDefEqProofs (disch:=omega) only [push_cast,simprocAttr,k0,k1,hbad,w1,w2,w3,w4,vo1,vi1,voe,vie,↓gd]
   simpa [xV,enX,hbad] using done _
  by_cases h4:(e.came.length:Int)+bs.length > 300
  ·simp -implicitDefEqProofs (disch:=omega) only [push_cast,simprocAttr,k0,k1,hbad,h4,w1,w2,w3,w4,vo1,vi1,voe,vie,↓gd]
   simpa [xV,enX,hbad] using done _
  have h5:(e.wait.length:Int) > 40:=by
   rcases hstop with q | q | q
   ·rw [hbad] at q; cases q
   ·exact absurd q h4
   ·exact q
  simp -implicitDefEqProofs (disch:=omega) only [push_cast,simprocAttr,k0,k1,hbad,h4,h5,w1,w2,w3,w4,vo1,vi1,voe,vie,↓gd]
  simpa [xV,enX,hbad] using done _
 have hbad:e.bad=false:=by cases q:e.bad; rfl; exact absurd (.inl q) hstop
 have h4:¬(e.came.length:Int)+bs.length > 300:=fun q=>hstop (.inr (.inl q))
 have h5:¬(e.wait.length:Int) > 40:=fun q=>hstop (.inr (.inr q))
 simp -implicitDefEqProofs (disch:=omega) only [push_cast,simprocAttr,h3,vo1,vi1,voe,vie,↓gd]
 refine ((hcp _).as (by simp [xV,enX,voe,vie,voe1,vie1])).mono ?_
 rintro r S1 ⟨b',c',rfl,hn⟩
 have k0:S1[S.length]?=some (.cells 0 (enX vo vi (.heap b e.strs.length) (.heap c e.wait.length) e)):=hn.upd.get (by simp -implicitDefEqProofs (disch:=omega) only [push_cast,simprocAttr,↓gd]) (by simp)
 have k1:S1[S.length+1]?=some (.cells 0 zE):=hn.upd.get (by simp -implicitDefEqProofs (disch:=omega) only [push_cast,simprocAttr,↓gd]) (by simp)
 have l0:=lt_of_some k0
 have l1:=lt_of_some k1
 have hx:=hn.app
 have hb1:=hn.hb; have hc1:=hn.hc
 simp at hb1 hc1
 rw [if_neg (by rw [hbad]; rintro (q | q | q); cases q; omega; omega)]
 have hW0:EnW 60 { e with came:=e.came++bs }:=hW.withCame (by rw [List.length_append]; omega)
 rw [hearM]
 generalize hR:hearsM (e.came.length+bs.length+1) { e with came:=e.came++bs }=R
 have hl0:({ e with came:=e.came++bs }:En).came.length < e.came.length+bs.length+1:=by simp
 have hl6:({ e with came:=e.came++bs }:En).came.length≤600:=by simp; omega
 have hx0:EnNew S { e with came:=e.came++bs } b' c' S1:=⟨hx.at_,hx.hb,hx.hc,hx.upd⟩
 simp -implicitDefEqProofs (disch:=omega) only [push_cast,simprocAttr,k0,k1,hbad,h4,h5,vo1,vi1,voe,vie,↓gd]
 repeat refine And.intro (by omega) ?_
 refine wpV_loop (fun m t S2=>∃(n:Nat) (x:En) (b1 c1 M:Nat),m=(if x.bad then 0 else x.came.length+1)∧x.came.length < n∧x.came.length≤600∧R=hearsM n x∧EnW M x∧M+2 * x.came.length≤2000 ∧
  t 4=.ptr (S.length+1) 0∧t 5=.ptr S1.length 0∧PtrAt S2 S1.length b1 c1 x∧S2[S.length+1]?=some (.cells 0 zE)∧S.length≤b1∧S.length≤c1∧Upd [] S S2) ((e.came++bs).length+1)
  ⟨e.came.length+bs.length+1,{ e with came:=e.came++bs },b',c',60,by simp [hbad],hl0,hl6,hR.symm,hW0,by simp; omega,rfl,rfl,⟨by simp -implicitDefEqProofs (disch:=omega) only [push_cast,simprocAttr,hbad,↓gd],hx0.at_.app _⟩,by simp -implicitDefEqProofs (disch:=omega) only [push_cast,simprocAttr,k1,↓gd],hx.hb,hx.hc,hx.upd.app _⟩ ?_
 clear hR
 rintro m t S2 ⟨n,x,b1,c1,M,rfl,hn1,hx6,hrun,hxW,hM,h4',h5',hP,kz,hb2,hc2,hu⟩
 obtain ⟨n1,n2,n3,n4,n5,n6⟩:=hP.nes
 have kv:=hP.var
 have kb:=hP.at_.1
 have kc:=hP.at_.2
 have hlS1:S.length+1 < S1.length:=l1
 have lz:=lt_of_some kz
 refine wpV_of0 hDe ?_
 obtain ⟨n,rfl⟩:∃k,n=k+1:=⟨n - 1,by omega⟩
 rw [hearsM_succ] at hrun
 have endr:∀X,R=x→VCall Tryz.prog 42 [eV b1 c1 x] (S2++X) fun r S'=>∃vo3 vi3 b3 c3,r=xV vo3 vi3 b3 c3 x∧Res ow S vo3 vi3 b3 c3 x S'∧S'[S.length+1]?=some (.cells 0 zE):=fun X q =>
  (eclone_R ow (hxW.b (by omega)) (hP.at_.app X).x).mono fun r S' ⟨vo3,vi3,b3,c3,q1,q2⟩=>⟨vo3,vi3,b3,c3,q1,q2.of (hu.app X),q2.upd.get (by simp -implicitDefEqProofs (disch:=omega) only [push_cast,simprocAttr,kz,↓gd]) (by simp)⟩
 rcases Bool.eq_false_or_eq_true x.bad with hxb | hxb
 ·rw [if_pos hxb] at hrun
  have hend:=endr [] hrun
  rw [List.append_nil] at hend
  rw [hrun]
  simp -implicitDefEqProofs (disch:=omega) only [push_cast,simprocAttr,h4',h5',kv,hxb,↓gd]
  refine (hend.as (by simp [eV,enV,enC,hxb])).mono ?_
  rintro r S3 ⟨vo3,vi3,b3,c3,rfl,q3,kz3⟩
  have lz3:=lt_of_some kz3
  obtain ⟨w1,w2⟩:=q3.one
  obtain ⟨w3,w4⟩:=q3.er
  simp -implicitDefEqProofs (disch:=omega) only [push_cast,simprocAttr,h4',kz3,w1,w2,w3,w4,↓gd]
  exact ⟨_,_,Wk.refl _ _ _,vo3,vi3,b3,c3,rfl,q3.setVar _ kz3 (by omega)⟩
 ·rw [if_neg (by rw [hxb]; simp)] at hrun
  simp -implicitDefEqProofs (disch:=omega) only [push_cast,simprocAttr,h4',h5',kv,hxb,↓gd]
  refine (FrameRead_ok x.came (by omega) _).to ?_
  have hsome:=@frR_some x.came
  have hneg:=@frR_neg x.came
  generalize hq:frR x.came=q at hrun hsome hneg
  obtain ⟨f,u,is⟩:=q
  simp only at hrun hsome hneg
  by_cases hi0:is=0
  ·subst hi0
   rw [if_neg (by omega),if_pos rfl] at hrun
   have hend:=endr [.cells 0 [.int .i64 f.kind,.bool f.last,.int .i64 f.stream,.str f.body]] hrun
   rw [hrun]
   simp -implicitDefEqProofs (disch:=omega) only [push_cast,simprocAttr,h4',h5',kv,hxb,↓gd]
   refine (hend.as (by simp [eV,enV,enC,hxb])).mono ?_
   rintro r S3 ⟨vo3,vi3,b3,c3,rfl,q3,kz3⟩
   have lz3:=lt_of_some kz3
   obtain ⟨w1,w2⟩:=q3.one
   obtain ⟨w3,w4⟩:=q3.er
   simp -implicitDefEqProofs (disch:=omega) only [push_cast,simprocAttr,h4',kz3,w1,w2,w3,w4,↓gd]
   exact ⟨_,_,Wk.refl _ _ _,vo3,vi3,b3,c3,rfl,q3.setVar _ kz3 (by omega)⟩
  ·by_cases hi1:is < 0
   ·rw [if_pos hi1] at hrun
    have hu0:u=0:=hneg hi1
    subst hu0
    simp -implicitDefEqProofs (disch:=omega) only [push_cast,simprocAttr,h4',h5',kv,hxb,hi0,hi1,List.take_length,↓gd]
    repeat refine And.intro (by omega) ?_
    refine ⟨0,by omega,n+1,badM x,b1,c1,M,by simp [badM],hn1,hx6,?_,hxW.bad,hM,⟨?_,(hP.at_.set _ n1 n2).app _⟩,?_,hb2,hc2,(hu.set _ (.inl (by omega))).app _⟩
    ·rw [hrun,hearsM_succ]
     exact (if_pos rfl).symm
    ·simp -implicitDefEqProofs (disch:=omega) only [push_cast,simprocAttr,↓gd]
     rfl
    ·simp -implicitDefEqProofs (disch:=omega) only [push_cast,simprocAttr,kz,↓gd]
   ·rw [if_neg hi1,if_neg hi0] at hrun
    obtain ⟨r1,r2,r3,r4⟩:=hsome (by omega)
    have hx':EnW M { x with came:=x.came.drop u }:=hxW.withCame (by rw [List.length_drop]; omega)
    simp -implicitDefEqProofs (disch:=omega) only [push_cast,simprocAttr,h4',h5',kv,hxb,hi0,hi1,List.take_length,↓gd]
    repeat refine And.intro (by omega) ?_
    have hat:∀B Y,EnAt (S2.set S1.length B++Y) b1 c1 { x with came:=x.came.drop u }:=fun B Y=>(hP.at_.set B n1 n2).app Y
    have nz1:=cells_ne hP.at_.1 kz (by decide)
    have nz2:=cells_ne hP.at_.2 kz (by decide)
    refine ((hear_ok hx' (by omega) hxb r1 (p:=S1.length) (b:=b1) (c:=c1) ⟨?_,hat _ _⟩).as rfl).mono ?_
    ·simp -implicitDefEqProofs (disch:=omega) only [push_cast,simprocAttr,hxb,↓gd]
    rintro r S3 ⟨b3,c3,E',ok,rfl,hto,hE'⟩
    have kz3:=hto.upd.get (j:=S.length+1) (B:=.cells 0 zE) (by simp -implicitDefEqProofs (disch:=omega) only [push_cast,simprocAttr,kz,↓gd]) (by simp; omega)
    have kv3:=hto.at_.var
    obtain ⟨m1,m2,m3,m4,m5,m6⟩:=hto.at_.nes
    have hEw:=frameM_w hx' r1
    have hcl:(frameM { x with came:=x.came.drop u } f).came.length=x.came.length - u:=by rw [frameM_came,List.length_drop]
    have hlen3:=hto.upd.1
    have hb3:=hto.hb
    have hc3:=hto.hc
    simp at hlen3 hb3 hc3
    have hu3:Upd [] S S3:=((hu.set (i:=S1.length) _ (.inl (by omega))).app _).mem3 hto.upd (by omega) hb2 hc2
    rw [hE'] at hrun hEw hcl
    simp -implicitDefEqProofs (disch:=omega) only [push_cast,simprocAttr,h4',h5',kv3,hxb,hi0,hi1,↓gd]
    simp only at hcl
    have hcl2:E'.came.length=x.came.length - u:=hcl
    refine ⟨(if !ok then 0 else E'.came.length+1),by split <;> omega,n,{ E' with bad:=!ok },b3,c3,M+2,rfl,by simp only; omega,by simp only; omega,hrun,hEw,by simp only; omega,⟨?_,hto.at_.at_.set _ m1 m2⟩,by simp -implicitDefEqProofs (disch:=omega) only [push_cast,simprocAttr,kz3,↓gd],by omega,by omega,hu3.set _ (.inl (by omega))⟩
    simp -implicitDefEqProofs (disch:=omega) only [push_cast,simprocAttr,↓gd]
end
section
open Go
theorem RNew.zeroT {S X:List Blk} {xs:List V} (hx:∀x ∈ xs,Plain x):∃r S2,Wk S (.tup (.agg zE :: xs)) (S++X) r S2∧∃v,r=.tup (v :: xs)∧RNew S en0 v S2:=by
 obtain ⟨r,S2,h1,h2⟩:=RNew.zero (S:=S) (X:=X)
 exact ⟨_,S2,h1.fst hx,r,rfl,h2⟩
theorem EndCall_ok {e:En} (he:EnB e) (path text:List UInt8) (hp:path.length≤2000000) (ht:text.length≤2000000) {S:List Blk} {b c:Nat} (h:EnAt S b c e):VCall Tryz.prog 103 [eV b c e,.str path,.str text] S fun r S' =>
  ∃v,r=.tup [v,.int .i64 (endCallM e path text).2.1,.bool (endCallM e path text).2.2]∧RNew S (endCallM e path text).1 v S':=by
 have hok:=fun X=>EndOk_ok he (h.app X)
 have hcp:=fun X=>eclone_ok he (h.app X)
 have hel:=he.len
 refine VCall.en hDe Tryz.func103 Tryz.ntmps103 Tryz.results103 ?_
 simp -implicitDefEqProofs (disch:=omega) only [push_cast,simprocAttr,↓gd]
 refine ((hok _).as (by simp [eV,enV,enC])).to ?_
 cases hE:endOk e
 ·rw [endCallM,if_pos hE]
  simp -implicitDefEqProofs (disch:=omega) only [push_cast,simprocAttr,↓gd]
  exact RNew.zeroT (by simp [Plain])
 have hW:=endOk_w hE
 have hsl:=stsOk_len hW.sts
 rw [endCallM,if_neg (by rw [hE]; simp)]
 simp -implicitDefEqProofs (disch:=omega) only [push_cast,simprocAttr,↓gd]
 refine ((hcp _).as (by simp [eV,enV,enC])).mono ?_
 rintro r S1 ⟨b',c',rfl,hn⟩
 have k0:S1[S.length]?=some (.cells 0 (enC (.heap b e.strs.length) (.heap c e.wait.length) e)):=hn.upd.get (by simp -implicitDefEqProofs (disch:=omega) only [push_cast,simprocAttr,↓gd]) (by simp)
 have k1:S1[S.length+1]?=some (.cells 0 zE):=hn.upd.get (by simp -implicitDefEqProofs (disch:=omega) only [push_cast,simprocAttr,↓gd]) (by simp)
 have l0:=lt_of_some k0
 have l1:=lt_of_some k1
 have hx:=hn.app
 have hb1:=hn.hb; have hc1:=hn.hc
 simp at hb1 hc1
 have done:∀X,∃r S2,Wk S (.tup [eV b' c' e,.int .i64 0,.bool false]) (S1.set (S.length+1) (.cells 0 (enC (.heap b' e.strs.length) (.heap c' e.wait.length) e))++X) r S2∧∃v,r=.tup [v,.int .i64 0,.bool false]∧RNew S e v S2:=fun X =>
  ⟨_,_,Wk.refl _ _ _,_,rfl,b',c',rfl,(hx.set _ (by omega) (by omega) (by omega)).appR _⟩
 have hno:(e.ans=true∨2 * (e.strs.length:Int)+1 > 7∨headOk (callHead path text)=false∨wordOk text=false)→callM e path text=(e,0,false):=fun q=>by rw [callM,if_pos q]
 rcases Bool.eq_false_or_eq_true e.ans with ha | ha
 ·rw [hno (.inl ha)]
  simp -implicitDefEqProofs (disch:=omega) only [push_cast,simprocAttr,k0,k1,ha,↓gd]
  simpa [eV,enV,enC,ha] using done _
 by_cases hid:2 * (e.strs.length:Int)+1 > 7
 ·rw [hno (.inr (.inl hid))]
  simp -implicitDefEqProofs (disch:=omega) only [push_cast,simprocAttr,k0,k1,ha,hid,↓gd]
  simpa [eV,enV,enC,ha] using done _
 simp -implicitDefEqProofs (disch:=omega) only [push_cast,simprocAttr,k0,k1,ha,hid,↓gd]
 refine (WordOk_ok path (by omega) _).to ?_
 cases hwp:wordOk path
 ·have hh:headOk (callHead path text)=false∨wordOk text=false:=by
   cases hwt:wordOk text
   ·exact .inr rfl
   ·exact .inl (by rw [callHead_ok hwt,hwp])
  rw [hno (.inr (.inr hh))]
  simp -implicitDefEqProofs (disch:=omega) only [push_cast,simprocAttr,k0,k1,ha,hid,↓gd]
  simpa [eV,enV,enC,ha] using done _
 simp -implicitDefEqProofs (disch:=omega) only [push_cast,simprocAttr,k0,k1,ha,hid,↓gd]
 refine (WordOk_ok text (by omega) _).to ?_
 cases hwt:wordOk text
 ·rw [hno (.inr (.inr (.inr hwt)))]
  simp -implicitDefEqProofs (disch:=omega) only [push_cast,simprocAttr,k0,k1,ha,hid,↓gd]
  simpa [eV,enV,enC,ha] using done _
 have hwl:=(wordOk_iff.1 hwt).2
 have hyes:callM e path text=({ e with strs:=e.strs++[{ newSt (2 * e.strs.length+1) with head:=callHead path text,say:=text }] },2 * (e.strs.length:Int)+1,true):=by
  rw [callM,if_neg]
  rintro (q | q | q | q)
  ·rw [ha] at q; cases q
  ·exact hid q
  ·rw [callHead_ok hwt,hwp] at q; cases q
  ·rw [hwt] at q; cases q
 rw [hyes]
 have hWc:=callM_w hW path text
 rw [hyes] at hWc
 generalize hE2:({ e with strs:=e.strs++[{ newSt (2 * e.strs.length+1) with head:=callHead path text,say:=text }] }:En)=E2 at hWc ⊢
 simp -implicitDefEqProofs (disch:=omega) only [push_cast,simprocAttr,k0,k1,ha,hid,↓gd]
 refine (newStream_ok _ _).to ?_
 simp -implicitDefEqProofs (disch:=omega) only [push_cast,simprocAttr,k0,k1,ha,hid,↓gd]
 refine (Itoa_ok text.length (by omega) _).to ?_
 have hb2:=hn.at_.1
 have hlen:=strsC_len e.strs
 have lb:=lt_of_some hb2
 simp -implicitDefEqProofs (disch:=omega) only [push_cast,simprocAttr,k0,k1,ha,hid,hb2,↓gd]
 repeat refine And.intro (by omega) ?_
 have hc2:=hn.at_.2
 have lc:=lt_of_some hc2
 have hbc:=hn.at_.ne
 refine ((eclone_ok (e:=E2) (b:=S1.length+4) (c:=c') (hWc.b (by decide)) ⟨?_,?_⟩).as (by rw [←hE2]; simp [eV,enV,enC,ha])).mono ?_
 ·rw [←hE2]
  simp -implicitDefEqProofs (disch:=omega) only [push_cast,simprocAttr,↓gd]
  rw [strsC_app,strsC_one]
  rfl
 ·rw [←hE2]
  simp -implicitDefEqProofs (disch:=omega) only [push_cast,simprocAttr,hc2,↓gd]
 rintro r S3 ⟨b3,c3,rfl,q3⟩
 have kz:S3[S.length+1]?=some (.cells 0 zE):=q3.upd.get (by simp -implicitDefEqProofs (disch:=omega) only [push_cast,simprocAttr,k1,↓gd]) (by simp)
 have lz:=lt_of_some kz
 have hu3:Upd [] S S3:=(((hx.upd.set (i:=b') .dead (.inl hx.hb)).app _).trans q3.upd)
 have e1:=q3.hb; have e2:=q3.hc
 simp at e1 e2
 have q4:EnNew S _ b3 c3 S3:=⟨q3.at_,by omega,by omega,hu3⟩
 have v1:=cells_ne q3.at_.1 kz (by decide)
 have v2:=cells_ne q3.at_.2 kz (by decide)
 simp -implicitDefEqProofs (disch:=omega) only [push_cast,simprocAttr,kz,↓gd]
 exact ⟨_,_,Wk.refl _ _ _,_,rfl,b3,c3,rfl,q4.set (j:=S.length+1) _ (by omega) v1 v2⟩
end
section
open Go
theorem EndLeave_ok {e:En} (he:EnB e) (id:Int) {S:List Blk} {b c:Nat} (h:EnAt S b c e):VCall Tryz.prog 104 [eV b c e,.int .i64 id] S fun r S' =>
  ∃v,r=.tup [v,.bool (endLeaveM e id).2]∧RNew S (endLeaveM e id).1 v S':=by
 have hok:=fun X=>EndOk_ok he (h.app X)
 have hcp:=fun X=>eclone_ok he (h.app X)
 refine VCall.en hDe Tryz.func104 Tryz.ntmps104 Tryz.results104 ?_
 simp -implicitDefEqProofs (disch:=omega) only [push_cast,simprocAttr,↓gd]
 refine ((hok _).as (by simp [eV,enV,enC])).to ?_
 cases hE:endOk e
 ·rw [endLeaveM,if_pos hE]
  simp -implicitDefEqProofs (disch:=omega) only [push_cast,simprocAttr,↓gd]
  exact RNew.zeroT (by simp [Plain])
 have hW:=endOk_w hE
 have hWl:=leaveM_w hW id
 rw [endLeaveM,if_neg (by rw [hE]; simp)]
 simp -implicitDefEqProofs (disch:=omega) only [push_cast,simprocAttr,↓gd]
 refine ((hcp _).as (by simp [eV,enV,enC])).mono ?_
 rintro r S1 ⟨b',c',rfl,hn⟩
 have k0:S1[S.length]?=some (.cells 0 (enC (.heap b e.strs.length) (.heap c e.wait.length) e)):=hn.upd.get (by simp -implicitDefEqProofs (disch:=omega) only [push_cast,simprocAttr,↓gd]) (by simp)
 have k1:S1[S.length+1]?=some (.cells 0 zE):=hn.upd.get (by simp -implicitDefEqProofs (disch:=omega) only [push_cast,simprocAttr,↓gd]) (by simp)
 have l0:=lt_of_some k0
 have l1:=lt_of_some k1
 have hx:=hn.app
 have hb1:=hn.hb; have hc1:=hn.hc
 simp at hb1 hc1
 have done:∀X,∃r S2,Wk S (.tup [eV b' c' e,.bool false]) (S1.set (S.length+1) (.cells 0 (enC (.heap b' e.strs.length) (.heap c' e.wait.length) e))++X) r S2∧∃v,r=.tup [v,.bool false]∧RNew S e v S2:=fun X =>
  ⟨_,_,Wk.refl _ _ _,_,rfl,b',c',rfl,(hx.set _ (by omega) (by omega) (by omega)).appR _⟩
 simp -implicitDefEqProofs (disch:=omega) only [push_cast,simprocAttr,↓gd]
 refine ((stream_ok he (p:=S1.length) (b:=b') (c:=c') ⟨?_,hn.at_.app _⟩ id).as rfl).to ?_
 ·simp -implicitDefEqProofs (disch:=omega) only [push_cast,simprocAttr,↓gd]
 have hb2:=hn.at_.1
 have hc2:=hn.at_.2
 have lb:=lt_of_some hb2
 have lc:=lt_of_some hc2
 have hbc:=hn.at_.ne
 have hlen:=strsC_len e.strs
 have hlw:=frmsC_len e.wait
 have hwn:e.wait.length≤1100000:=he.wait
 have hel:e.strs.length≤1100000:=he.len
 have fin:∀(E2:En) (c2:Nat) (ZZ:List Blk),leaveM e id=(E2,true)→EnW (60+1) E2→EnAt ZZ b' c2 E2→S1.length≤ZZ.length→(∀j,j < S1.length→j≠b'→j≠c'→ZZ[j]?=S1[j]?) →
   VCall Tryz.prog 42 [eV b' c2 E2] ZZ fun r S3=>∃b3 c3,r=eV b3 c3 E2∧EnNew S E2 b3 c3 S3∧S3[S.length+1]?=some (.cells 0 zE)∧b3≠S.length+1∧c3≠S.length+1∧S.length+1 < S3.length:=by
  intro E2 c2 ZZ hl hW2 hat hTl hTs
  refine (eclone_ok (hW2.b (by decide)) hat).mono ?_
  rintro r S3 ⟨b3,c3,rfl,q3⟩
  have hT:∀j,j < S1.length→j≠b'→j≠c'→S3[j]?=S1[j]?:=fun j hj h1 h2=>by rw [q3.upd.2 j (by omega) (by simp)]; exact hTs j hj h1 h2
  have hz:S3[S.length+1]?=some (.cells 0 zE):=by rw [hT _ l1 (by omega) (by omega)]; exact k1
  have lz:=lt_of_some hz
  have e1:=q3.hb; have e2:=q3.hc
  have hu3:Upd [] S S3:=⟨by have:=q3.upd.1; omega,fun j hj _=>by rw [hT j (by omega) (by omega) (by omega)]; exact hx.upd.2 j hj (by simp)⟩
  have q4:EnNew S E2 b3 c3 S3:=⟨q3.at_,by omega,by omega,hu3⟩
  have v1:=cells_ne q3.at_.1 hz (by decide)
  have v2:=cells_ne q3.at_.2 hz (by decide)
  exact ⟨b3,c3,rfl,q4,hz,v1,v2,lz⟩
 rcases Bool.eq_false_or_eq_true e.ans with ha | ha
 ·have hm:leaveM e id=(e,false):=by
   rw [leaveM]; split
   ·rfl
   ·rw [if_pos (.inl ha)]
  rw [hm]
  simp -implicitDefEqProofs (disch:=omega) only [push_cast,simprocAttr,k0,k1,ha,↓gd]
  simpa [eV,enV,enC,ha] using done _
 cases hat:atM e.strs id with
 | none =>
  have hap:atP e.strs b' id=.nilp:=by rw [atP,hat]
  have hm:leaveM e id=(e,false):=by rw [leaveM]; simp only [hat]
  rw [hm]
  simp -implicitDefEqProofs (disch:=omega) only [push_cast,simprocAttr,k0,k1,ha,hap,↓gd]
  simpa [eV,enV,enC,ha] using done _
 | some k =>
  obtain ⟨hk,hid⟩:=atM_some hat
  have hap:atP e.strs b' id=.ptr b' (k * 12):=by rw [atP,hat]
  have hst:=strsC_get hk (c:=1) (by decide)
  have hbg:=strsC_get hk (c:=4) (by decide)
  have hput:∀s',strC s'=(strC (e.strs.getD k st0)).set 1 (.int .i64 3)→splice (strsC e.strs) (k * 12+1) [.int .i64 3]=strsC (e.strs.set k s'):=fun s'=>strsC_put hk (by decide)
  have hm:leaveM e id=if (e.strs.getD k st0).state≠1 then (e,false) else
    ({ e with strs:=e.strs.set k { e.strs.getD k st0 with state:=3 },wait:=if (e.strs.getD k st0).begun then e.wait++[⟨3,false,id,[]⟩] else e.wait },true):=by
   rw [leaveM]; simp only [hat,stAt,setSt,ha,Bool.false_eq_true,false_or]; rfl
  generalize e.strs.getD k st0=s at hst hbg hput hm
  obtain ⟨sid,sst,shd,ssay,sbg,ssd,ssent,sgot,stx,shrd,ssnd,srm⟩:=s
  have hput:=hput ⟨sid,3,shd,ssay,sbg,ssd,ssent,sgot,stx,shrd,ssnd,srm⟩ rfl
  have g4:=get2 (l:=e.strs) (s:=⟨sid,3,shd,ssay,sbg,ssd,ssent,sgot,stx,shrd,ssnd,srm⟩) hk (c:=4) (by decide)
  by_cases hs1:sst=1
  ·rw [if_neg (by simp [hs1])] at hm
   rw [hm] at hWl
   cases sbg
   ·simp only [Bool.false_eq_true,if_false] at hm hWl
    generalize hE2:({ e with strs:=e.strs.set k ⟨sid,3,shd,ssay,false,ssd,ssent,sgot,stx,shrd,ssnd,srm⟩ }:En)=E2 at hm hWl
    rw [hm]
    simp -implicitDefEqProofs (disch:=omega) only [push_cast,simprocAttr,k0,k1,ha,hap,hb2,hst,hs1,g4,hput,↓gd]
    repeat refine And.intro (by omega) ?_
    refine ((fin E2 c' _ hm hWl ⟨?_,?_⟩ ?_ ?_).as (by rw [←hE2]; simp [eV,enV,enC,ha])).mono ?_
    ·rw [←hE2]
     simp -implicitDefEqProofs (disch:=omega) only [push_cast,simprocAttr,↓gd]
    ·rw [←hE2]
     simp -implicitDefEqProofs (disch:=omega) only [push_cast,simprocAttr,hc2,↓gd]
    ·simp
    ·intro j hj h1 h2
     rw [List.getElem?_append_left (by simpa using hj),get_set_ne (Ne.symm h1)]
    rintro r S3 ⟨b3,c3,rfl,q4,hz,v1,v2,lz⟩
    simp -implicitDefEqProofs (disch:=omega) only [push_cast,simprocAttr,hz,↓gd]
    exact ⟨_,_,Wk.refl _ _ _,_,rfl,b3,c3,rfl,q4.set (j:=S.length+1) _ (by omega) v1 v2⟩
   ·simp only [if_true] at hm hWl
    generalize hE2:({ e with strs:=e.strs.set k ⟨sid,3,shd,ssay,true,ssd,ssent,sgot,stx,shrd,ssnd,srm⟩,wait:=e.wait++[⟨3,false,id,[]⟩] }:En)=E2 at hm hWl
    rw [hm]
    simp -implicitDefEqProofs (disch:=omega) only [push_cast,simprocAttr,k0,k1,ha,hap,hb2,hc2,hst,hs1,g4,hput,↓gd]
    repeat refine And.intro (by omega) ?_
    refine ((fin E2 (S1.length+2) _ hm hWl ⟨?_,?_⟩ ?_ ?_).as (by rw [←hE2]; simp [eV,enV,enC,ha])).mono ?_
    ·rw [←hE2]
     simp -implicitDefEqProofs (disch:=omega) only [push_cast,simprocAttr,↓gd]
    ·rw [←hE2]
     simp -implicitDefEqProofs (disch:=omega) only [push_cast,simprocAttr,↓gd]
     rw [frmsC_app,frmsC_one]; rfl
    ·simp
    ·intro j hj h1 h2
     rw [List.getElem?_append_left (by simpa using hj),get_set_ne (Ne.symm h2),get_set_ne (Ne.symm h1)]
    rintro r S3 ⟨b3,c3,rfl,q4,hz,v1,v2,lz⟩
    simp -implicitDefEqProofs (disch:=omega) only [push_cast,simprocAttr,hz,↓gd]
    exact ⟨_,_,Wk.refl _ _ _,_,rfl,b3,c3,rfl,q4.set (j:=S.length+1) _ (by omega) v1 v2⟩
  ·rw [if_pos hs1] at hm
   rw [hm]
   simp -implicitDefEqProofs (disch:=omega) only [push_cast,simprocAttr,k0,k1,ha,hap,hb2,hst,hs1,↓gd]
   repeat refine And.intro (by omega) ?_
   simpa [eV,enV,enC,ha] using done _
end
end Go.Proofs.YtldogccmhncnoaaGreatDoor
