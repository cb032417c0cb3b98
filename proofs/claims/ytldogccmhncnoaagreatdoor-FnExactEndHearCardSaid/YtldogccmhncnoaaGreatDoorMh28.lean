/- A part of the proof: contracts of functions, or plain facts on which these lean. -/
import Derived.Test.YtldogccmhncnoaaGreatDoorMh24
import Derived.Test.YtldogccmhncnoaaGreatDoorMh25
import Derived.Test.YtldogccmhncnoaaGreatDoorMh27
namespace Go.Proofs.YtldogccmhncnoaaGreatDoor
open Go
set_option linter.unusedVariables false
set_option linter.unusedSimpArgs false
set_option maxRecDepth 100000
set_option maxHeartbeats 16000000

section
open Go
theorem Heard.app {S X:List Blk} {p b c:Nat} {E:En} {r:V} {S':List Blk} (h:Heard (S++X) p b c E r S'):Heard S p b c E r S':=by
 obtain ⟨b',c',E',ok,h1,h2,h3⟩:=h
 exact ⟨b',c',E',ok,h1,h2.app,h3⟩
theorem hear_ok {N:Nat} {e:En} (hW:EnW N e) (hN:N≤1100000) (hbad:e.bad=false) {f:Fr} (hf:frameOk f=true) {S:List Blk} {p b c:Nat} (h:PtrAt S p b c e) :
  VCall Tryz.prog 44 [.ptr p 0,frV f] S fun r S'=>Heard S p b c (frameM e f) r S':=by
 have he:=hW.b hN
 have hkd:=frameOk_kinds hf
 have kinds:∀k,f.kind=k→frameM e f=if k=1 then headFM e f else if k=0 then dataM e f else if k=8 then moreM e f
  else match atM e.strs f.stream with
   | none=>badM e
   | some k=>if e.ans=false then badM e else setSt e k { stAt e k with state:=3 }:=fun k hk=>by rw [←hk]; rfl
 by_cases k1:f.kind=1
 ·have hcon:=fun X=>hearHead_ok hW hN hbad hf k1 (h.app X)
  rw [kinds 1 k1,if_pos rfl]
  refine VCall.en hDe Tryz.func44 Tryz.ntmps44 Tryz.results44 ?_
  simp -implicitDefEqProofs (disch:=omega) only [push_cast,simprocAttr,k1,↓gd]
  refine ((hcon _).as (by simp [frV,frmC,k1])).mono ?_
  rintro r S' hh
  obtain ⟨b',c',E',ok,rfl,h2,h3⟩:=hh.app
  simp -implicitDefEqProofs (disch:=omega) only [push_cast,simprocAttr,↓gd]
  exact ⟨_,_,Wk.refl _ _ _,b',c',E',ok,rfl,h2,h3⟩
 by_cases k2:f.kind=0
 ·have hcon:=fun X=>hearData_ok hW hN hbad hf k2 (h.app X)
  rw [kinds 0 k2,if_neg (by decide),if_pos rfl]
  refine VCall.en hDe Tryz.func44 Tryz.ntmps44 Tryz.results44 ?_
  simp -implicitDefEqProofs (disch:=omega) only [push_cast,simprocAttr,k2,↓gd]
  refine ((hcon _).as (by simp [frV,frmC,k2])).mono ?_
  rintro r S' hh
  obtain ⟨b',c',E',ok,rfl,h2,h3⟩:=hh.app
  simp -implicitDefEqProofs (disch:=omega) only [push_cast,simprocAttr,↓gd]
  exact ⟨_,_,Wk.refl _ _ _,b',c',E',ok,rfl,h2,h3⟩
 by_cases k3:f.kind=8
 ·have hcon:=fun X=>hearMore_ok hW hN hbad hf k3 (h.app X)
  rw [kinds 8 k3,if_neg (by decide),if_neg (by decide),if_pos rfl]
  refine VCall.en hDe Tryz.func44 Tryz.ntmps44 Tryz.results44 ?_
  simp -implicitDefEqProofs (disch:=omega) only [push_cast,simprocAttr,k3,↓gd]
  refine ((hcon _).as (by simp [frV,frmC,k3])).mono ?_
  rintro r S' hh
  obtain ⟨b',c',E',ok,rfl,h2,h3⟩:=hh.app
  simp -implicitDefEqProofs (disch:=omega) only [push_cast,simprocAttr,↓gd]
  exact ⟨_,_,Wk.refl _ _ _,b',c',E',ok,rfl,h2,h3⟩
 have k4:f.kind=3:=by omega
 rw [kinds 3 k4,if_neg (by decide),if_neg (by decide),if_neg (by decide)]
 clear kinds
 obtain ⟨ans,out,outM,inn,innM,came,strs,snd,rm,wait,bad⟩:=e
 simp only at hbad
 subst hbad
 obtain ⟨n1,n2,n3,n4,n5,n6⟩:=h.nes
 have hv:S[p]?=some (.cells 0 (enC (.heap b strs.length) (.heap c wait.length) ⟨ans,out,outM,inn,innM,came,strs,snd,rm,wait,false⟩)):=h.var
 have hb:S[b]?=some (.cells 12 (strsC strs)):=h.at_.1
 have hc:S[c]?=some (.cells 4 (frmsC wait)):=h.at_.2
 have hlen:=strsC_len strs
 obtain ⟨fk,fl,fs,fb⟩:=f
 simp only at k4 ⊢
 subst k4
 refine VCall.en hDe Tryz.func44 Tryz.ntmps44 Tryz.results44 ?_
 simp -implicitDefEqProofs (disch:=omega) only [push_cast,simprocAttr,↓gd]
 refine ((stream_ok he (h.app _) fs).as rfl).to ?_
 cases ha:atM strs fs with
 | none =>
  have hap:atP strs b fs=.nilp:=by rw [atP,ha]
  simp only [badM]
  simp -implicitDefEqProofs (disch:=omega) only [push_cast,simprocAttr,hap,↓gd]
  exact Heard.still h rfl
 | some k =>
  obtain ⟨hk,hid⟩:=atM_some ha
  have hap:atP strs b fs=.ptr b (k * 12):=by rw [atP,ha]
  cases ans
  ·simp only [badM,if_true]
   simp -implicitDefEqProofs (disch:=omega) only [push_cast,simprocAttr,hap,hv,↓gd]
   exact Heard.still h rfl
  ·have hput:∀s',strC s'=(strC (strs.getD k st0)).set 1 (.int .i64 3)→splice (strsC strs) (k * 12+1) [.int .i64 3]=strsC (strs.set k s'):=fun s'=>strsC_put hk (by decide)
   simp only [stAt,setSt,Bool.true_eq_false,if_false]
   generalize strs.getD k st0=s at hput
   obtain ⟨sid,sst,shd,ssay,sbg,ssd,ssent,sgot,stx,shrd,ssnd,srm⟩:=s
   have hput:=hput ⟨sid,3,shd,ssay,sbg,ssd,ssent,sgot,stx,shrd,ssnd,srm⟩ rfl
   simp -implicitDefEqProofs (disch:=omega) only [push_cast,simprocAttr,hap,hv,hb,hput,↓gd]
   repeat refine And.intro (by omega) ?_
   refine ⟨_,_,Wk.refl _ _ _,b,c,⟨true,out,outM,inn,innM,came,strs.set k ⟨sid,3,shd,ssay,sbg,ssd,ssent,sgot,stx,shrd,ssnd,srm⟩,snd,rm,wait,false⟩,true,rfl,PtrTo.mk' (c:=c) b c ?_ ?_ ?_ (.inl rfl) (.inl rfl) (((Upd.refl _ _).set _ (.inr (by simp))).app _),rfl⟩
   ·simp -implicitDefEqProofs (disch:=omega) only [push_cast,simprocAttr,hv,↓gd]
   ·simp -implicitDefEqProofs (disch:=omega) only [push_cast,simprocAttr,↓gd]
   ·simp -implicitDefEqProofs (disch:=omega) only [push_cast,simprocAttr,hc,↓gd]
end
section
open Go
theorem Upd.mem3 {S S1 S2:List Blk} {p b c:Nat} (h:Upd [] S S1) (k:Upd [p,b,c] S1 S2) (hp:S.length≤p) (hb:S.length≤b) (hc:S.length≤c):Upd [] S S2:=h.then_ k (fun j hj hm=>by
 simp only [List.mem_cons,List.not_mem_nil,or_false] at hm
 omega)
theorem frR_neg {b:List UInt8} (h:(frR b).2.2 < 0):(frR b).2.1=0:=by
 unfold frR at h ⊢
 split
 ·rfl
 ·split
  ·rfl
  ·split
   ·rfl
   ·split
    ·rename_i h1 h2 h3 h4
     rw [if_neg h1,if_neg h2,if_neg h3,if_pos h4] at h
     simp at h
    ·rfl
theorem EndHear_ok {e:En} (he:EnB e) (bs:List UInt8) (hbs:bs.length≤1100000) {S:List Blk} {b c:Nat} (h:EnAt S b c e):VCall Tryz.prog 10 [eV b c e,.str bs] S fun r S'=>RNew S (endHearM e bs) r S':=by
 have hok:=fun X=>EndOk_ok he (h.app X)
 have hcp:=fun X=>eclone_ok he (h.app X)
 have hwn:=he.wait
 have hcm:=he.came
 refine VCall.en hDe Tryz.func10 Tryz.ntmps10 Tryz.results10 ?_
 simp -implicitDefEqProofs (disch:=omega) only [push_cast,simprocAttr,↓gd]
 refine ((hok _).as (by simp [eV,enV,enC])).to ?_
 cases hE:endOk e
 ·rw [endHearM,if_pos (.inl hE)]
  simp -implicitDefEqProofs (disch:=omega) only [push_cast,simprocAttr,↓gd]
  exact RNew.zero
 by_cases h3:(bs.length:Int) > 300
 ·rw [endHearM,if_pos (.inr (by omega))]
  simp -implicitDefEqProofs (disch:=omega) only [push_cast,simprocAttr,h3,↓gd]
  exact RNew.zero
 have hW:=endOk_w hE
 rw [endHearM,if_neg (by rintro (q | q); rw [hE] at q; cases q; omega),hearWM]
 simp -implicitDefEqProofs (disch:=omega) only [push_cast,simprocAttr,h3,↓gd]
 refine ((hcp _).as (by simp [eV,enV,enC])).mono ?_
 rintro r S1 ⟨b',c',rfl,hn⟩
 have k0:S1[S.length]?=some (.cells 0 (enC (.heap b e.strs.length) (.heap c e.wait.length) e)):=hn.upd.get (by simp -implicitDefEqProofs (disch:=omega) only [push_cast,simprocAttr,↓gd]) (by simp)
 have k1:S1[S.length+1]?=some (.cells 0 zE):=hn.upd.get (by simp -implicitDefEqProofs (disch:=omega) only [push_cast,simprocAttr,↓gd]) (by simp)
 have l0:=lt_of_some k0
 have l1:=lt_of_some k1
 have hx:=hn.app
 have hb1:=hn.hb; have hc1:=hn.hc
 simp at hb1 hc1
 have done:∀X,∃r S2,Wk S (eV b' c' e) (S1.set (S.length+1) (.cells 0 (enC (.heap b' e.strs.length) (.heap c' e.wait.length) e))++X) r S2∧RNew S e r S2:=fun X =>
  ⟨_,_,Wk.refl _ _ _,b',c',rfl,(hx.set _ (by omega) (by omega) (by omega)).appR _⟩
 rcases Bool.eq_false_or_eq_true e.bad with hbad | hbad
 ·rw [if_pos (.inl hbad)]
  simp -implicitDefEqProofs (disch:=omega) only [push_cast,simprocAttr,k0,k1,hbad,↓gd]
  simpa [eV,enV,enC,hbad] using done _
 by_cases h4:(e.came.length:Int)+bs.length > 300
 ·rw [if_pos (.inr (.inl (by omega)))]
  simp -implicitDefEqProofs (disch:=omega) only [push_cast,simprocAttr,k0,k1,hbad,h4,↓gd]
  simpa [eV,enV,enC,hbad] using done _
 by_cases h5:(e.wait.length:Int) > 40
 ·rw [if_pos (.inr (.inr (by omega)))]
  simp -implicitDefEqProofs (disch:=omega) only [push_cast,simprocAttr,k0,k1,hbad,h4,h5,↓gd]
  simpa [eV,enV,enC,hbad] using done _
 rw [if_neg (by rw [hbad]; rintro (q | q | q); cases q; omega; omega)]
 have hW0:EnW 60 { e with came:=e.came++bs }:=hW.withCame (by rw [List.length_append]; omega)
 rw [hearM]
 generalize hR:hearsM (e.came.length+bs.length+1) { e with came:=e.came++bs }=R
 have hl0:({ e with came:=e.came++bs }:En).came.length < e.came.length+bs.length+1:=by simp
 have hl6:({ e with came:=e.came++bs }:En).came.length≤600:=by simp; omega
 have hx0:EnNew S { e with came:=e.came++bs } b' c' S1:=⟨hx.at_,hx.hb,hx.hc,hx.upd⟩
 simp -implicitDefEqProofs (disch:=omega) only [push_cast,simprocAttr,k0,k1,hbad,h4,h5,↓gd]
 repeat refine And.intro (by omega) ?_
 refine wpV_loop (fun m t S2=>∃(n:Nat) (x:En) (b1 c1 M:Nat),m=(if x.bad then 0 else x.came.length+1)∧x.came.length < n∧x.came.length≤600∧R=hearsM n x∧EnW M x∧M+2 * x.came.length≤2000 ∧
  t 4=.ptr (S.length+1) 0∧t 5=.ptr S1.length 0∧PtrAt S2 S1.length b1 c1 x∧S2[S.length+1]?=some (.cells 0 zE)∧S.length≤b1∧S.length≤c1∧Upd [] S S2) ((e.came++bs).length+1)
  ⟨e.came.length+bs.length+1,{ e with came:=e.came++bs },b',c',60,by simp [hbad],hl0,hl6,hR.symm,hW0,by simp; omega,rfl,rfl,⟨by simp -implicitDefEqProofs (disch:=omega) only [push_cast,simprocAttr,hbad,↓gd],hx0.at_.app _⟩,by simp -implicitDefEqProofs (disch:=omega) only [push_cast,simprocAttr,k1,↓gd],hx.hb,hx.hc,hx.upd.app _⟩ ?_
 clear hR
 rintro m t S2 ⟨n,x,b1,c1,M,rfl,hn1,hx6,hrun,hxW,hM,h4',h5',hP,kz,hb2,hc2,hu⟩
 obtain ⟨n1,n2,n3,n4,n5,n6⟩:=hP.nes
 have kv:=hP.var
 have kb:=hP.at_.1
 have kc:=hP.at_.2
 have hlS1:S.length+1 < S1.length:=l1
 have lz:=lt_of_some kz
 refine wpV_of0 hDe ?_
 obtain ⟨n,rfl⟩:∃k,n=k+1:=⟨n - 1,by omega⟩
 rw [hearsM_succ] at hrun
 have endr:∀X,R=x→VCall Tryz.prog 42 [eV b1 c1 x] (S2++X) fun r S'=>∃b3 c3,r=eV b3 c3 x∧EnNew S x b3 c3 S'∧S'[S.length+1]?=some (.cells 0 zE):=fun X q =>
  (eclone_ok (hxW.b (by omega)) (hP.at_.app X)).mono fun r S' ⟨b3,c3,q1,q2⟩=>⟨b3,c3,q1,⟨q2.at_,by have:=q2.hb; simp at this; have:=hu.1; omega,by have:=q2.hc; simp at this; have:=hu.1; omega,(hu.app X).trans q2.upd⟩,q2.upd.get (by simp -implicitDefEqProofs (disch:=omega) only [push_cast,simprocAttr,kz,↓gd]) (by simp)⟩
 rcases Bool.eq_false_or_eq_true x.bad with hxb | hxb
 ·rw [if_pos hxb] at hrun
  have hend:=endr [] hrun
  rw [List.append_nil] at hend
  rw [hrun]
  simp -implicitDefEqProofs (disch:=omega) only [push_cast,simprocAttr,h4',h5',kv,hxb,↓gd]
  refine (hend.as (by simp [eV,enV,enC,hxb])).mono ?_
  rintro r S3 ⟨b3,c3,rfl,q3,kz3⟩
  have lz3:=lt_of_some kz3
  simp -implicitDefEqProofs (disch:=omega) only [push_cast,simprocAttr,h4',kz3,↓gd]
  exact ⟨_,_,Wk.refl _ _ _,b3,c3,rfl,q3.set (j:=S.length+1) _ (by omega) (cells_ne q3.at_.1 kz3 (by decide)) (cells_ne q3.at_.2 kz3 (by decide))⟩
 ·rw [if_neg (by rw [hxb]; simp)] at hrun
  simp -implicitDefEqProofs (disch:=omega) only [push_cast,simprocAttr,h4',h5',kv,hxb,↓gd]
  refine (FrameRead_ok x.came (by omega) _).to ?_
  have hsome:=@frR_some x.came
  have hneg:=@frR_neg x.came
  generalize hq:frR x.came=q at hrun hsome hneg
  obtain ⟨f,u,is⟩:=q
  simp only at hrun hsome hneg
  by_cases hi0:is=0
  ·subst hi0
   rw [if_neg (by omega),if_pos rfl] at hrun
   have hend:=endr [.cells 0 [.int .i64 f.kind,.bool f.last,.int .i64 f.stream,.str f.body]] hrun
   rw [hrun]
   simp -implicitDefEqProofs (disch:=omega) only [push_cast,simprocAttr,h4',h5',kv,hxb,↓gd]
   refine (hend.as (by simp [eV,enV,enC,hxb])).mono ?_
   rintro r S3 ⟨b3,c3,rfl,q3,kz3⟩
   have lz3:=lt_of_some kz3
   simp -implicitDefEqProofs (disch:=omega) only [push_cast,simprocAttr,h4',kz3,↓gd]
   exact ⟨_,_,Wk.refl _ _ _,b3,c3,rfl,q3.set (j:=S.length+1) _ (by omega) (cells_ne q3.at_.1 kz3 (by decide)) (cells_ne q3.at_.2 kz3 (by decide))⟩
  ·by_cases hi1:is < 0
   ·rw [if_pos hi1] at hrun
    have hu0:u=0:=hneg hi1
    subst hu0
    simp -implicitDefEqProofs (disch:=omega) only [push_cast,simprocAttr,h4',h5',kv,hxb,hi0,hi1,List.take_length,↓gd]
    repeat refine And.intro (by omega) ?_
    refine ⟨0,by omega,n+1,badM x,b1,c1,M,by simp [badM],hn1,hx6,?_,hxW.bad,hM,⟨?_,(hP.at_.set _ n1 n2).app _⟩,?_,hb2,hc2,(hu.set _ (.inl (by omega))).app _⟩
    ·rw [hrun,hearsM_succ]
     exact (if_pos rfl).symm
    ·simp -implicitDefEqProofs (disch:=omega) only [push_cast,simprocAttr,↓gd]
     rfl
    ·simp -implicitDefEqProofs (disch:=omega) only [push_cast,simprocAttr,kz,↓gd]
   ·rw [if_neg hi1,if_neg hi0] at hrun
    obtain ⟨r1,r2,r3,r4⟩:=hsome (by omega)
    have hx':EnW M { x with came:=x.came.drop u }:=hxW.withCame (by rw [List.length_drop]; omega)
    simp -implicitDefEqProofs (disch:=omega) only [push_cast,simprocAttr,h4',h5',kv,hxb,hi0,hi1,List.take_length,↓gd]
    repeat refine And.intro (by omega) ?_
    have hat:∀B Y,EnAt (S2.set S1.length B++Y) b1 c1 { x with came:=x.came.drop u }:=fun B Y=>(hP.at_.set B n1 n2).app Y
    have nz1:=cells_ne hP.at_.1 kz (by decide)
    have nz2:=cells_ne hP.at_.2 kz (by decide)
    refine ((hear_ok hx' (by omega) hxb r1 (p:=S1.length) (b:=b1) (c:=c1) ⟨?_,hat _ _⟩).as rfl).mono ?_
    ·simp -implicitDefEqProofs (disch:=omega) only [push_cast,simprocAttr,hxb,↓gd]
    rintro r S3 ⟨b3,c3,E',ok,rfl,hto,hE'⟩
    have kz3:=hto.upd.get (j:=S.length+1) (B:=.cells 0 zE) (by simp -implicitDefEqProofs (disch:=omega) only [push_cast,simprocAttr,kz,↓gd]) (by simp; omega)
    have kv3:=hto.at_.var
    obtain ⟨m1,m2,m3,m4,m5,m6⟩:=hto.at_.nes
    have hEw:=frameM_w hx' r1
    have hcl:(frameM { x with came:=x.came.drop u } f).came.length=x.came.length - u:=by rw [frameM_came,List.length_drop]
    have hlen3:=hto.upd.1
    have hb3:=hto.hb
    have hc3:=hto.hc
    simp at hlen3 hb3 hc3
    have hu3:Upd [] S S3:=((hu.set (i:=S1.length) _ (.inl (by omega))).app _).mem3 hto.upd (by omega) hb2 hc2
    rw [hE'] at hrun hEw hcl
    simp -implicitDefEqProofs (disch:=omega) only [push_cast,simprocAttr,h4',h5',kv3,hxb,hi0,hi1,↓gd]
    simp only at hcl
    have hcl2:E'.came.length=x.came.length - u:=hcl
    refine ⟨(if !ok then 0 else E'.came.length+1),by split <;> omega,n,{ E' with bad:=!ok },b3,c3,M+2,rfl,by simp only; omega,by simp only; omega,hrun,hEw,by simp only; omega,⟨?_,hto.at_.at_.set _ m1 m2⟩,by simp -implicitDefEqProofs (disch:=omega) only [push_cast,simprocAttr,kz3,↓gd],by omega,by omega,hu3.set _ (.inl (by omega))⟩
    simp -implicitDefEqProofs (disch:=omega) only [push_cast,simprocAttr,↓gd]
end
section
open Go
theorem EndHear_R (ow:Bool) {e:En} (he:EnB e) (bs:List UInt8) (hbs:bs.length≤1100000) {S:List Blk} {vo vi:V} {b c:Nat} {ls:List XS} (h:EnX S vo vi b c ls e):VCall Tryz.prog 10 [xV vo vi b c e,.str bs] S fun r S'=>RRes ow S (endHearM e bs) r S':=by
 have hok:=fun X=>EndOk_X he (h.app X)
 have hcp:=fun X=>eclone_X he (h.app X)
 have hcr:=fun X=>eclone_R ow he (h.app X)
 have vo1:=h.out.one
 have vi1:=h.inn.one
 have voe:=h.out.er
 have vie:=h.inn.er
 have voe1:=h.out.er1
 have vie1:=h.inn.er1
 have hwn:=he.wait
 have hcm:=he.came
 refine VCall.en hDe Tryz.func10 Tryz.ntmps10 Tryz.results10 ?_
 simp -implicitDefEqProofs (disch:=omega) only [push_cast,simprocAttr,vo1,vi1,voe,vie,↓gd]
 refine ((hok _).as (by simp [xV,enX,voe,vie,voe1,vie1])).to ?_
 cases hE:endOk e
 ·rw [endHearM,if_pos (.inl hE)]
  simp -implicitDefEqProofs (disch:=omega) only [push_cast,simprocAttr,↓gd]
  exact RRes.zero ow
 by_cases h3:(bs.length:Int) > 300
 ·rw [endHearM,if_pos (.inr (by omega))]
  simp -implicitDefEqProofs (disch:=omega) only [push_cast,simprocAttr,h3,↓gd]
  exact RRes.zero ow
 have hW:=endOk_w hE
 rw [endHearM,if_neg (by rintro (q | q); rw [hE] at q; cases q; omega),hearWM]
 by_cases hstop:e.bad=true∨(e.came.length:Int)+bs.length > 300∨(e.wait.length:Int) > 40
 ·rw [if_pos (by rcases hstop with q | q | q; exact .inl q; exact .inr (.inl (by omega)); exact .inr (.inr (by omega)))]
  simp -implicitDefEqProofs (disch:=omega) only [push_cast,simprocAttr,h3,vo1,vi1,voe,vie,↓gd]
  refine ((hcr _).as (by simp [xV,enX,voe,vie,voe1,vie1])).mono ?_
  rintro r S1 ⟨vo',vi',b',c',rfl,hn⟩
  have k0:=hn.upd.get (j:=S.length) (B:=.cells 0 (enX vo vi (.heap b e.strs.length) (.heap c e.wait.length) e)) (by simp -implicitDefEqProofs (disch:=omega) only [push_cast,simprocAttr,↓gd]) (by simp)
  have k1:=hn.upd.get (j:=S.length+1) (B:=.cells 0 zE) (by simp -implicitDefEqProofs (disch:=omega) only [push_cast,simprocAttr,↓gd]) (by simp)
  have l0:=lt_of_some k0
  have l1:=lt_of_some k1
  obtain ⟨w1,w2⟩:=hn.one
  obtain ⟨w3,w4⟩:=hn.er
  have hn':=hn.of ((Upd.refl _ _).app _)
  have done:∀X,∃r S2,Wk S (xV vo' vi' b' c' e) (S1.set (S.length+1) (.cells 0 (enX vo' vi' (.heap b' e.strs.length) (.heap c' e.wait.length) e))++X) r S2∧RRes ow S e r S2:=fun X =>
   ⟨_,_,Wk.refl _ _ _,vo',vi',b',c',rfl,(hn'.setVar _ k1 (by omega)).appR _⟩
  rcases Bool.eq_false_or_eq_true e.bad with hbad | hbad
  ·simp -implicitDefEqProofs (disch:=omega) only [push_cast,simprocAttr,k0,k1,hbad,w1,w2,w3,w4,vo1,vi1,voe,vie,↓gd]
   simpa [xV,enX,hbad] using done _
  by_cases h4:(e.came.length:Int)+bs.length > 300
  ·simp -implicitDefEqProofs (disch:=omega) only [push_cast,simprocAttr,k0,k1,hbad,h4,w1,w2,w3,w4,vo1,vi1,voe,vie,↓gd]
   simpa [xV,enX,hbad] using done _
  have h5:(e.wait.length:Int) > 40:=by
   rcases hstop with q | q | q
   ·rw [hbad] at q; cases q
   ·exact absurd q h4
   ·exact q
  simp -implicitDefEqProofs (disch:=omega) only [push_cast,simprocAttr,k0,k1,hbad,h4,h5,w1,w2,w3,w4,vo1,vi1,voe,vie,↓gd]
  simpa [xV,enX,hbad] using done _
 have hbad:e.bad=false:=by cases q:e.bad; rfl; exact absurd (.inl q) hstop
 have h4:¬(e.came.length:Int)+bs.length > 300:=fun q=>hstop (.inr (.inl q))
 have h5:¬(e.wait.length:Int) > 40:=fun q=>hstop (.inr (.inr q))
 simp -implicitDefEqProofs (disch:=omega) only [push_cast,simprocAttr,h3,vo1,vi1,voe,vie,↓gd]
 refine ((hcp _).as (by simp [xV,enX,voe,vie,voe1,vie1])).mono ?_
 rintro r S1 ⟨b',c',rfl,hn⟩
 have k0:S1[S.length]?=some (.cells 0 (enX vo vi (.heap b e.strs.length) (.heap c e.wait.length) e)):=hn.upd.get (by simp -implicitDefEqProofs (disch:=omega) only [push_cast,simprocAttr,↓gd]) (by simp)
 have k1:S1[S.length+1]?=some (.cells 0 zE):=hn.upd.get (by simp -implicitDefEqProofs (disch:=omega) only [push_cast,simprocAttr,↓gd]) (by simp)
 have l0:=lt_of_some k0
 have l1:=lt_of_some k1
 have hx:=hn.app
 have hb1:=hn.hb; have hc1:=hn.hc
 simp at hb1 hc1
 rw [if_neg (by rw [hbad]; rintro (q | q | q); cases q; omega; omega)]
 have hW0:EnW 60 { e with came:=e.came++bs }:=hW.withCame (by rw [List.length_append]; omega)
 rw [hearM]
 generalize hR:hearsM (e.came.length+bs.length+1) { e with came:=e.came++bs }=R
 have hl0:({ e with came:=e.came++bs }:En).came.length < e.came.length+bs.length+1:=by simp
 have hl6:({ e with came:=e.came++bs }:En).came.length≤600:=by simp; omega
 have hx0:EnNew S { e with came:=e.came++bs } b' c' S1:=⟨hx.at_,hx.hb,hx.hc,hx.upd⟩
 simp -implicitDefEqProofs (disch:=omega) only [push_cast,simprocAttr,k0,k1,hbad,h4,h5,vo1,vi1,voe,vie,↓gd]
 repeat refine And.intro (by omega) ?_
 refine wpV_loop (fun m t S2=>∃(n:Nat) (x:En) (b1 c1 M:Nat),m=(if x.bad then 0 else x.came.length+1)∧x.came.length < n∧x.came.length≤600∧R=hearsM n x∧EnW M x∧M+2 * x.came.length≤2000 ∧
  t 4=.ptr (S.length+1) 0∧t 5=.ptr S1.length 0∧PtrAt S2 S1.length b1 c1 x∧S2[S.length+1]?=some (.cells 0 zE)∧S.length≤b1∧S.length≤c1∧Upd [] S S2) ((e.came++bs).length+1)
  ⟨e.came.length+bs.length+1,{ e with came:=e.came++bs },b',c',60,by simp [hbad],hl0,hl6,hR.symm,hW0,by simp; omega,rfl,rfl,⟨by simp -implicitDefEqProofs (disch:=omega) only [push_cast,simprocAttr,hbad,↓gd],hx0.at_.app _⟩,by simp -implicitDefEqProofs (disch:=omega) only [push_cast,simprocAttr,k1,↓gd],hx.hb,hx.hc,hx.upd.app _⟩ ?_
 clear hR
 rintro m t S2 ⟨n,x,b1,c1,M,rfl,hn1,hx6,hrun,hxW,hM,h4',h5',hP,kz,hb2,hc2,hu⟩
 obtain ⟨n1,n2,n3,n4,n5,n6⟩:=hP.nes
 have kv:=hP.var
 have kb:=hP.at_.1
 have kc:=hP.at_.2
 have hlS1:S.length+1 < S1.length:=l1
 have lz:=lt_of_some kz
 refine wpV_of0 hDe ?_
 obtain ⟨n,rfl⟩:∃k,n=k+1:=⟨n - 1,by omega⟩
 rw [hearsM_succ] at hrun
 have endr:∀X,R=x→VCall Tryz.prog 42 [eV b1 c1 x] (S2++X) fun r S'=>∃vo3 vi3 b3 c3,r=xV vo3 vi3 b3 c3 x∧Res ow S vo3 vi3 b3 c3 x S'∧S'[S.length+1]?=some (.cells 0 zE):=fun X q =>
  (eclone_R ow (hxW.b (by omega)) (hP.at_.app X).x).mono fun r S' ⟨vo3,vi3,b3,c3,q1,q2⟩=>⟨vo3,vi3,b3,c3,q1,q2.of (hu.app X),q2.upd.get (by simp -implicitDefEqProofs (disch:=omega) only [push_cast,simprocAttr,kz,↓gd]) (by simp)⟩
 rcases Bool.eq_false_or_eq_true x.bad with hxb | hxb
 ·rw [if_pos hxb] at hrun
  have hend:=endr [] hrun
  rw [List.append_nil] at hend
  rw [hrun]
  simp -implicitDefEqProofs (disch:=omega) only [push_cast,simprocAttr,h4',h5',kv,hxb,↓gd]
  refine (hend.as (by simp [eV,enV,enC,hxb])).mono ?_
  rintro r S3 ⟨vo3,vi3,b3,c3,rfl,q3,kz3⟩
  have lz3:=lt_of_some kz3
  obtain ⟨w1,w2⟩:=q3.one
  obtain ⟨w3,w4⟩:=q3.er
  simp -implicitDefEqProofs (disch:=omega) only [push_cast,simprocAttr,h4',kz3,w1,w2,w3,w4,↓gd]
  exact ⟨_,_,Wk.refl _ _ _,vo3,vi3,b3,c3,rfl,q3.setVar _ kz3 (by omega)⟩
 ·rw [if_neg (by rw [hxb]; simp)] at hrun
  simp -implicitDefEqProofs (disch:=omega) only [push_cast,simprocAttr,h4',h5',kv,hxb,↓gd]
  refine (FrameRead_ok x.came (by omega) _).to ?_
  have hsome:=@frR_some x.came
  have hneg:=@frR_neg x.came
  generalize hq:frR x.came=q at hrun hsome hneg
  obtain ⟨f,u,is⟩:=q
  simp only at hrun hsome hneg
  by_cases hi0:is=0
  ·subst hi0
   rw [if_neg (by omega),if_pos rfl] at hrun
   have hend:=endr [.cells 0 [.int .i64 f.kind,.bool f.last,.int .i64 f.stream,.str f.body]] hrun
   rw [hrun]
   simp -implicitDefEqProofs (disch:=omega) only [push_cast,simprocAttr,h4',h5',kv,hxb,↓gd]
   refine (hend.as (by simp [eV,enV,enC,hxb])).mono ?_
   rintro r S3 ⟨vo3,vi3,b3,c3,rfl,q3,kz3⟩
   have lz3:=lt_of_some kz3
   obtain ⟨w1,w2⟩:=q3.one
   obtain ⟨w3,w4⟩:=q3.er
   simp -implicitDefEqProofs (disch:=omega) only [push_cast,simprocAttr,h4',kz3,w1,w2,w3,w4,↓gd]
   exact ⟨_,_,Wk.refl _ _ _,vo3,vi3,b3,c3,rfl,q3.setVar _ kz3 (by omega)⟩
  ·by_cases hi1:is < 0
   ·rw [if_pos hi1] at hrun
    have hu0:u=0:=hneg hi1
    subst hu0
    simp -implicitDefEqProofs (disch:=omega) only [push_cast,simprocAttr,h4',h5',kv,hxb,hi0,hi1,List.take_length,↓gd]
    repeat refine And.intro (by omega) ?_
    refine ⟨0,by omega,n+1,badM x,b1,c1,M,by simp [badM],hn1,hx6,?_,hxW.bad,hM,⟨?_,(hP.at_.set _ n1 n2).app _⟩,?_,hb2,hc2,(hu.set _ (.inl (by omega))).app _⟩
    ·rw [hrun,hearsM_succ]
     exact (if_pos rfl).symm
    ·simp -implicitDefEqProofs (disch:=omega) only [push_cast,simprocAttr,↓gd]
     rfl
    ·simp -implicitDefEqProofs (disch:=omega) only [push_cast,simprocAttr,kz,↓gd]
   ·rw [if_neg hi1,if_neg hi0] at hrun
    obtain ⟨r1,r2,r3,r4⟩:=hsome (by omega)
    have hx':EnW M { x with came:=x.came.drop u }:=hxW.withCame (by rw [List.length_drop]; omega)
    simp -implicitDefEqProofs (disch:=omega) only [push_cast,simprocAttr,h4',h5',kv,hxb,hi0,hi1,List.take_length,↓gd]
    repeat refine And.intro (by omega) ?_
    have hat:∀B Y,EnAt (S2.set S1.length B++Y) b1 c1 { x with came:=x.came.drop u }:=fun B Y=>(hP.at_.set B n1 n2).app Y
    have nz1:=cells_ne hP.at_.1 kz (by decide)
    have nz2:=cells_ne hP.at_.2 kz (by decide)
    refine ((hear_ok hx' (by omega) hxb r1 (p:=S1.length) (b:=b1) (c:=c1) ⟨?_,hat _ _⟩).as rfl).mono ?_
    ·simp -implicitDefEqProofs (disch:=omega) only [push_cast,simprocAttr,hxb,↓gd]
    rintro r S3 ⟨b3,c3,E',ok,rfl,hto,hE'⟩
    have kz3:=hto.upd.get (j:=S.length+1) (B:=.cells 0 zE) (by simp -implicitDefEqProofs (disch:=omega) only [push_cast,simprocAttr,kz,↓gd]) (by simp; omega)
    have kv3:=hto.at_.var
    obtain ⟨m1,m2,m3,m4,m5,m6⟩:=hto.at_.nes
    have hEw:=frameM_w hx' r1
    have hcl:(frameM { x with came:=x.came.drop u } f).came.length=x.came.length - u:=by rw [frameM_came,List.length_drop]
    have hlen3:=hto.upd.1
    have hb3:=hto.hb
    have hc3:=hto.hc
    simp at hlen3 hb3 hc3
    have hu3:Upd [] S S3:=((hu.set (i:=S1.length) _ (.inl (by omega))).app _).mem3 hto.upd (by omega) hb2 hc2
    rw [hE'] at hrun hEw hcl
    simp -implicitDefEqProofs (disch:=omega) only [push_cast,simprocAttr,h4',h5',kv3,hxb,hi0,hi1,↓gd]
    simp only at hcl
    have hcl2:E'.came.length=x.came.length - u:=hcl
    refine ⟨(if !ok then 0 else E'.came.length+1),by split <;> omega,n,{ E' with bad:=!ok },b3,c3,M+2,rfl,by simp only; omega,by simp only; omega,hrun,hEw,by simp only; omega,⟨?_,hto.at_.at_.set _ m1 m2⟩,by simp -implicitDefEqProofs (disch:=omega) only [push_cast,simprocAttr,kz3,↓gd],by omega,by omega,hu3.set _ (.inl (by omega))⟩
    simp -implicitDefEqProofs (disch:=omega) only [push_cast,simprocAttr,↓gd]
end
section
open Go
def Unm:Blk→Prop
 | .cells sz _=>sz < 1000000
 | _=>True
def UpdU (n:Nat) (S S':List Blk):Prop:=S.length≤S'.length∧∀(j:Nat) (B:Blk),S[j]?=some B→j < n∨Unm B→S'[j]?=some B
theorem UpdU.trans {n:Nat} {S S1 S2:List Blk} (h:UpdU n S S1) (k:UpdU n S1 S2):UpdU n S S2:=⟨Nat.le_trans h.1 k.1,fun j B a b=>k.2 j B (h.2 j B a b) b⟩
end
section
open Go
theorem EnO.of {T S S':List Blk} {po pi b c:Nat} {ls:List XS} {e:En} (h:EnO T po pi b c ls e S') (hu:Upd [] S T):EnO S po pi b c ls e S' :=
 ⟨h.strs,h.kb,h.kc,h.out,h.inn,h.own,h.lt,fun p hp=>Nat.le_trans hu.1 (h.lo p hp),Nat.le_trans hu.1 h.hb,Nat.le_trans hu.1 h.hc,hu.trans h.upd⟩
theorem EnO.below {S S':List Blk} {po pi b c:Nat} {ls:List XS} {e:En} (h:EnO S po pi b c ls e S'):∀p ∈ b :: c :: po :: pi :: fb ls,p < S'.length:=fun p hp=>by
 simp only [List.mem_cons] at hp
 rcases hp with rfl | rfl | rfl | rfl | hp
 ·exact lt_of_some h.kb
 ·exact lt_of_some h.kc
 ·exact lt_of_some h.out
 ·exact lt_of_some h.inn
 ·exact h.own.lt p hp
theorem EnO.above {S S':List Blk} {po pi b c:Nat} {ls:List XS} {e:En} (h:EnO S po pi b c ls e S'):∀p ∈ b :: c :: po :: pi :: fb ls,S.length≤p:=fun p hp=>by
 simp only [List.mem_cons] at hp
 rcases hp with rfl | rfl | hp
 ·exact h.hb
 ·exact h.hc
 ·exact h.lo p (by simpa using hp)
end
section
open Go
def mdig (k:Nat):List UInt8:=if h:k=0 then [] else mdig (k / 10)++[UInt8.ofNat (48+k % 10)]
termination_by k
decreasing_by omega
theorem mdig_zero:mdig 0=[]:=by rw [mdig]; simp
theorem mdig_pos {k:Nat} (h:0 < k):mdig k=mdig (k / 10)++[UInt8.ofNat (48+k % 10)]:=by
 rw [mdig,dif_neg (by omega)]
theorem mdig_len:∀k:Nat,(mdig k).length≤k:=by
 intro k
 induction k using Nat.strongRecOn with
 | _ k ih =>
  by_cases h:k=0
  ·subst h; rw [mdig_zero]; exact Nat.le_refl _
  ·rw [mdig_pos (by omega),List.length_append]
   have:=ih (k / 10) (by omega)
   simp only [List.length_cons,List.length_nil]
   omega
def mtext (k:Nat):List UInt8:=if k=0 then [109,48] else 109 :: mdig k
def mkF (k:Nat):Fd:=⟨mtext k,mtext (k+1),decide ((k+2) % 3=0)⟩
def mkFs:Nat→Nat→List Fd
 | 0,_=>[]
 | n+1,k=>mkF k :: mkFs n (k+3)
theorem mkFs_len:∀n k,(mkFs n k).length=n
 | 0,_=>rfl
 | n+1,k=>by rw [mkFs,List.length_cons,mkFs_len n]
theorem mkFs_snoc:∀n k,mkFs (n+1) k=mkFs n k++[mkF (k+3 * n)]
 | 0,k=>rfl
 | n+1,k=>by
  rw [mkFs,mkFs_snoc n (k+3),mkFs,List.cons_append,show k+3+3 * n=k+3 * (n+1) from by omega]
theorem mkFs_get:∀n k i,i < n→(mkFs n k).getD i ⟨[],[],false⟩=mkF (k+3 * i)
 | 0,_,_,h=>by omega
 | n+1,k,0,_=>rfl
 | n+1,k,i+1,h=>by
  rw [mkFs,List.getD_cons_succ,mkFs_get n (k+3) i (by omega),show k+3+3 * i=k+3 * (i+1) from by omega]
def mkS (s:St) (k:Nat):St :=
 let h:=3 * s.head.length
 let g:=3 * s.got.length
 { s with id:=k,state:=(k+1:Nat),head:=mkFs s.head.length (k+2),say:=mtext (k+2+h),begun:=decide ((k+3+h) % 3=0),said:=decide ((k+4+h) % 3=0),sent:=(k+5+h:Nat),got:=mkFs s.got.length (k+6+h),text:=mtext (k+6+h+g),heard:=decide ((k+7+h+g) % 3=0),send:=(k+8+h+g:Nat),room:=(k+9+h+g:Nat) }
def cntS (s:St):Nat:=10+3 * s.head.length+3 * s.got.length
def mkSs:List St→Nat→List St
 | [],_=>[]
 | s :: l,k=>mkS s k :: mkSs l (k+cntS s)
def cntSs:List St→Nat
 | []=>0
 | s :: l=>cntS s+cntSs l
theorem mkSs_len:∀l k,(mkSs l k).length=l.length
 | [],_=>rfl
 | s :: l,k=>by rw [mkSs,List.length_cons,List.length_cons,mkSs_len l]
theorem cntSs_app:∀l m,cntSs (l++m)=cntSs l+cntSs m
 | [],m=>by simp [cntSs]
 | s :: l,m=>by rw [List.cons_append,cntSs,cntSs,cntSs_app l m]; omega
def mkFr (k:Nat):Fr:=⟨k,decide ((k+1) % 3=0),(k+2:Nat),mtext (k+3)⟩
def mkFrs:Nat→Nat→List Fr
 | 0,_=>[]
 | n+1,k=>mkFr k :: mkFrs n (k+4)
theorem mkFrs_len:∀n k,(mkFrs n k).length=n
 | 0,_=>rfl
 | n+1,k=>by rw [mkFrs,List.length_cons,mkFrs_len n]
theorem mkFrs_snoc:∀n k,mkFrs (n+1) k=mkFrs n k++[mkFr (k+4 * n)]
 | 0,k=>rfl
 | n+1,k=>by
  rw [mkFrs,mkFrs_snoc n (k+4),mkFrs,List.cons_append,show k+4+4 * n=k+4 * (n+1) from by omega]
def markE (e:En) (k:Nat):En :=
 let k1:=k+3 * e.out.length
 let k2:=k1+3 * e.inn.length
 let k3:=k2+cntSs e.strs
 { e with out:=mkFs e.out.length k,inn:=mkFs e.inn.length k1,strs:=mkSs e.strs k2,wait:=mkFrs e.wait.length k3 }
def cntE (e:En):Nat:=3 * e.out.length+3 * e.inn.length+cntSs e.strs+4 * e.wait.length
theorem cntSs_le:∀(l:List St) (B:Nat),(∀s ∈ l,s.head.length≤B∧s.got.length≤B)→cntSs l≤l.length * (10+6 * B)
 | [],B,_=>by simp [cntSs]
 | s :: l,B,h=>by
  have h1:=h s (List.mem_cons_self ..)
  have h2:=cntSs_le l B fun t ht=>h t (List.mem_cons_of_mem _ ht)
  rw [cntSs,cntS,List.length_cons,Nat.add_mul,Nat.one_mul]
  omega
end
section
open Go
def mkX (x:XS) (k:Nat):XS:=(mkS x.1 k,x.2.1,x.2.2)
def cntX (ls:List XS):Nat:=cntSs (ls.map Prod.fst)
def mkXs:List XS→Nat→List XS
 | [],_=>[]
 | x :: ls,k=>mkX x k :: mkXs ls (k+cntS x.1)
theorem mkXs_len:∀ls k,(mkXs ls k).length=ls.length
 | [],_=>rfl
 | x :: ls,k=>by rw [mkXs,List.length_cons,List.length_cons,mkXs_len ls]
theorem mkXs_fst:∀ls k,(mkXs ls k).map Prod.fst=mkSs (ls.map Prod.fst) k
 | [],_=>rfl
 | x :: ls,k=>by rw [mkXs,List.map_cons,List.map_cons,mkSs,mkXs_fst ls]; rfl
theorem mkXs_fb:∀ls k,fb (mkXs ls k)=fb ls
 | [],_=>rfl
 | x :: ls,k=>by
  have:=mkXs_fb ls (k+cntS x.1)
  unfold fb at this ⊢
  rw [mkXs,List.flatMap_cons,List.flatMap_cons,this]
  rfl
theorem mkXs_app:∀ls ms k,mkXs (ls++ms) k=mkXs ls k++mkXs ms (k+cntX ls)
 | [],ms,k=>by simp [mkXs,cntX,cntSs]
 | x :: ls,ms,k=>by
  rw [List.cons_append,mkXs,mkXs,mkXs_app ls ms,List.cons_append]
  congr 3
  simp only [cntX,List.map_cons,cntSs]
  omega
theorem cntX_app (ls ms:List XS):cntX (ls++ms)=cntX ls+cntX ms:=by rw [cntX,List.map_append,cntSs_app]; rfl
def mkTo (ls:List XS) (k i:Nat):List XS:=mkXs (ls.take i) k++ls.drop i
theorem mkTo_zero (ls:List XS) (k:Nat):mkTo ls k 0=ls:=by simp [mkTo,mkXs]
theorem mkTo_all (ls:List XS) (k:Nat):mkTo ls k ls.length=mkXs ls k:=by simp [mkTo]
theorem mkTo_len (ls:List XS) (k i:Nat):(mkTo ls k i).length=ls.length:=by
 rw [mkTo,List.length_append,mkXs_len,←List.length_append,List.take_append_drop]
theorem mkTo_fb (ls:List XS) (k i:Nat):fb (mkTo ls k i)=fb ls:=by
 rw [mkTo,fb_app,mkXs_fb,←fb_app,List.take_append_drop]
theorem mkTo_get (ls:List XS) (k:Nat) {i:Nat} (h:i < ls.length):(mkTo ls k i).getD i xs0=ls.getD i xs0:=by
 rw [mkTo,List.getD_eq_getElem?_getD,List.getElem?_append_right (by rw [mkXs_len,List.length_take]; omega),mkXs_len,List.length_take,Nat.min_eq_left (by omega),List.getElem?_drop,List.getD_eq_getElem?_getD]
 simp
theorem take_xs {ls:List XS} {i:Nat} (h:i < ls.length):ls.take (i+1)=ls.take i++[ls.getD i xs0]:=by
 rw [List.take_add_one,List.getD_eq_getElem?_getD,List.getElem?_eq_getElem h]
 rfl
theorem mkTo_succ (ls:List XS) (k:Nat) {i:Nat} (h:i < ls.length):mkTo ls k (i+1)=(mkTo ls k i).set i (mkX (ls.getD i xs0) (k+cntX (ls.take i))):=by
 have hl:(mkXs (ls.take i) k).length=i:=by rw [mkXs_len,List.length_take]; omega
 have hd:ls.drop i=ls.getD i xs0 :: ls.drop (i+1):=by
  rw [List.drop_eq_getElem_cons h,List.getD_eq_getElem?_getD,List.getElem?_eq_getElem h]; rfl
 rw [mkTo,mkTo,take_xs h,mkXs_app,List.append_assoc,List.set_append_right _ _ (by omega),hl,Nat.sub_self,hd]
 rfl
theorem cntX_succ {ls:List XS} {i:Nat} (h:i < ls.length):cntX (ls.take (i+1))=cntX (ls.take i)+cntS (ls.getD i xs0).1:=by
 rw [take_xs h,cntX_app]
 simp [cntX,cntSs]
end
section
open Go
def sumL {α:Type} (f:α→Nat):List α→Nat
 | []=>0
 | a :: l=>f a+sumL f l
section
variable {α:Type} {f:α→Nat}
theorem sumL_app:∀l k:List α,sumL f (l++k)=sumL f l+sumL f k
 | [],k=>by simp [sumL]
 | a :: l,k=>by rw [List.cons_append,sumL,sumL,sumL_app l k]; omega
theorem sumL_snoc {l:List α} {i:Nat} (d:α) (h:i < l.length):sumL f (l.take (i+1))=sumL f (l.take i)+f (l.getD i d):=by
 rw [List.take_add_one,List.getElem?_eq_getElem h,sumL_app,List.getD_eq_getElem?_getD,List.getElem?_eq_getElem h]
 simp [sumL]
theorem sumL_part (l:List α) (i:Nat):sumL f (l.take i)≤sumL f l:=by
 conv=>rhs; rw [←List.take_append_drop i l,sumL_app]
 omega
theorem sumL_mem {l:List α} {a:α} (h:a ∈ l):f a≤sumL f l:=by
 induction l with
 | nil=>cases h
 | cons b l ih =>
  rw [sumL]
  rcases List.mem_cons.1 h with rfl | h
  ·omega
  ·have:=ih h; omega
end
def cF (f:Fd):Nat:=f.name.length+f.val.length
def cFs (l:List Fd):Nat:=l.length+sumL cF l
def cS (s:St):Nat:=cFs s.head+s.say.length+cFs s.got+s.text.length
def cSs (l:List St):Nat:=l.length+sumL cS l
def cFr (f:Fr):Nat:=f.body.length
def cFrs (l:List Fr):Nat:=l.length+sumL cFr l
def cE (e:En):Nat:=cFs e.out+cFs e.inn+e.came.length+cSs e.strs+cFrs e.wait
def subN (left:Int) (n:Nat):Int:=if (n:Int)≤left then left - n else -1
theorem subN_in {left:Int} {n:Nat} (h:(n:Int)≤left):subN left n=left - n:=if_pos h
theorem subN_no {left:Int} {n:Nat} (h:¬(n:Int)≤left):subN left n=-1:=if_neg h
theorem cFs_b {l:List Fd} (h:cFs l≤1048576):FdsB l:=by
 unfold cFs at h
 refine ⟨by omega,fun f hf=>?_⟩
 have:=sumL_mem (f:=cF) hf
 have e:cF f=f.name.length+f.val.length:=rfl
 exact ⟨by omega,by omega⟩
theorem cS_b {s:St} (h:cS s≤1048576):StB s:=by
 unfold cS at h
 exact ⟨cFs_b (by omega),cFs_b (by omega),by omega,by omega⟩
theorem cE_b {e:En} (h:cE e≤1048576):EnB e:=by
 unfold cE at h
 have hs:cSs e.strs≤1048576:=by omega
 have hw:cFrs e.wait≤1048576:=by omega
 unfold cSs at hs
 unfold cFrs at hw
 refine ⟨fun s hm=>cS_b ?_,by omega,by omega,cFs_b (by omega),cFs_b (by omega),by omega⟩
 have:=sumL_mem (f:=cS) hm
 omega
theorem cntSs_c:∀l:List St,cntSs l≤10 * l.length+3 * sumL cS l
 | []=>by simp [cntSs]
 | s :: l=>by
  have:=cntSs_c l
  have e1:cntS s=10+3 * s.head.length+3 * s.got.length:=rfl
  have e2:cS s=s.head.length+sumL cF s.head+s.say.length+(s.got.length+sumL cF s.got)+s.text.length:=rfl
  rw [cntSs,sumL,List.length_cons]
  omega
theorem cntE_c (e:En):cntE e≤10 * cE e:=by
 have:=cntSs_c e.strs
 have e1:cntE e=3 * e.out.length+3 * e.inn.length+cntSs e.strs+4 * e.wait.length:=rfl
 have e2:cE e=e.out.length+sumL cF e.out+(e.inn.length+sumL cF e.inn)+e.came.length+(e.strs.length+sumL cS e.strs)+(e.wait.length+sumL cFr e.wait):=rfl
 omega
theorem EnW.few {N:Nat} {e:En} (h:EnW N e):e.strs.length≤7:=by
 have:=stsOk_len h.sts
 omega
theorem size_few:∀l:List Fd,4 * l.length≤fdsSize l
 | []=>by simp
 | f :: l=>by
  have:=size_few l
  simp only [fdsSize,fdSize,List.map_cons,List.sum_cons,List.length_cons] at this ⊢
  omega
theorem tab_few {l:List Fd} {m:Int} (h:tableOk l m=true):l.length≤16:=by
 have:=size_few l
 unfold tableOk at h
 simp only [Bool.and_eq_true,decide_eq_true_eq] at h
 omega
theorem cntE_w {N:Nat} {e:En} (h:EnW N e):cntE e≤1000+4 * N:=by
 have hl:e.strs.length≤7:=h.few
 have h1:e.out.length≤16:=tab_few h.out
 have h2:e.inn.length≤16:=tab_few h.inn
 have h3:=cntSs_le e.strs 6 fun s hs=>by
  obtain ⟨i,hi,rfl⟩:=List.getElem_of_mem hs
  have:=stOk_iff.1 (h.st hi)
  rw [stAt,getD_lt st0 hi] at this
  exact ⟨(headOk_iff.1 this.2.2.1).2,(headOk_iff.1 this.2.2.2.1).2⟩
 have h4:=h.len
 unfold cntE
 omega
theorem cntE_zero:cntE en0=0:=rfl
def pad {α:Type} (d:α) (l:List α) (i:Nat):List α:=l.take i++List.replicate (l.length - i) d
section
variable {α:Type} {d:α} {l:List α} {i:Nat}
theorem pad_zero:pad d l 0=List.replicate l.length d:=by simp [pad]
theorem pad_all:pad d l l.length=l:=by simp [pad]
theorem pad_len (h:i≤l.length):(pad d l i).length=l.length:=by simp [pad]; omega
theorem pad_set (h:i < l.length):(pad d l i).set i (l.getD i d)=pad d l (i+1):=by
 have hl:(l.take i).length=i:=by rw [List.length_take]; omega
 unfold pad
 rw [List.set_append_right _ _ (by omega),hl,Nat.sub_self,show l.length - i=(l.length - (i+1))+1 by omega,List.replicate_succ,List.set_cons_zero,List.take_add_one,List.getElem?_eq_getElem h,List.getD_eq_getElem?_getD,List.getElem?_eq_getElem h,List.append_assoc]
 rfl
theorem app_rep_set {hs:List α} {n:Nat} (x:α) (h:hs.length < n):(hs++List.replicate (n - hs.length) d).set hs.length x=(hs++[x])++List.replicate (n - (hs++[x]).length) d:=by
 rw [List.set_append_right _ _ (Nat.le_refl _),Nat.sub_self,show n - hs.length=(n - (hs.length+1))+1 by omega,List.replicate_succ,List.set_cons_zero,List.length_append]
 simp
end
theorem rep_cells {α:Type} (g:α→List V) (d:α) (zs:List V) (hz:g d=zs):∀n,(List.replicate n zs).flatten=(List.replicate n d).flatMap g
 | 0=>rfl
 | n+1=>by rw [List.replicate_succ,List.flatten_cons,List.replicate_succ,List.flatMap_cons,rep_cells g d zs hz n,hz]
def fdC (f:Fd):List V:=[.str f.name,.str f.val,.bool f.never]
theorem fdC_len (f:Fd):(fdC f).length=3:=rfl
theorem fcs_put {l:List Fd} {i:Nat} (f:Fd) (h:i < l.length):splice (fcs l) (i * 3) (fdC f)=fcs (l.set i f):=fl_set fdC_len f h
theorem xsC_put {ls:List XS} {i:Nat} (x:XS) (h:i < ls.length):splice (xsC ls) (i * 12) (xsF x)=xsC (ls.set i x):=fl_set xsF_len x h
theorem frmsC_put {l:List Fr} {i:Nat} (f:Fr) (h:i < l.length):splice (frmsC l) (i * 4) (frmC f)=frmsC (l.set i f):=fl_set frmC_len f h
end
section
open Go
def mxL:Nat:=9223372036854775807
def ZF (f:Fd):Prop:=f.name.length≤mxL∧f.val.length≤mxL
def ZL {α:Type} (B:α→Prop) (l:List α):Prop:=l.length≤mxL∧∀m ∈ l,B m
def ZFr (f:Fr):Prop:=f.body.length≤mxL
def ZS (s:St):Prop:=ZL ZF s.head∧s.say.length≤mxL∧ZL ZF s.got∧s.text.length≤mxL
def ZE (e:En):Prop:=ZL ZF e.out∧ZL ZF e.inn∧e.came.length≤mxL∧ZL ZS e.strs∧ZL ZFr e.wait
end
section
open Go
inductive BorD (S:List Blk):V→V→Prop
 | one {v v':V}:BorC S v v'→BorD S v v'
 | arr {xs cs:List V} {p sz:Nat}:S[p]?=some (.cells sz cs)→(xs.flatMap V.cells).length=cs.length→(∀(i:Nat) (a b:V),(xs.flatMap V.cells)[i]?=some a→cs[i]?=some b→BorC S a b)→BorD S (.rows none xs) (.heap p xs.length)
inductive BorE (S:List Blk):V→V→Prop
 | one {v v':V}:BorD S v v'→BorE S v v'
 | agg {cs cs':List V}:cs.length=cs'.length→(∀(i:Nat) (a b:V),cs[i]?=some a→cs'[i]?=some b→BorD S a b)→BorE S (.agg cs) (.agg cs')
theorem BorD.vr {G:Gh} {w:World} {S:List Blk} (hR:Rel G w S) {v v':V} {c:Value} (h:BorD S v v') (hv:VR G w v' c):VR (allFrozen G w) w v c:=by
 cases h with
 | one h=>exact h.vr hR hv
 | @arr xs cs p sz hp hl hb =>
  generalize hn:xs.length=n at hv
  cases hv with
  | heapNil h0 =>
   have:xs=[]:=List.length_eq_zero_iff.1 hn
   subst this
   exact .rowsNil (fun τ hτ=>by cases hτ)
  | @heap _ _ cap h0 hk hcap hlim =>
   obtain ⟨arr,ty,f1,f2,f3,f4,f5,f6⟩:=hR.live p _ hp rfl hk
   have hlt:=hR.lt p _ hp rfl hk
   have hlen:(arr.toList.take (xs.flatMap V.cells).length).length=(xs.flatMap V.cells).length:=List.length_take_of_le (by have:arr.toList.length=arr.size:=rfl; omega)
   have hrow:=VR.rows (G:=allFrozen G w) (w:=w) (tok:=none) (xs:=xs) (b:=G.blk p) (off:=0) (cap:=cap) (arr.toList.take (xs.flatMap V.cells).length) hlen.symm
    (fun i v u hv hu=>by
     rw [List.getElem?_take] at hu
     split at hu
     ·have hi:i < cs.length:=by rw [←hl]; exact (List.getElem?_eq_some_iff.1 hv).1
      exact (hb i v _ hv (List.getElem?_eq_getElem hi)).vr hR ((f6 i _ u (List.getElem?_eq_getElem hi) (by simpa using hu)).1)
     ·cases hu)
    (fun u hu=>by
     obtain ⟨i,hi,rfl⟩:=List.getElem_of_mem hu
     have hi':i < cs.length:=by omega
     simp only [List.getElem_take]
     have:=(f6 i _ arr[i] (List.getElem?_eq_getElem hi') (Array.getElem?_eq_getElem (by omega))).2
     simpa using this)
    (fun i u hu=>by
     rw [List.getElem?_take] at hu
     split at hu
     ·rw [cell_blk f1,Nat.zero_add]; simpa using hu
     ·cases hu)
    (by
     rw [hlen,Nat.zero_add]
     unfold allFrozen
     simp only
     rw [if_pos hlt,f1,hl]
     exact Nat.le_trans f4 (Nat.le_max_right _ _))
    (by omega)
    (fun τ hτ=>by cases hτ)
   rw [hn] at hrow
   exact hrow
theorem BorE.vr {G:Gh} {w:World} {S:List Blk} (hR:Rel G w S) {v v':V} {c:Value} (h:BorE S v v') (hv:VR G w v' c):VR (allFrozen G w) w v c:=by
 cases h with
 | one h=>exact h.vr hR hv
 | agg hl h =>
  cases hv with
  | agg hl' hv ho =>
   refine .agg (hl.trans hl') (fun i a u ha hu=>?_) ho
   have hi:i < _:=(List.getElem?_eq_some_iff.1 ha).1
   have hb:=List.getElem?_eq_getElem (show i < _ by rw [←hl]; exact hi)
   exact (h i a _ ha hb).vr hR (hv i _ u hb hu)
def BorM (S:List Blk) (xs ys:List V):Prop:=xs.length=ys.length∧∀(i:Nat) (a b:V),xs[i]?=some a→ys[i]?=some b→BorE S a b
theorem BorM.all {G:Gh} {w:World} {S:List Blk} (hR:Rel G w S) {xs ys:List V} {cs:List Value} (h:BorM S xs ys) (hv:AllR G w ys cs):AllR (allFrozen G w) w xs cs:=by
 refine ⟨h.1.trans hv.1,fun i a u ha hu=>?_⟩
 have hb:=List.getElem?_eq_getElem (show i < ys.length by rw [←h.1]; exact (List.getElem?_eq_some_iff.1 ha).1)
 exact (h.2 i a _ ha hb).vr hR (hv.2 i _ u hb hu)
theorem VCall.borrow2 {P:Program} {f:FuncId} {xs ys:List V} {x:V} {S:List Blk} (hf:Enters P f) (h:∀S,VCall P f xs S fun r S'=>r=x∧S'=S) (hx:Bare x) (hb:BorM S xs ys):VCall P f ys S fun r S'=>r=x∧S'=S:=by
 refine .inl ⟨hf,x,S,⟨rfl,rfl⟩,fun G w cargs hA hR=>?_⟩
 have hA0:=hb.all hR hA
 rcases h [] with ⟨_,r,S',⟨rfl,rfl⟩,hd⟩ | ⟨r,⟨rfl,_⟩,hd⟩
 ·refine Calls.mono (hd _ w cargs hA0 (rel_none hR)) ?_
  rintro e w' ⟨c,G',rfl,hv,hR',hE⟩
  obtain ⟨h1,h2⟩:=still hR hE
  exact ⟨c,G,rfl,Bare.vr hv hx,h1,h2⟩
 ·obtain ⟨c,hc,_⟩:=hd _ w cargs hA0
  exact absurd hc (xcall_no hf cargs w c)
end
end Go.Proofs.YtldogccmhncnoaaGreatDoor
