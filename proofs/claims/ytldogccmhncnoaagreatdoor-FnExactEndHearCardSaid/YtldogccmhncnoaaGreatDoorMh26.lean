/- A part of the proof: contracts of functions, or plain facts on which these lean. -/
import Derived.Test.YtldogccmhncnoaaGreatDoorMh25
namespace Go.Proofs.YtldogccmhncnoaaGreatDoor
open Go
set_option linter.unusedVariables false
set_option linter.unusedSimpArgs false
set_option maxRecDepth 100000
set_option maxHeartbeats 16000000

section
open Go
theorem heard_then {S M:List Blk} {p b c b1 c1 k:Nat} {e1:En} {q:V→List Blk→Prop} (hto:PtrTo S p b c e1 b1 c1 M) (hk:k < e1.strs.length) (hg:headOk (stAt e1 k).got=true) (ht:(stAt e1 k).text.length < 100)
  (hq:∀S2,PtrTo S p b c (setSt e1 k (doneM e1.ans (stAt e1 k))) b1 c1 S2→q (.tup []) S2):VCall Tryz.prog 130 [.ptr p 0,.ptr b1 (k * 12)] M q :=
 (heard_ok hto.at_ hk hg ht).mono fun r S2 h=>h.1 ▸ hq S2 (hto.trans h.2)
theorem hearData_ok {N:Nat} {e:En} (hW:EnW N e) (hN:N≤1100000) (hbad:e.bad=false) {f:Fr} (hf:frameOk f=true) (hk0:f.kind=0) {S:List Blk} {p b c:Nat} (h:PtrAt S p b c e) :
  VCall Tryz.prog 92 [.ptr p 0,frV f] S fun r S'=>Heard S p b c (dataM e f) r S':=by
 have he:=hW.b hN
 have hfl:=hW.flows
 have hsts:=hW.sts
 have hwn:=hW.len
 have hfb:=(frameOk_nat hf).2.2
 obtain ⟨ans,out,outM,inn,innM,came,strs,snd,rm,wait,bad⟩:=e
 simp only at hfl hsts hwn hbad
 subst hbad
 obtain ⟨n1,n2,n3,n4,n5,n6⟩:=h.nes
 have hv:S[p]?=some (.cells 0 (enC (.heap b strs.length) (.heap c wait.length) ⟨ans,out,outM,inn,innM,came,strs,snd,rm,wait,false⟩)):=h.var
 have hb:S[b]?=some (.cells 12 (strsC strs)):=h.at_.1
 have hc:S[c]?=some (.cells 4 (frmsC wait)):=h.at_.2
 have hlen:=strsC_len strs
 have hlw:=frmsC_len wait
 obtain ⟨fk,fl,fs,fb⟩:=f
 simp only at hk0 hfb
 subst hk0
 refine VCall.ex hDe (fun _=>false) (fun id=>if id=3 then [42,42,42,42,42,42,42,42,42,42,42,42,42,42,42,42,42,42,42,42,42,42,42,42,42,42,42,42,42,42,42,42,42,42,42,42,42,42,42,42,42,42,45,45,45] else if id=5 then [9,9,9,9,9,9,9,9,9,10] else if id=10 then [17,14,14,14,14,13,13,13,13,13,13,13,13,14,17,17,17,18] else []) Tryz.func92 Tryz.ntmps92 Tryz.results92 ?_
 simp -implicitDefEqProofs (disch:=omega) only [push_cast,simprocAttr,↓gd]
 refine ((stream_ok he (h.app _) fs).as rfl).to ?_
 cases ha:atM strs fs with
 | none =>
  have hap:atP strs b fs=.nilp:=by rw [atP,ha]
  have hm:dataM ⟨ans,out,outM,inn,innM,came,strs,snd,rm,wait,false⟩ ⟨0,fl,fs,fb⟩=⟨ans,out,outM,inn,innM,came,strs,snd,rm,wait,true⟩:=by rw [dataM]; simp only [ha,badM]
  rw [hm]
  simp -implicitDefEqProofs (disch:=omega) only [push_cast,simprocAttr,hap,↓gd]
  exact Heard.still h rfl
 | some k =>
  obtain ⟨hk,hid⟩:=atM_some ha
  have hap:atP strs b fs=.ptr b (k * 12):=by rw [atP,ha]
  have hso:=stsOk_at hsts hk
  have hsf:=stOk_flow hso
  obtain ⟨a1,a2,a3,a4,a5,a6,a7,a8⟩:=stOk_iff.1 hso
  have g9:=strsC_get hk (c:=9) (by decide)
  have g7:=strsC_get hk (c:=7) (by decide)
  have g11:=strsC_get hk (c:=11) (by decide)
  have g8:=strsC_get hk (c:=8) (by decide)
  have hput:∀c v s',c < 12→strC s'=(strC (strs.getD k st0)).set c v→splice (strsC strs) (k * 12+c) [v]=strsC (strs.set k s'):=fun c v s' q=>strsC_put hk q
  have hm:∀s,strs.getD k st0=s→dataM ⟨ans,out,outM,inn,innM,came,strs,snd,rm,wait,false⟩ ⟨0,fl,fs,fb⟩=if s.heard=true∨s.got=[]∨(fb.length:Int) > rm∨(fb.length:Int) > s.room∨wordOk (s.text++fb)=false then ⟨ans,out,outM,inn,innM,came,strs,snd,rm,wait,true⟩ else
    ⟨ans,out,outM,inn,innM,came,strs.set k (if fl then doneM ans { s with text:=s.text++fb,room:=s.room - fb.length } else { s with text:=s.text++fb,room:=s.room - fb.length }),snd,rm - fb.length,
     if fb=[] then wait else wait++[⟨8,false,0,[by8 fb.length]⟩,⟨8,false,s.id,[by8 fb.length]⟩],false⟩:=fun s hs=>by
   subst hs; rw [dataM]; simp only [ha,badM,stAt,setSt]; rfl
  generalize hs:strs.getD k st0=s at hso hsf a1 a2 a3 a4 a5 a6 a7 a8 g9 g7 g11 g8 hput
  rw [hm s hs]
  clear hm hs
  obtain ⟨sid,sst,shd,ssay,sbg,ssd,ssent,sgot,stx,shrd,ssnd,srm⟩:=s
  simp only at hsf a1 a2 a3 a4 a5 a6 a7 a8
  have p8:=hput 8 (.str (stx++fb)) ⟨sid,sst,shd,ssay,sbg,ssd,ssent,sgot,stx++fb,shrd,ssnd,srm⟩ (by decide) rfl
  by_cases h2:sgot=[]
  ·subst h2
   rw [if_pos (by simp)]
   simp -implicitDefEqProofs (disch:=omega) only [push_cast,simprocAttr,hap,hv,hb,g7,↓gd]
   repeat refine And.intro (by omega) ?_
   exact Heard.still h rfl
  ·have h2':¬(sgot.length:Int)=0:=by
    have:=List.length_pos_iff.2 h2
    omega
   cases shrd
   ·by_cases h3:(fb.length:Int) > rm
    ·rw [if_pos (by simp [h3])]
     simp -implicitDefEqProofs (disch:=omega) only [push_cast,simprocAttr,hap,hv,hb,g9,g7,h2',h3,↓gd]
     repeat refine And.intro (by omega) ?_
     exact Heard.still h rfl
    ·by_cases h4:(fb.length:Int) > srm
     ·rw [if_pos (by simp [h4])]
      simp -implicitDefEqProofs (disch:=omega) only [push_cast,simprocAttr,hap,hv,hb,g9,g7,g11,h2',h3,h4,↓gd]
      repeat refine And.intro (by omega) ?_
      exact Heard.still h rfl
     ·simp -implicitDefEqProofs (disch:=omega) only [push_cast,simprocAttr,hap,hv,hb,g9,g7,g11,g8,h2',h3,h4,↓gd]
      have hwl:=(wordOk_iff.1 a6).2
      repeat refine And.intro (by omega) ?_
      refine ((WordOk_ok (stx++fb) (by rw [List.length_append]; omega) _).as rfl).to ?_
      cases hw:wordOk (stx++fb)
      ·rw [if_pos (by simp [hw])]
       simp -implicitDefEqProofs (disch:=omega) only [push_cast,simprocAttr,hap,hv,hb,g9,g7,g11,g8,h2',h3,h4,↓gd]
       exact Heard.still h rfl
      ·rw [if_neg (fun q=>by rcases q with q | q | q | q | q <;> first | cases q; done | exact h2 q | omega | (rw [hw] at q; cases q))]
       have hwl2:=(wordOk_iff.1 hw).2
       have q11:=get2 (l:=strs) (k:=k) (c:=11) (s:=⟨sid,sst,shd,ssay,sbg,ssd,ssent,sgot,stx++fb,false,ssnd,srm⟩) hk (by decide)
       have q0:=get2 (l:=strs) (k:=k) (c:=0) (s:=⟨sid,sst,shd,ssay,sbg,ssd,ssent,sgot,stx++fb,false,ssnd,srm - fb.length⟩) hk (by decide)
       rw [Nat.add_zero] at q0
       simp only [strC,List.getElem?_cons_succ,List.getElem?_cons_zero] at q11 q0
       have p11:=put2 (v:=.int .i64 (srm - fb.length)) (s:=⟨sid,sst,shd,ssay,sbg,ssd,ssent,sgot,stx++fb,false,ssnd,srm⟩) (s':=⟨sid,sst,shd,ssay,sbg,ssd,ssent,sgot,stx++fb,false,ssnd,srm - fb.length⟩) hk (c:=11) (by decide) rfl
       have ebyte:UInt8.ofNat (IntKind.u8.wrap (fb.length:Int)).toNat=by8 fb.length:=by8_wrap _
       by_cases hfb0:fb=[]
       ·have hfb1:¬(fb.length:Int) > 0:=by rw [hfb0]; simp
        rw [if_pos hfb0]
        cases fl
        ·simp -implicitDefEqProofs (disch:=omega) only [push_cast,simprocAttr,hap,hv,hb,hc,g8,p8,q11,p11,len2,hfb1,↓gd]
         repeat refine And.intro (by omega) ?_
         refine ⟨_,_,Wk.refl _ _ _,b,c,⟨ans,out,outM,inn,innM,came,strs.set k ⟨sid,sst,shd,ssay,sbg,ssd,ssent,sgot,stx++fb,false,ssnd,srm - fb.length⟩,snd,rm - fb.length,wait,false⟩,true,rfl,PtrTo.mk' b c ?_ ?_ ?_ (.inl rfl) (.inl rfl) ((((Upd.refl _ _).set _ (.inr (by simp))).set _ (.inr (by simp))).app _),rfl⟩
         ·simp -implicitDefEqProofs (disch:=omega) only [push_cast,simprocAttr,↓gd]
         ·simp -implicitDefEqProofs (disch:=omega) only [push_cast,simprocAttr,hb,↓gd]
         ·simp -implicitDefEqProofs (disch:=omega) only [push_cast,simprocAttr,hc,↓gd]
        ·simp -implicitDefEqProofs (disch:=omega) only [push_cast,simprocAttr,hap,hv,hb,hc,g8,p8,q11,p11,len2,hfb1,↓gd]
         repeat refine And.intro (by omega) ?_
         refine heard_then (e1:=⟨ans,out,outM,inn,innM,came,strs.set k ⟨sid,sst,shd,ssay,sbg,ssd,ssent,sgot,stx++fb,false,ssnd,srm - fb.length⟩,snd,rm - fb.length,wait,false⟩) (PtrTo.mk' b c ?_ ?_ ?_ (.inl rfl) (.inl rfl) ((((Upd.refl _ _).set _ (.inr (by simp))).set _ (.inr (by simp))).app _)) (by simpa using hk) ?_ ?_ ?_
         ·simp -implicitDefEqProofs (disch:=omega) only [push_cast,simprocAttr,↓gd]
         ·simp -implicitDefEqProofs (disch:=omega) only [push_cast,simprocAttr,hb,↓gd]
         ·simp -implicitDefEqProofs (disch:=omega) only [push_cast,simprocAttr,hc,↓gd]
         ·simp only [stAt]; rw [getD_set st0 _ hk,if_pos rfl]; exact a4
         ·simp only [stAt]; rw [getD_set st0 _ hk,if_pos rfl]; show (stx++fb).length < 100; omega
         ·intro S2 hto2
          simp only [stAt,setSt] at hto2
          rw [getD_set st0 _ hk,if_pos rfl,List.set_set] at hto2
          try simp only [if_true]
          simp -implicitDefEqProofs (disch:=omega) only [push_cast,simprocAttr,↓gd]
          exact ⟨_,_,Wk.refl _ _ _,b,c,_,true,rfl,hto2,rfl⟩
       ·have hfb1:(fb.length:Int) > 0:=by
         have:=List.length_pos_iff.2 hfb0
         omega
        rw [if_neg hfb0]
        cases fl
        ·simp -implicitDefEqProofs (disch:=omega) only [push_cast,simprocAttr,hap,hv,hb,hc,g8,p8,q11,p11,q0,len2,hfb1,ebyte,↓gd]
         repeat refine And.intro (by omega) ?_
         refine ⟨_,_,Wk.refl _ _ _,b,S.length+3,⟨ans,out,outM,inn,innM,came,strs.set k ⟨sid,sst,shd,ssay,sbg,ssd,ssent,sgot,stx++fb,false,ssnd,srm - fb.length⟩,snd,rm - fb.length,wait++[⟨8,false,0,[by8 fb.length]⟩,⟨8,false,sid,[by8 fb.length]⟩],false⟩,true,rfl,PtrTo.mk' (c:=c) b (S.length+3) ?_ ?_ ?_ (.inl rfl) (.inr (by omega)) (((((Upd.refl _ _).set _ (.inr (by simp))).set _ (.inr (by simp))).set _ (.inr (by simp))).app _),rfl⟩
         ·simp -implicitDefEqProofs (disch:=omega) only [push_cast,simprocAttr,↓gd]
         ·simp -implicitDefEqProofs (disch:=omega) only [push_cast,simprocAttr,hb,↓gd]
         ·simp -implicitDefEqProofs (disch:=omega) only [push_cast,simprocAttr,↓gd]
          rw [frmsC_app]; rfl
        ·simp -implicitDefEqProofs (disch:=omega) only [push_cast,simprocAttr,hap,hv,hb,hc,g8,p8,q11,p11,q0,len2,hfb1,ebyte,↓gd]
         repeat refine And.intro (by omega) ?_
         refine heard_then (e1:=⟨ans,out,outM,inn,innM,came,strs.set k ⟨sid,sst,shd,ssay,sbg,ssd,ssent,sgot,stx++fb,false,ssnd,srm - fb.length⟩,snd,rm - fb.length,wait++[⟨8,false,0,[by8 fb.length]⟩,⟨8,false,sid,[by8 fb.length]⟩],false⟩) (PtrTo.mk' (c:=c) b (S.length+3) ?_ ?_ ?_ (.inl rfl) (.inr (by omega)) (((((Upd.refl _ _).set _ (.inr (by simp))).set _ (.inr (by simp))).set _ (.inr (by simp))).app _)) (by simpa using hk) ?_ ?_ ?_
         ·simp -implicitDefEqProofs (disch:=omega) only [push_cast,simprocAttr,↓gd]
         ·simp -implicitDefEqProofs (disch:=omega) only [push_cast,simprocAttr,hb,↓gd]
         ·simp -implicitDefEqProofs (disch:=omega) only [push_cast,simprocAttr,↓gd]
          rw [frmsC_app]; rfl
         ·simp only [stAt]; rw [getD_set st0 _ hk,if_pos rfl]; exact a4
         ·simp only [stAt]; rw [getD_set st0 _ hk,if_pos rfl]; show (stx++fb).length < 100; omega
         ·intro S2 hto2
          simp only [stAt,setSt] at hto2
          rw [getD_set st0 _ hk,if_pos rfl,List.set_set] at hto2
          try simp only [if_true]
          simp -implicitDefEqProofs (disch:=omega) only [push_cast,simprocAttr,↓gd]
          exact ⟨_,_,Wk.refl _ _ _,b,S.length+3,_,true,rfl,hto2,rfl⟩
   ·rw [if_pos (by simp)]
    simp -implicitDefEqProofs (disch:=omega) only [push_cast,simprocAttr,hap,hv,hb,g9,g7,h2',↓gd]
    repeat refine And.intro (by omega) ?_
    exact Heard.still h rfl
end
end Go.Proofs.YtldogccmhncnoaaGreatDoor
