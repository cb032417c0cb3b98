/- A part of the proof: contracts of functions, or plain facts on which these lean. -/
import Derived.Test.YtldogccmhncnoaaGreatMk21
namespace Go.Proofs.YtldogccmhncnoaaGreat
open Go
set_option linter.unusedVariables false
set_option linter.unusedSimpArgs false
set_option maxRecDepth 100000
set_option maxHeartbeats 16000000

section
open Go
theorem min3' (x y z:Int):(if z < (if y < x then y else x) then z else (if y < x then y else x))=min x (min y z):=by omega
theorem say_frame {id:Int} {say:List UInt8} {sent q:Int} (h1:strmOk id=true) (h2:wordOk say=true) (h3:0≤sent) (hq:0 < q) (hq1:q≤say.length - sent):frameOk ⟨0,decide (sent+q=say.length),id,(say.drop sent.toNat).take q.toNat⟩=true:=by
 have hw:=(wordOk_iff.1 h2).2
 simp only [frameOk,true_or,if_true,h1,Bool.true_and,decide_eq_true_eq,List.length_take,List.length_drop]
 omega
theorem say_ok {N:Nat} {e:En} (hW:EnW N e) (hN:N≤1100000) {k:Nat} (hk:k < e.strs.length) (hop:(stAt e k).state=1) (hhd:(stAt e k).said=false) {S:List Blk} {p b c:Nat} (h:PtrAt S p b c e) :
  VCall Tryz.prog 26 [.ptr p 0,.ptr b (k * 12)] S fun r S'=>r=.str (sayE e k (stAt e k)).2∧PtrTo S p b c (sayE e k (stAt e k)).1 b c S':=by
 have he:=hW.b hN
 have hfl:=hW.flows
 have hsts:=hW.sts
 have hto:=hW.out
 obtain ⟨n1,n2,n3,n4,n5,n6⟩:=h.nes
 obtain ⟨ans,out,outM,inn,innM,came,strs,snd,rm,wait,bad⟩:=e
 simp only at hfl hsts hto hk
 have hv:S[p]?=some (.cells 0 (enC (.heap b strs.length) (.heap c wait.length) ⟨ans,out,outM,inn,innM,came,strs,snd,rm,wait,bad⟩)):=h.var
 have hb:S[b]?=some (.cells 12 (strsC strs)):=h.at_.1
 have hc:S[c]?=some (.cells 4 (frmsC wait)):=h.at_.2
 have hlen:=strsC_len strs
 have hso:=stsOk_at hsts hk
 have hsf:=stOk_flow hso
 obtain ⟨a1,a2,a3,a4,a5,a6,a7,a8⟩:=stOk_iff.1 hso
 simp only [stAt] at hop hhd ⊢
 have hself:∀s,strs.getD k st0=s→strs.set k s=strs:=fun s q=>by
  rw [←q]
  apply List.ext_getElem?
  intro i
  rw [List.getElem?_set]
  by_cases e1:k=i
  ·subst e1; rw [if_pos rfl,if_pos hk,List.getElem?_eq_getElem hk,getD_lt st0 hk]
  ·rw [if_neg e1]
 generalize hs:strs.getD k st0=s at hop hhd hso hsf a1 a2 a3 a4 a5 a6 a7 a8
 have hself:=hself s hs
 rw [←hself] at hb
 obtain ⟨sid,sst,shd,ssay,sbg,ssd,ssent,sgot,stx,shrd,ssnd,srm⟩:=s
 simp only at hop hhd hsf a1 a2 a3 a4 a5 a6 a7 a8
 subst hop hhd
 have hwl:=(wordOk_iff.1 a5).2
 have hid0:=(strmOk_iff.1 a1).1
 have hsa:0≤ssent:=a7.1
 have hput:=fun (s s':St) c (q12:c < 12) v (q:strC s'=(strC s).set c v)=>put2 (l:=strs) hk q12 q
 have hget:=fun (s:St) c (q12:c < 12)=>get2 (l:=strs) (s:=s) hk q12
 have hll:=fun s=>len2 strs k s
 have fin:∀(Z:List Blk) (X:List Blk) (out':List Fd) (snd':Int) (s':St) (o:List UInt8),sayE ⟨ans,out,outM,inn,innM,came,strs,snd,rm,wait,bad⟩ k ⟨sid,1,shd,ssay,sbg,false,ssent,sgot,stx,shrd,ssnd,srm⟩=(⟨ans,out',outM,inn,innM,came,strs.set k s',snd',rm,wait,bad⟩,o) →
   Z[p]?=some (.cells 0 (enC (.heap b strs.length) (.heap c wait.length) ⟨ans,out',outM,inn,innM,came,strs.set k s',snd',rm,wait,bad⟩))→Z[b]?=some (.cells 12 (strsC (strs.set k s')))→Z[c]?=some (.cells 4 (frmsC wait))→Upd [p,b,c] S Z →
   ∃r S2,Wk S (.str o) (Z++X) r S2∧r=.str (sayE ⟨ans,out,outM,inn,innM,came,strs,snd,rm,wait,bad⟩ k ⟨sid,1,shd,ssay,sbg,false,ssent,sgot,stx,shrd,ssnd,srm⟩).2 ∧
    PtrTo S p b c (sayE ⟨ans,out,outM,inn,innM,came,strs,snd,rm,wait,bad⟩ k ⟨sid,1,shd,ssay,sbg,false,ssent,sgot,stx,shrd,ssnd,srm⟩).1 b c S2:=by
  intro Z X out' snd' s' o hE h1 h2 h3 hu
  rw [hE]
  have t1:=lt_of_some h1
  have t2:=lt_of_some h2
  have t3:=lt_of_some h3
  exact ⟨_,_,Wk.refl _ _ _,rfl,PtrTo.mk' b c (by rw [List.getElem?_append_left t1]; simpa using h1) (by rw [List.getElem?_append_left t2]; exact h2) (by rw [List.getElem?_append_left t3]; exact h3) (.inl rfl) (.inl rfl) (hu.app _)⟩
 have fin0:=fun (Z:List Blk)=>fin Z []
 simp only [List.append_nil] at fin0
 generalize hq:min ((ssay.length:Int) - ssent) (min ssnd snd)=q
 have hq1:q≤ssay.length - ssent:=by omega
 have hq2:q≤ssnd:=by omega
 have hq3:q≤snd:=by omega
 have hsl:0 < q→List.drop ssent.toNat (List.take (ssent+q).toNat ssay)=(ssay.drop ssent.toNat).take q.toNat:=fun h0=>by
  rw [List.drop_take]
  congr 1
  omega
 have hsl2:((ssay.drop ssent.toNat).take q.toNat).length≤1000:=by simp; omega
 refine VCall.ex hDe (fun _=>false) (fun id=>if id=3 then [13,13,13,13,13,13,13,13,1000000,13,13,15,1000000,15,15,12] else if id=6 then [10,10,10,10,10,10,10,10,10,10,12,12] else if id=7 then [22,22,22,22,22,22,22,22,22,22,22,22,22,22,22,22,22,22,22,22,22,22] else if id=9 then [16,16,16,16,16,16,16,16,16,16,16,16,16,16,16,16] else if id=13 then [13,13,13,13,13,13,13,13,13,13,13,13,13,14] else if id=14 then [14,11,11,11,11,11,11,11,11,11,11,14,14,14] else []) Tryz.func26 Tryz.ntmps26 Tryz.results26 ?_
 cases sbg
 ·have g2:=hget ⟨sid,1,shd,ssay,false,false,ssent,sgot,stx,shrd,ssnd,srm⟩ 2 (by decide)
  have g4:=hget ⟨sid,1,shd,ssay,false,false,ssent,sgot,stx,shrd,ssnd,srm⟩ 4 (by decide)
  have p4:=hput ⟨sid,1,shd,ssay,false,false,ssent,sgot,stx,shrd,ssnd,srm⟩ ⟨sid,1,shd,ssay,true,false,ssent,sgot,stx,shrd,ssnd,srm⟩ 4 (by decide) (.bool true) rfl
  simp -implicitDefEqProofs (maxSteps:=1000000) (disch:=omega) only [push_cast,simprocAttr,hv,hb,g4,g2,↓gd]
  repeat refine And.intro (by omega) ?_
  refine ((write_ok out outM shd (headOk_parts a3).1 (tableOk_b hto) (table_len hto) (by have:=(headOk_parts a3).2; omega) (tableOk_parts hto).2.1 _).as rfl).to ?_
  have hbl2:(headW out outM shd).2.length≤1000:=by
   have:=headW_len shd out outM (headOk_parts a3).1 (by have:=(headOk_parts a3).2; have:=(tableOk_parts hto).1; omega)
   have:=(headOk_parts a3).2
   omega
  have hcf:∀(l:List Fd) (x:V),(∃a,a ∈ l∧V.agg [V.str a.name,V.str a.val,V.bool a.never]=x)→Cl S.length x:=by
   rintro l _ ⟨a,_,rfl⟩
   exact cl_fV _ a
  by_cases hsy:ssay=[]
  ·subst hsy
   have p5:=hput ⟨sid,1,shd,[],true,false,ssent,sgot,stx,shrd,ssnd,srm⟩ ⟨sid,1,shd,[],true,true,ssent,sgot,stx,shrd,ssnd,srm⟩ 5 (by decide) (.bool (decide True)) rfl
   have h3:=hget ⟨sid,1,shd,[],false,false,ssent,sgot,stx,shrd,ssnd,srm⟩ 3 (by decide)
   have q0:=hget ⟨sid,1,shd,[],true,true,ssent,sgot,stx,shrd,ssnd,srm⟩ 0 (by decide)
   rw [Nat.add_zero] at q0
   have q3:=hget ⟨sid,1,shd,[],true,true,ssent,sgot,stx,shrd,ssnd,srm⟩ 3 (by decide)
   have q5:=hget ⟨sid,1,shd,[],true,true,ssent,sgot,stx,shrd,ssnd,srm⟩ 5 (by decide)
   have q6:=hget ⟨sid,1,shd,[],true,true,ssent,sgot,stx,shrd,ssnd,srm⟩ 6 (by decide)
   have q10:=hget ⟨sid,1,shd,[],true,true,ssent,sgot,stx,shrd,ssnd,srm⟩ 10 (by decide)
   have r6:=hput ⟨sid,1,shd,[],true,true,ssent,sgot,stx,shrd,ssnd,srm⟩ ⟨sid,2,shd,[],true,true,ssent,sgot,stx,shrd,ssnd,srm⟩ 1 (by decide) (.int .i64 2) rfl
   simp -implicitDefEqProofs (maxSteps:=1000000) (disch:=omega) only [push_cast,simprocAttr,hv,hb,p4,h3,hll,p5,q0,q3,q5,q6,q10,↓gd]
   refine ⟨rfl,?_⟩
   repeat refine And.intro (by omega) ?_
   refine ((bytes_ok ⟨1,true,sid,(headW out outM shd).2⟩ (by simp) (by simp only; omega) (by simp only; omega) _).as rfl).to ?_
   cases ans
   ·simp -implicitDefEqProofs (maxSteps:=1000000) (disch:=omega) only [push_cast,simprocAttr,hv,hb,p4,h3,hll,p5,q0,q3,q5,q6,q10,min3',hq,frW_len,↓gd]
    repeat refine And.intro (by omega) ?_
    refine fin _ _ (headW out outM shd).1 snd ⟨sid,1,shd,[],true,true,ssent,sgot,stx,shrd,ssnd,srm⟩ _ (by simp [sayE,beginM,pieceM,setSt]) ?_ ?_ ?_ (by repeat (first | exact Upd.refl _ _ | refine Upd.set ?_ _ (.inr (by simp))))
    ·first | exact hv | simp -implicitDefEqProofs (maxSteps:=1000000) (disch:=omega) only [push_cast,simprocAttr,hv,↓gd]
    ·first | exact hb | simp -implicitDefEqProofs (maxSteps:=1000000) (disch:=omega) only [push_cast,simprocAttr,↓gd]
    ·first | exact hc | simp -implicitDefEqProofs (maxSteps:=1000000) (disch:=omega) only [push_cast,simprocAttr,hc,↓gd]
   ·simp -implicitDefEqProofs (maxSteps:=1000000) (disch:=omega) only [push_cast,simprocAttr,hv,hb,p4,h3,hll,p5,q0,q3,q5,q6,q10,min3',hq,r6,frW_len,↓gd]
    repeat refine And.intro (by omega) ?_
    refine fin _ _ (headW out outM shd).1 snd ⟨sid,2,shd,[],true,true,ssent,sgot,stx,shrd,ssnd,srm⟩ _ (by simp [sayE,beginM,pieceM,setSt]) ?_ ?_ ?_ (by repeat (first | exact Upd.refl _ _ | refine Upd.set ?_ _ (.inr (by simp))))
    ·first | exact hv | simp -implicitDefEqProofs (maxSteps:=1000000) (disch:=omega) only [push_cast,simprocAttr,hv,↓gd]
    ·first | exact hb | simp -implicitDefEqProofs (maxSteps:=1000000) (disch:=omega) only [push_cast,simprocAttr,↓gd]
    ·first | exact hc | simp -implicitDefEqProofs (maxSteps:=1000000) (disch:=omega) only [push_cast,simprocAttr,hc,↓gd]
  ·have p5:=hput ⟨sid,1,shd,ssay,true,false,ssent,sgot,stx,shrd,ssnd,srm⟩ ⟨sid,1,shd,ssay,true,false,ssent,sgot,stx,shrd,ssnd,srm⟩ 5 (by decide) (.bool (decide False)) rfl
   have h3:=hget ⟨sid,1,shd,ssay,false,false,ssent,sgot,stx,shrd,ssnd,srm⟩ 3 (by decide)
   have q0:=hget ⟨sid,1,shd,ssay,true,false,ssent,sgot,stx,shrd,ssnd,srm⟩ 0 (by decide)
   rw [Nat.add_zero] at q0
   have q3:=hget ⟨sid,1,shd,ssay,true,false,ssent,sgot,stx,shrd,ssnd,srm⟩ 3 (by decide)
   have q5:=hget ⟨sid,1,shd,ssay,true,false,ssent,sgot,stx,shrd,ssnd,srm⟩ 5 (by decide)
   have q6:=hget ⟨sid,1,shd,ssay,true,false,ssent,sgot,stx,shrd,ssnd,srm⟩ 6 (by decide)
   have q10:=hget ⟨sid,1,shd,ssay,true,false,ssent,sgot,stx,shrd,ssnd,srm⟩ 10 (by decide)
   simp -implicitDefEqProofs (maxSteps:=1000000) (disch:=omega) only [push_cast,simprocAttr,hv,hb,p4,h3,hsy,hll,p5,q0,q3,q5,q6,q10,↓gd]
   refine ⟨rfl,?_⟩
   repeat refine And.intro (by omega) ?_
   refine ((bytes_ok ⟨1,false,sid,(headW out outM shd).2⟩ (by simp) (by simp only; omega) (by simp only; omega) _).as rfl).to ?_
   have hfh:=frW_len ⟨1,false,sid,(headW out outM shd).2⟩
   simp only at hfh
   by_cases hq0:0 < q
   ·have hq0':q > 0:=hq0
    have r3:=hput ⟨sid,1,shd,ssay,true,false,ssent,sgot,stx,shrd,ssnd,srm⟩ ⟨sid,1,shd,ssay,true,false,ssent,sgot,stx,shrd,ssnd - q,srm⟩ 10 (by decide) (.int .i64 (ssnd - q)) rfl
    have r4:=hput ⟨sid,1,shd,ssay,true,false,ssent,sgot,stx,shrd,ssnd - q,srm⟩ ⟨sid,1,shd,ssay,true,false,ssent+q,sgot,stx,shrd,ssnd - q,srm⟩ 6 (by decide) (.int .i64 (ssent+q)) rfl
    have r5:=hput ⟨sid,1,shd,ssay,true,false,ssent+q,sgot,stx,shrd,ssnd - q,srm⟩ ⟨sid,1,shd,ssay,true,decide (ssent+q=ssay.length),ssent+q,sgot,stx,shrd,ssnd - q,srm⟩ 5 (by decide) (.bool (decide (ssent+q=ssay.length))) rfl
    have r6:=hput ⟨sid,1,shd,ssay,true,decide (ssent+q=ssay.length),ssent+q,sgot,stx,shrd,ssnd - q,srm⟩ ⟨sid,2,shd,ssay,true,decide (ssent+q=ssay.length),ssent+q,sgot,stx,shrd,ssnd - q,srm⟩ 1 (by decide) (.int .i64 2) rfl
    have u6:=hget ⟨sid,1,shd,ssay,true,false,ssent,sgot,stx,shrd,ssnd - q,srm⟩ 6 (by decide)
    have v3:=hget ⟨sid,1,shd,ssay,true,false,ssent+q,sgot,stx,shrd,ssnd - q,srm⟩ 3 (by decide)
    have v6:=hget ⟨sid,1,shd,ssay,true,false,ssent+q,sgot,stx,shrd,ssnd - q,srm⟩ 6 (by decide)
    have w0:=hget ⟨sid,1,shd,ssay,true,decide (ssent+q=ssay.length),ssent+q,sgot,stx,shrd,ssnd - q,srm⟩ 0 (by decide)
    rw [Nat.add_zero] at w0
    have w5:=hget ⟨sid,1,shd,ssay,true,decide (ssent+q=ssay.length),ssent+q,sgot,stx,shrd,ssnd - q,srm⟩ 5 (by decide)
    simp -implicitDefEqProofs (maxSteps:=1000000) (disch:=omega) only [push_cast,simprocAttr,hv,hb,p4,h3,hsy,hll,p5,q0,q3,q5,q6,q10,min3',hq,hq0',hsl hq0,r3,r4,r5,u6,v3,v6,w0,w5,↓gd]
    repeat refine And.intro (by omega) ?_
    have hfok:frameOk ⟨0,decide (ssent+q=ssay.length),sid,(ssay.drop ssent.toNat).take q.toNat⟩=true:=say_frame a1 a5 hsa (by omega) (by omega)
    refine ((FrameWrite_ok ⟨0,decide (ssent+q=ssay.length),sid,(ssay.drop ssent.toNat).take q.toNat⟩ _).as rfl).to ?_
    rw [if_pos hfok]
    have hfd:=frW_len ⟨0,decide (ssent+q=ssay.length),sid,(ssay.drop ssent.toNat).take q.toNat⟩
    simp only at hfd
    cases ans
    ·simp -implicitDefEqProofs (maxSteps:=1000000) (disch:=omega) only [push_cast,simprocAttr,hv,hb,p4,h3,hsy,hll,p5,q0,q3,q5,q6,q10,min3',hq,hq0',hsl hq0,r3,r4,r5,u6,v3,v6,w0,w5,frW_len,↓gd]
     repeat refine And.intro (by omega) ?_
     refine fin _ _ (headW out outM shd).1 (snd - q) ⟨sid,1,shd,ssay,true,decide (ssent+q=ssay.length),ssent+q,sgot,stx,shrd,ssnd - q,srm⟩ _ (by simp [sayE,beginM,pieceM,setSt,hsy,mayM,hq,hq0]) ?_ ?_ ?_ (by repeat (first | exact Upd.refl _ _ | refine Upd.set ?_ _ (.inr (by simp))))
     ·first | exact hv | simp -implicitDefEqProofs (maxSteps:=1000000) (disch:=omega) only [push_cast,simprocAttr,hv,↓gd]
     ·first | exact hb | simp -implicitDefEqProofs (maxSteps:=1000000) (disch:=omega) only [push_cast,simprocAttr,↓gd]
     ·first | exact hc | simp -implicitDefEqProofs (maxSteps:=1000000) (disch:=omega) only [push_cast,simprocAttr,hc,↓gd]
    ·by_cases he0:ssent+q=ssay.length
     ·simp only [he0,decide_true] at r5 r6 w0 w5 ⊢
      simp -implicitDefEqProofs (maxSteps:=1000000) (disch:=omega) only [push_cast,simprocAttr,hv,hb,p4,h3,hsy,hll,p5,q0,q3,q5,q6,q10,min3',hq,hq0',hsl hq0,r3,r4,r5,u6,v3,v6,w0,w5,he0,r6,frW_len,↓gd]
      repeat refine And.intro (by omega) ?_
      refine fin _ _ (headW out outM shd).1 (snd - q) ⟨sid,2,shd,ssay,true,true,ssay.length,sgot,stx,shrd,ssnd - q,srm⟩ _ (by simp [sayE,beginM,pieceM,setSt,hsy,mayM,hq,hq0,he0]) ?_ ?_ ?_ (by repeat (first | exact Upd.refl _ _ | refine Upd.set ?_ _ (.inr (by simp))))
      ·first | exact hv | simp -implicitDefEqProofs (maxSteps:=1000000) (disch:=omega) only [push_cast,simprocAttr,hv,↓gd]
      ·first | exact hb | simp -implicitDefEqProofs (maxSteps:=1000000) (disch:=omega) only [push_cast,simprocAttr,↓gd]
      ·first | exact hc | simp -implicitDefEqProofs (maxSteps:=1000000) (disch:=omega) only [push_cast,simprocAttr,hc,↓gd]
     ·simp only [he0,decide_false] at r5 w0 w5 ⊢
      simp -implicitDefEqProofs (maxSteps:=1000000) (disch:=omega) only [push_cast,simprocAttr,hv,hb,p4,h3,hsy,hll,p5,q0,q3,q5,q6,q10,min3',hq,hq0',hsl hq0,r3,r4,r5,u6,v3,v6,w0,w5,he0,frW_len,↓gd]
      repeat refine And.intro (by omega) ?_
      refine fin _ _ (headW out outM shd).1 (snd - q) ⟨sid,1,shd,ssay,true,false,ssent+q,sgot,stx,shrd,ssnd - q,srm⟩ _ (by simp [sayE,beginM,pieceM,setSt,hsy,mayM,hq,hq0,he0]) ?_ ?_ ?_ (by repeat (first | exact Upd.refl _ _ | refine Upd.set ?_ _ (.inr (by simp))))
      ·first | exact hv | simp -implicitDefEqProofs (maxSteps:=1000000) (disch:=omega) only [push_cast,simprocAttr,hv,↓gd]
      ·first | exact hb | simp -implicitDefEqProofs (maxSteps:=1000000) (disch:=omega) only [push_cast,simprocAttr,↓gd]
      ·first | exact hc | simp -implicitDefEqProofs (maxSteps:=1000000) (disch:=omega) only [push_cast,simprocAttr,hc,↓gd]
   ·have hq0':¬q > 0:=hq0
    cases ans
    ·simp -implicitDefEqProofs (maxSteps:=1000000) (disch:=omega) only [push_cast,simprocAttr,hv,hb,p4,h3,hsy,hll,p5,q0,q3,q5,q6,q10,min3',hq,hq0',↓gd]
     repeat refine And.intro (by omega) ?_
     refine fin _ _ (headW out outM shd).1 snd ⟨sid,1,shd,ssay,true,false,ssent,sgot,stx,shrd,ssnd,srm⟩ _ (by simp [sayE,beginM,pieceM,setSt,hsy,mayM,hq,hq0]) ?_ ?_ ?_ (by repeat (first | exact Upd.refl _ _ | refine Upd.set ?_ _ (.inr (by simp))))
     ·first | exact hv | simp -implicitDefEqProofs (maxSteps:=1000000) (disch:=omega) only [push_cast,simprocAttr,hv,↓gd]
     ·first | exact hb | simp -implicitDefEqProofs (maxSteps:=1000000) (disch:=omega) only [push_cast,simprocAttr,↓gd]
     ·first | exact hc | simp -implicitDefEqProofs (maxSteps:=1000000) (disch:=omega) only [push_cast,simprocAttr,hc,↓gd]
    ·simp -implicitDefEqProofs (maxSteps:=1000000) (disch:=omega) only [push_cast,simprocAttr,hv,hb,p4,h3,hsy,hll,p5,q0,q3,q5,q6,q10,min3',hq,hq0',↓gd]
     repeat refine And.intro (by omega) ?_
     refine fin _ _ (headW out outM shd).1 snd ⟨sid,1,shd,ssay,true,false,ssent,sgot,stx,shrd,ssnd,srm⟩ _ (by simp [sayE,beginM,pieceM,setSt,hsy,mayM,hq,hq0]) ?_ ?_ ?_ (by repeat (first | exact Upd.refl _ _ | refine Upd.set ?_ _ (.inr (by simp))))
     ·first | exact hv | simp -implicitDefEqProofs (maxSteps:=1000000) (disch:=omega) only [push_cast,simprocAttr,hv,↓gd]
     ·first | exact hb | simp -implicitDefEqProofs (maxSteps:=1000000) (disch:=omega) only [push_cast,simprocAttr,↓gd]
     ·first | exact hc | simp -implicitDefEqProofs (maxSteps:=1000000) (disch:=omega) only [push_cast,simprocAttr,hc,↓gd]
 ·have g4:=hget ⟨sid,1,shd,ssay,true,false,ssent,sgot,stx,shrd,ssnd,srm⟩ 4 (by decide)
  have q0:=hget ⟨sid,1,shd,ssay,true,false,ssent,sgot,stx,shrd,ssnd,srm⟩ 0 (by decide)
  rw [Nat.add_zero] at q0
  have q3:=hget ⟨sid,1,shd,ssay,true,false,ssent,sgot,stx,shrd,ssnd,srm⟩ 3 (by decide)
  have q5:=hget ⟨sid,1,shd,ssay,true,false,ssent,sgot,stx,shrd,ssnd,srm⟩ 5 (by decide)
  have q6:=hget ⟨sid,1,shd,ssay,true,false,ssent,sgot,stx,shrd,ssnd,srm⟩ 6 (by decide)
  have q10:=hget ⟨sid,1,shd,ssay,true,false,ssent,sgot,stx,shrd,ssnd,srm⟩ 10 (by decide)
  by_cases hq0:0 < q
  ·have hq0':q > 0:=hq0
   have r3:=hput ⟨sid,1,shd,ssay,true,false,ssent,sgot,stx,shrd,ssnd,srm⟩ ⟨sid,1,shd,ssay,true,false,ssent,sgot,stx,shrd,ssnd - q,srm⟩ 10 (by decide) (.int .i64 (ssnd - q)) rfl
   have r4:=hput ⟨sid,1,shd,ssay,true,false,ssent,sgot,stx,shrd,ssnd - q,srm⟩ ⟨sid,1,shd,ssay,true,false,ssent+q,sgot,stx,shrd,ssnd - q,srm⟩ 6 (by decide) (.int .i64 (ssent+q)) rfl
   have r5:=hput ⟨sid,1,shd,ssay,true,false,ssent+q,sgot,stx,shrd,ssnd - q,srm⟩ ⟨sid,1,shd,ssay,true,decide (ssent+q=ssay.length),ssent+q,sgot,stx,shrd,ssnd - q,srm⟩ 5 (by decide) (.bool (decide (ssent+q=ssay.length))) rfl
   have r6:=hput ⟨sid,1,shd,ssay,true,decide (ssent+q=ssay.length),ssent+q,sgot,stx,shrd,ssnd - q,srm⟩ ⟨sid,2,shd,ssay,true,decide (ssent+q=ssay.length),ssent+q,sgot,stx,shrd,ssnd - q,srm⟩ 1 (by decide) (.int .i64 2) rfl
   have u6:=hget ⟨sid,1,shd,ssay,true,false,ssent,sgot,stx,shrd,ssnd - q,srm⟩ 6 (by decide)
   have v3:=hget ⟨sid,1,shd,ssay,true,false,ssent+q,sgot,stx,shrd,ssnd - q,srm⟩ 3 (by decide)
   have v6:=hget ⟨sid,1,shd,ssay,true,false,ssent+q,sgot,stx,shrd,ssnd - q,srm⟩ 6 (by decide)
   have w0:=hget ⟨sid,1,shd,ssay,true,decide (ssent+q=ssay.length),ssent+q,sgot,stx,shrd,ssnd - q,srm⟩ 0 (by decide)
   rw [Nat.add_zero] at w0
   have w5:=hget ⟨sid,1,shd,ssay,true,decide (ssent+q=ssay.length),ssent+q,sgot,stx,shrd,ssnd - q,srm⟩ 5 (by decide)
   simp -implicitDefEqProofs (maxSteps:=1000000) (disch:=omega) only [push_cast,simprocAttr,hv,hb,g4,hll,q0,q3,q5,q6,q10,min3',hq,hq0',hsl hq0,r3,r4,r5,u6,v3,v6,w0,w5,↓gd]
   repeat refine And.intro (by omega) ?_
   have hfok:frameOk ⟨0,decide (ssent+q=ssay.length),sid,(ssay.drop ssent.toNat).take q.toNat⟩=true:=say_frame a1 a5 hsa (by omega) (by omega)
   refine ((FrameWrite_ok ⟨0,decide (ssent+q=ssay.length),sid,(ssay.drop ssent.toNat).take q.toNat⟩ _).as rfl).to ?_
   rw [if_pos hfok]
   have hfd:=frW_len ⟨0,decide (ssent+q=ssay.length),sid,(ssay.drop ssent.toNat).take q.toNat⟩
   simp only at hfd
   cases ans
   ·simp -implicitDefEqProofs (maxSteps:=1000000) (disch:=omega) only [push_cast,simprocAttr,hv,hb,g4,hll,q0,q3,q5,q6,q10,min3',hq,hq0',hsl hq0,r3,r4,r5,u6,v3,v6,w0,w5,frW_len,↓gd]
    repeat refine And.intro (by omega) ?_
    refine fin0 _ out (snd - q) ⟨sid,1,shd,ssay,true,decide (ssent+q=ssay.length),ssent+q,sgot,stx,shrd,ssnd - q,srm⟩ _ (by simp [sayE,beginM,pieceM,setSt,mayM,hq,hq0]) ?_ ?_ ?_ (by repeat (first | exact Upd.refl _ _ | refine Upd.set ?_ _ (.inr (by simp))))
    ·first | exact hv | simp -implicitDefEqProofs (maxSteps:=1000000) (disch:=omega) only [push_cast,simprocAttr,hv,↓gd]
    ·first | exact hb | simp -implicitDefEqProofs (maxSteps:=1000000) (disch:=omega) only [push_cast,simprocAttr,↓gd]
    ·first | exact hc | simp -implicitDefEqProofs (maxSteps:=1000000) (disch:=omega) only [push_cast,simprocAttr,hc,↓gd]
   ·by_cases he0:ssent+q=ssay.length
    ·simp only [he0,decide_true] at r5 r6 w0 w5 ⊢
     simp -implicitDefEqProofs (maxSteps:=1000000) (disch:=omega) only [push_cast,simprocAttr,hv,hb,g4,hll,q0,q3,q5,q6,q10,min3',hq,hq0',hsl hq0,r3,r4,r5,u6,v3,v6,w0,w5,he0,r6,frW_len,↓gd]
     repeat refine And.intro (by omega) ?_
     refine fin0 _ out (snd - q) ⟨sid,2,shd,ssay,true,true,ssay.length,sgot,stx,shrd,ssnd - q,srm⟩ _ (by simp [sayE,beginM,pieceM,setSt,mayM,hq,hq0,he0]) ?_ ?_ ?_ (by repeat (first | exact Upd.refl _ _ | refine Upd.set ?_ _ (.inr (by simp))))
     ·first | exact hv | simp -implicitDefEqProofs (maxSteps:=1000000) (disch:=omega) only [push_cast,simprocAttr,hv,↓gd]
     ·first | exact hb | simp -implicitDefEqProofs (maxSteps:=1000000) (disch:=omega) only [push_cast,simprocAttr,↓gd]
     ·first | exact hc | simp -implicitDefEqProofs (maxSteps:=1000000) (disch:=omega) only [push_cast,simprocAttr,hc,↓gd]
    ·simp only [he0,decide_false] at r5 w0 w5 ⊢
     simp -implicitDefEqProofs (maxSteps:=1000000) (disch:=omega) only [push_cast,simprocAttr,hv,hb,g4,hll,q0,q3,q5,q6,q10,min3',hq,hq0',hsl hq0,r3,r4,r5,u6,v3,v6,w0,w5,he0,frW_len,↓gd]
     repeat refine And.intro (by omega) ?_
     refine fin0 _ out (snd - q) ⟨sid,1,shd,ssay,true,false,ssent+q,sgot,stx,shrd,ssnd - q,srm⟩ _ (by simp [sayE,beginM,pieceM,setSt,mayM,hq,hq0,he0]) ?_ ?_ ?_ (by repeat (first | exact Upd.refl _ _ | refine Upd.set ?_ _ (.inr (by simp))))
     ·first | exact hv | simp -implicitDefEqProofs (maxSteps:=1000000) (disch:=omega) only [push_cast,simprocAttr,hv,↓gd]
     ·first | exact hb | simp -implicitDefEqProofs (maxSteps:=1000000) (disch:=omega) only [push_cast,simprocAttr,↓gd]
     ·first | exact hc | simp -implicitDefEqProofs (maxSteps:=1000000) (disch:=omega) only [push_cast,simprocAttr,hc,↓gd]
  ·have hq0':¬q > 0:=hq0
   cases ans
   ·simp -implicitDefEqProofs (maxSteps:=1000000) (disch:=omega) only [push_cast,simprocAttr,hv,hb,g4,hll,q0,q3,q5,q6,q10,min3',hq,hq0',↓gd]
    repeat refine And.intro (by omega) ?_
    refine fin0 _ out snd ⟨sid,1,shd,ssay,true,false,ssent,sgot,stx,shrd,ssnd,srm⟩ _ (by simp [sayE,beginM,pieceM,setSt,mayM,hq,hq0]) ?_ ?_ ?_ (by repeat (first | exact Upd.refl _ _ | refine Upd.set ?_ _ (.inr (by simp))))
    ·first | exact hv | simp -implicitDefEqProofs (maxSteps:=1000000) (disch:=omega) only [push_cast,simprocAttr,hv,↓gd]
    ·first | exact hb | simp -implicitDefEqProofs (maxSteps:=1000000) (disch:=omega) only [push_cast,simprocAttr,↓gd]
    ·first | exact hc | simp -implicitDefEqProofs (maxSteps:=1000000) (disch:=omega) only [push_cast,simprocAttr,hc,↓gd]
   ·simp -implicitDefEqProofs (maxSteps:=1000000) (disch:=omega) only [push_cast,simprocAttr,hv,hb,g4,hll,q0,q3,q5,q6,q10,min3',hq,hq0',↓gd]
    repeat refine And.intro (by omega) ?_
    refine fin0 _ out snd ⟨sid,1,shd,ssay,true,false,ssent,sgot,stx,shrd,ssnd,srm⟩ _ (by simp [sayE,beginM,pieceM,setSt,mayM,hq,hq0]) ?_ ?_ ?_ (by repeat (first | exact Upd.refl _ _ | refine Upd.set ?_ _ (.inr (by simp))))
    ·first | exact hv | simp -implicitDefEqProofs (maxSteps:=1000000) (disch:=omega) only [push_cast,simprocAttr,hv,↓gd]
    ·first | exact hb | simp -implicitDefEqProofs (maxSteps:=1000000) (disch:=omega) only [push_cast,simprocAttr,↓gd]
    ·first | exact hc | simp -implicitDefEqProofs (maxSteps:=1000000) (disch:=omega) only [push_cast,simprocAttr,hc,↓gd]
end
end Go.Proofs.YtldogccmhncnoaaGreat
