/- A part of the proof: contracts of functions, or plain facts on which these lean. -/
import Derived.Test.YtldogccmhncnoaaGreatDoorMh18
import Derived.Test.YtldogccmhncnoaaGreatDoorMh30
namespace Go.Proofs.YtldogccmhncnoaaGreatDoor
open Go
set_option linter.unusedVariables false
set_option linter.unusedSimpArgs false
set_option maxRecDepth 100000
set_option maxHeartbeats 16000000

section
open Go
theorem fb_split (L:List XS) {i:Nat} (h:i < L.length):fb L=fb (L.take i)++([xb (L.getD i xs0).2.1,xb (L.getD i xs0).2.2]++fb (L.drop (i+1))):=by
 conv=>lhs; rw [←List.take_append_drop i L,List.drop_eq_getElem_cons h]
 rw [fb_app,List.getD_eq_getElem?_getD,List.getElem?_eq_getElem h]
 rfl
theorem mem_fb {L:List XS} {x:XS} (h:x ∈ L):xb x.2.1 ∈ fb L∧xb x.2.2 ∈ fb L :=
 ⟨List.mem_flatMap.2 ⟨x,h,by simp⟩,List.mem_flatMap.2 ⟨x,h,by simp⟩⟩
theorem OwnL.set {S S2:List Blk} {L:List XS} (h:OwnL S L) (hlt:(fb L).Pairwise (· < ·)) {i:Nat} (hi:i < L.length) {s s':St} {ph pg:Nat} (hx:L.getD i xs0=(s,.heap ph s.head.length,.heap pg s.got.length))
  (e1:s'.head.length=s.head.length) (e2:s'.got.length=s.got.length) (hk:∀(q:Nat) (cs:List V),q≠ph→q≠pg→S[q]?=some (.cells 3 cs)→S2[q]?=some (.cells 3 cs))
  (h1:S2[ph]?=some (.cells 3 (fcs s'.head))) (h2:S2[pg]?=some (.cells 3 (fcs s'.got))):OwnL S2 (L.set i (s',.heap ph s.head.length,.heap pg s.got.length)):=by
 rw [fb_split L hi,hx] at hlt
 obtain ⟨a1,a2,a3⟩:=List.pairwise_append.1 hlt
 obtain ⟨b1,b2,b3⟩:=List.pairwise_append.1 a2
 intro x hm
 rw [List.set_eq_take_append_cons_drop,if_pos hi] at hm
 have keep:∀x,x ∈ L→(∀q,q=xb x.2.1∨q=xb x.2.2→q≠ph∧q≠pg)→(∃p,x.2.1=.heap p x.1.head.length∧S2[p]?=some (.cells 3 (fcs x.1.head)))∧(∃p,x.2.2=.heap p x.1.got.length∧S2[p]?=some (.cells 3 (fcs x.1.got))):=fun x hm hne=>by
  obtain ⟨⟨p,g1,g2⟩,⟨q,g3,g4⟩⟩:=h x hm
  have n1:=hne p (.inl (by rw [g1]; rfl))
  have n2:=hne q (.inr (by rw [g3]; rfl))
  exact ⟨⟨p,g1,hk _ _ n1.1 n1.2 g2⟩,⟨q,g3,hk _ _ n2.1 n2.2 g4⟩⟩
 rcases List.mem_append.1 hm with hm | hm
 ·refine keep x (List.mem_of_mem_take hm) fun q hq=>?_
  have hq':q ∈ fb (L.take i):=by
   rcases hq with rfl | rfl
   ·exact (mem_fb hm).1
   ·exact (mem_fb hm).2
  have c1:=a3 q hq' ph (by simp [xb])
  have c2:=a3 q hq' pg (by simp [xb])
  exact ⟨by omega,by omega⟩
 ·rcases List.mem_cons.1 hm with rfl | hm
  ·exact ⟨⟨ph,by rw [e1],h1⟩,⟨pg,by rw [e2],h2⟩⟩
  ·refine keep x (List.mem_of_mem_drop hm) fun q hq=>?_
   have hq':q ∈ fb (L.drop (i+1)):=by
    rcases hq with rfl | rfl
    ·exact (mem_fb hm).1
    ·exact (mem_fb hm).2
   have c1:=b3 ph (by simp [xb]) q hq'
   have c2:=b3 pg (by simp [xb]) q hq'
   exact ⟨by omega,by omega⟩
theorem markStreamS_ok {ls:List XS} (k:Nat) (hl:ls.length≤2000000) (hB:∀x ∈ ls,x.1.head.length≤2000000∧x.1.got.length≤2000000) (hk:k+cntX ls≤90000000) {S:List Blk} {b:Nat} (kb:S[b]?=some (.cells 12 (xsC ls))) (hown:OwnL S ls) (hlt:(fb ls).Pairwise (· < ·)) :
  VCall Tryz.prog 50 [.heap b ls.length,.int .i64 k] S fun r S'=>r=.int .i64 ((k+cntX ls:Nat):Int)∧S'[b]?=some (.cells 12 (xsC (mkXs ls k)))∧OwnL S' (mkXs ls k)∧Upd (b :: fb ls) S S':=by
 refine VCall.en hDe Tryz.func50 Tryz.ntmps50 Tryz.results50 ?_
 simp -implicitDefEqProofs (maxSteps:=1000000) (disch:=omega) only [push_cast,simprocAttr,↓gd]
 refine wpV_loop (fun m t S'=>∃i K:Nat,m=ls.length - i∧i≤ls.length∧K=k+cntX (ls.take i)∧t 0=.heap b ls.length∧t 1=.int .i64 (K:Int)∧t 5=.int .i64 i∧S'[b]?=some (.cells 12 (xsC (mkTo ls k i)))∧OwnL S' (mkTo ls k i)∧Upd (b :: fb ls) S S') ls.length ⟨0,k,by omega,by omega,by simp [cntX,cntSs],rfl,rfl,rfl,by rw [mkTo_zero]; exact kb,by rw [mkTo_zero]; exact hown,Upd.refl _ _⟩ ?_
 rintro m t S' ⟨i,K0,rfl,hi,hK0,h0,h1,h5,kb',hown',hu⟩
 refine wpV_of0 hDe ?_
 by_cases hil:i < ls.length
 ·have hil':(i:Int) < ls.length:=by omega
  have lb:=lt_of_some kb'
  have hCl:=xsC_len (mkTo ls k i)
  rw [mkTo_len] at hCl
  have hmg:=mkTo_get ls k hil
  have hmi:i < (mkTo ls k i).length:=by rw [mkTo_len]; exact hil
  have hxm:=hown' ((mkTo ls k i).getD i xs0) (getD_memX hmi)
  have hcn:=cntX_succ hil
  have hcp:cntX (ls.take (i+1))≤cntX ls:=by
   have:=cntX_app (ls.take (i+1)) (ls.drop (i+1))
   rw [List.take_append_drop] at this
   omega
  have hput:=xsC_put (ls:=mkTo ls k i) (i:=i) (mkX (ls.getD i xs0) (k+cntX (ls.take i))) hmi
  have hsucc:=mkTo_succ ls k hil
  rw [←hsucc,←hK0] at hput
  rw [←hK0] at hsucc
  have hBx:=hB (ls.getD i xs0) (getD_memX hil)
  have hget2:=xsC_get (ls:=mkTo ls k i) hmi (c:=2) (by decide)
  have hget7:=xsC_get (ls:=mkTo ls k i) hmi (c:=7) (by decide)
  have hfb:=fb_split (mkTo ls k i) hmi
  have hfe:=mkTo_fb ls k i
  rw [hmg] at hxm hget2 hget7 hfb
  have hltm:=hlt
  rw [←hfe] at hltm
  generalize ls.getD i xs0=x at *
  obtain ⟨s,vh,vg⟩:=x
  obtain ⟨⟨ph,hvh,kh⟩,⟨pg,hvg,kg⟩⟩:=hxm
  simp only at hvh hvg kh kg hBx
  subst hvh hvg
  obtain ⟨hB1,hB2⟩:=hBx
  have hget2:(xsC (mkTo ls k i))[i * 12+2]?=some (.heap ph s.head.length):=hget2
  have hget7:(xsC (mkTo ls k i))[i * 12+7]?=some (.heap pg s.got.length):=hget7
  have lh:=lt_of_some kh
  have lg:=lt_of_some kg
  have hne1:b≠ph:=by rintro rfl; rw [kb'] at kh; cases kh
  have hne2:b≠pg:=by rintro rfl; rw [kb'] at kg; cases kg
  have hne3:ph≠pg:=by
   rw [hfb] at hltm
   have:=(List.pairwise_append.1 (List.pairwise_append.1 hltm).2.1).1
   simp [xb] at this
   omega
  have mh:ph ∈ fb ls:=by rw [←hfe,hfb]; simp [xb]
  have mg:pg ∈ fb ls:=by rw [←hfe,hfb]; simp [xb]
  have hcs:cntS s=10+3 * s.head.length+3 * s.got.length:=rfl
  have hcn:cntX (ls.take (i+1))=cntX (ls.take i)+cntS s:=hcn
  obtain ⟨K1,hK1⟩:∃n:Nat,n=K0+1:=⟨_,rfl⟩
  obtain ⟨K2,hK2⟩:∃n:Nat,n=K1+1:=⟨_,rfl⟩
  obtain ⟨K3,hK3⟩:∃n:Nat,n=K2+3 * s.head.length:=⟨_,rfl⟩
  obtain ⟨K4,hK4⟩:∃n:Nat,n=K3+1:=⟨_,rfl⟩
  obtain ⟨K5,hK5⟩:∃n:Nat,n=K4+1:=⟨_,rfl⟩
  obtain ⟨K6,hK6⟩:∃n:Nat,n=K5+1:=⟨_,rfl⟩
  obtain ⟨K7,hK7⟩:∃n:Nat,n=K6+1:=⟨_,rfl⟩
  obtain ⟨K8,hK8⟩:∃n:Nat,n=K7+3 * s.got.length:=⟨_,rfl⟩
  obtain ⟨K9,hK9⟩:∃n:Nat,n=K8+1:=⟨_,rfl⟩
  obtain ⟨K10,hK10⟩:∃n:Nat,n=K9+1:=⟨_,rfl⟩
  obtain ⟨K11,hK11⟩:∃n:Nat,n=K10+1:=⟨_,rfl⟩
  obtain ⟨K12,hK12⟩:∃n:Nat,n=K11+1:=⟨_,rfl⟩
  have r1:K0+1=K1:=by omega
  have r2:K0+2=K2:=by omega
  have r3:K0+2+3 * s.head.length=K3:=by omega
  have r4:K0+3+3 * s.head.length=K4:=by omega
  have r5:K0+4+3 * s.head.length=K5:=by omega
  have r6:K0+5+3 * s.head.length=K6:=by omega
  have r7:K0+6+3 * s.head.length=K7:=by omega
  have r8:K0+6+3 * s.head.length+3 * s.got.length=K8:=by omega
  have r9:K0+7+3 * s.head.length+3 * s.got.length=K9:=by omega
  have r10:K0+8+3 * s.head.length+3 * s.got.length=K10:=by omega
  have r11:K0+9+3 * s.head.length+3 * s.got.length=K11:=by omega
  have hput:splice (xsC (mkTo ls k i)) (i * 12) [V.int .i64 (K0:Int),V.int .i64 (K1:Int),V.heap ph s.head.length,V.str (mtext K3),V.bool (decide (K4 % 3=0)),V.bool (decide (K5 % 3=0)),V.int .i64 (K6:Int),V.heap pg s.got.length,V.str (mtext K8),V.bool (decide (K9 % 3=0)),V.int .i64 (K10:Int),V.int .i64 (K11:Int)]=xsC (mkTo ls k (i+1)):=by
   rw [←hput]
   simp only [xsF,mkX,strX,mkS,r1,r2,r3,r4,r5,r6,r7,r8,r9,r10,r11,hK3.symm,hK8.symm]
  have hms:mkX (s,V.heap ph s.head.length,V.heap pg s.got.length) K0=(mkS s K0,V.heap ph s.head.length,V.heap pg s.got.length):=rfl
  have hmh:(mkS s K0).head=mkFto s.head K2 s.head.length:=by rw [mkFto_all]; simp only [mkS,r2]
  have hmgt:(mkS s K0).got=mkFto s.got K7 s.got.length:=by rw [mkFto_all]; simp only [mkS,r7]
  have f2:=fun (Z:List Blk) (q:Z[ph]?=some (.cells 3 (fcs s.head)))=>markFieldS_ok s.head K2 hB1 (by omega) q
  have f7:=fun (Z:List Blk) (q:Z[pg]?=some (.cells 3 (fcs s.got)))=>markFieldS_ok s.got K7 hB2 (by omega) q
  rw [←hK3] at f2
  rw [←hK8] at f7
  rw [←hmh] at f2
  rw [←hmgt] at f7
  have e0:(K0:Int)+1=(K1:Int):=by omega
  have e1:(K1:Int)+1=(K2:Int):=by omega
  have e3:(K3:Int)+1=(K4:Int):=by omega
  have x3:=fun T=>markText_ok K3 (by omega) T
  generalize hm3:mtext K3=m3 at *
  have e4:(K4:Int)+1=(K5:Int):=by omega
  have d4:=dec3 K4
  generalize hb4:decide (K4 % 3=0)=bb4 at *
  have e5:(K5:Int)+1=(K6:Int):=by omega
  have d5:=dec3 K5
  generalize hb5:decide (K5 % 3=0)=bb5 at *
  have e6:(K6:Int)+1=(K7:Int):=by omega
  have e8:(K8:Int)+1=(K9:Int):=by omega
  have x8:=fun T=>markText_ok K8 (by omega) T
  generalize hm8:mtext K8=m8 at *
  have e9:(K9:Int)+1=(K10:Int):=by omega
  have d9:=dec3 K9
  generalize hb9:decide (K9 % 3=0)=bb9 at *
  have e10:(K10:Int)+1=(K11:Int):=by omega
  have e11:(K11:Int)+1=(K12:Int):=by omega
  generalize hCz:xsC (mkTo ls k i)=C0 at *
  generalize hCn:xsC (mkTo ls k (i+1))=C12 at *
  simp only [splice_cons,splice_nil,Nat.add_assoc,Nat.reduceAdd] at hput
  obtain ⟨D1,hD1⟩:∃C,C=C0.set (i * 12) (V.int .i64 (K0:Int)):=⟨_,rfl⟩
  rw [←hD1] at hput
  have q0:splice C0 (i * 12) [V.int .i64 (K0:Int)]=D1:=by rw [splice_one,hD1]
  have n0:D1.length=ls.length * 12:=by rw [hD1,List.length_set]; exact hCl
  obtain ⟨D2,hD2⟩:∃C,C=D1.set (i * 12+1) (V.int .i64 (K1:Int)):=⟨_,rfl⟩
  rw [←hD2] at hput
  have q1:splice D1 (i * 12+1) [V.int .i64 (K1:Int)]=D2:=by rw [splice_one,hD2]
  have n1:D2.length=ls.length * 12:=by rw [hD2,List.length_set]; exact n0
  have g2:D2[i * 12+2]?=some (V.heap ph s.head.length):=by rw [hD2,List.getElem?_set_ne (by omega),hD1,List.getElem?_set_ne (by omega)]; exact hget2
  rw [set_same2 g2] at hput
  obtain ⟨D3,hD3⟩:∃C,C=D2.set (i * 12+3) (V.str m3):=⟨_,rfl⟩
  rw [←hD3] at hput
  have q3:splice D2 (i * 12+3) [V.str m3]=D3:=by rw [splice_one,hD3]
  have n3:D3.length=ls.length * 12:=by rw [hD3,List.length_set]; exact n1
  obtain ⟨D4,hD4⟩:∃C,C=D3.set (i * 12+4) (V.bool bb4):=⟨_,rfl⟩
  rw [←hD4] at hput
  have q4:splice D3 (i * 12+4) [V.bool bb4]=D4:=by rw [splice_one,hD4]
  have n4:D4.length=ls.length * 12:=by rw [hD4,List.length_set]; exact n3
  obtain ⟨D5,hD5⟩:∃C,C=D4.set (i * 12+5) (V.bool bb5):=⟨_,rfl⟩
  rw [←hD5] at hput
  have q5:splice D4 (i * 12+5) [V.bool bb5]=D5:=by rw [splice_one,hD5]
  have n5:D5.length=ls.length * 12:=by rw [hD5,List.length_set]; exact n4
  obtain ⟨D6,hD6⟩:∃C,C=D5.set (i * 12+6) (V.int .i64 (K6:Int)):=⟨_,rfl⟩
  rw [←hD6] at hput
  have q6:splice D5 (i * 12+6) [V.int .i64 (K6:Int)]=D6:=by rw [splice_one,hD6]
  have n6:D6.length=ls.length * 12:=by rw [hD6,List.length_set]; exact n5
  have g7:D6[i * 12+7]?=some (V.heap pg s.got.length):=by rw [hD6,List.getElem?_set_ne (by omega),hD5,List.getElem?_set_ne (by omega),hD4,List.getElem?_set_ne (by omega),hD3,List.getElem?_set_ne (by omega),hD2,List.getElem?_set_ne (by omega),hD1,List.getElem?_set_ne (by omega)]; exact hget7
  rw [set_same2 g7] at hput
  obtain ⟨D7,hD7⟩:∃C,C=D6.set (i * 12+8) (V.str m8):=⟨_,rfl⟩
  rw [←hD7] at hput
  have q8:splice D6 (i * 12+8) [V.str m8]=D7:=by rw [splice_one,hD7]
  have n8:D7.length=ls.length * 12:=by rw [hD7,List.length_set]; exact n6
  obtain ⟨D8,hD8⟩:∃C,C=D7.set (i * 12+9) (V.bool bb9):=⟨_,rfl⟩
  rw [←hD8] at hput
  have q9:splice D7 (i * 12+9) [V.bool bb9]=D8:=by rw [splice_one,hD8]
  have n9:D8.length=ls.length * 12:=by rw [hD8,List.length_set]; exact n8
  obtain ⟨D9,hD9⟩:∃C,C=D8.set (i * 12+10) (V.int .i64 (K10:Int)):=⟨_,rfl⟩
  rw [←hD9] at hput
  have q10:splice D8 (i * 12+10) [V.int .i64 (K10:Int)]=D9:=by rw [splice_one,hD9]
  have n10:D9.length=ls.length * 12:=by rw [hD9,List.length_set]; exact n9
  have q11:splice D9 (i * 12+11) [V.int .i64 (K11:Int)]=C12:=by rw [splice_one]; exact hput
  clear hD9 hD8 hD7 hD6 hD5 hD4 hD3 hD2 hD1 hput
  simp -implicitDefEqProofs (maxSteps:=1000000) (disch:=omega) only [push_cast,simprocAttr,h0,h1,h5,hil',kb',lb,e0,e1,e3,e4,d4,e5,d5,e6,e8,e9,d9,e10,e11,q0,q1,q3,q4,q5,q6,q8,q9,q10,q11,g2,g7,↓gd]
  repeat refine And.intro (by omega) ?_
  refine ((f2 _ (by simp -implicitDefEqProofs (maxSteps:=1000000) (disch:=omega) only [push_cast,simprocAttr,kh,kg,↓gd])).as (by rfl)).to ?_
  simp -implicitDefEqProofs (maxSteps:=1000000) (disch:=omega) only [push_cast,simprocAttr,h0,h1,h5,hil',kb',lb,e0,e1,e3,e4,d4,e5,d5,e6,e8,e9,d9,e10,e11,q0,q1,q3,q4,q5,q6,q8,q9,q10,q11,g2,g7,↓gd]
  repeat refine And.intro (by omega) ?_
  refine ((x3 _).as (by rfl)).to ?_
  simp -implicitDefEqProofs (maxSteps:=1000000) (disch:=omega) only [push_cast,simprocAttr,h0,h1,h5,hil',kb',lb,e0,e1,e3,e4,d4,e5,d5,e6,e8,e9,d9,e10,e11,q0,q1,q3,q4,q5,q6,q8,q9,q10,q11,g2,g7,↓gd]
  repeat refine And.intro (by omega) ?_
  refine ((f7 _ (by simp -implicitDefEqProofs (maxSteps:=1000000) (disch:=omega) only [push_cast,simprocAttr,kh,kg,↓gd])).as (by rfl)).to ?_
  simp -implicitDefEqProofs (maxSteps:=1000000) (disch:=omega) only [push_cast,simprocAttr,h0,h1,h5,hil',kb',lb,e0,e1,e3,e4,d4,e5,d5,e6,e8,e9,d9,e10,e11,q0,q1,q3,q4,q5,q6,q8,q9,q10,q11,g2,g7,↓gd]
  repeat refine And.intro (by omega) ?_
  refine ((x8 _).as (by rfl)).to ?_
  simp -implicitDefEqProofs (maxSteps:=1000000) (disch:=omega) only [push_cast,simprocAttr,h0,h1,h5,hil',kb',lb,e0,e1,e3,e4,d4,e5,d5,e6,e8,e9,d9,e10,e11,q0,q1,q3,q4,q5,q6,q8,q9,q10,q11,g2,g7,↓gd]
  repeat refine And.intro (by omega) ?_
  refine ⟨ls.length - (i+1),by omega,i+1,K12,rfl,by omega,by omega,by simp,by simp,?_,?_,?_⟩
  ·rw [hCn]
  ·rw [hsucc,hms]
   refine OwnL.set hown' hltm hmi hmg (mkFs_len _ _) (mkFs_len _ _) (fun q cs n1 n2 hq=>?_) ?_ ?_
   ·have n3:b≠q:=by rintro rfl; rw [kb'] at hq; cases hq
    simp -implicitDefEqProofs (maxSteps:=1000000) (disch:=omega) only [push_cast,simprocAttr,hq,↓gd]
   ·simp -implicitDefEqProofs (maxSteps:=1000000) (disch:=omega) only [push_cast,simprocAttr,↓gd]
   ·simp -implicitDefEqProofs (maxSteps:=1000000) (disch:=omega) only [push_cast,simprocAttr,↓gd]
  ·have hbm:b ∈ b :: fb ls:=List.mem_cons_self ..
   have hhm:ph ∈ b :: fb ls:=List.mem_cons_of_mem _ mh
   have hgm:pg ∈ b :: fb ls:=List.mem_cons_of_mem _ mg
   repeat first | exact hu | refine Upd.set ?_ _ (.inr hbm) | refine Upd.set ?_ _ (.inr hhm) | refine Upd.set ?_ _ (.inr hgm)
 ·have:i=ls.length:=by omega
  subst this
  have hil':¬((ls.length:Nat):Int) < ls.length:=by omega
  simp -implicitDefEqProofs (maxSteps:=1000000) (disch:=omega) only [push_cast,simprocAttr,h0,h1,h5,hil',↓gd]
  rw [mkTo_all] at kb' hown'
  rw [List.take_length] at hK0
  exact ⟨_,_,Wk.refl _ _ _,by rw [hK0]; rfl,kb',hown',hu⟩
theorem markTable_ok (l:List Fd) (max:Int) (k:Nat) (hl:l.length≤2000000) (hk:k+3 * l.length≤90000000) {S:List Blk} {p:Nat} (hp:S[p]?=some (.cells 3 (fcs l))) :
  VCall Tryz.prog 49 [.agg [.heap p l.length,.int .i64 max],.int .i64 k] S fun r S'=>r=.int .i64 ((k+3 * l.length:Nat):Int)∧S'[p]?=some (.cells 3 (fcs (mkFs l.length k)))∧Upd [p] S S':=by
 have lp:=lt_of_some hp
 refine VCall.en hD Tryz.func49 Tryz.ntmps49 Tryz.results49 ?_
 simp -implicitDefEqProofs (maxSteps:=1000000) (disch:=omega) only [push_cast,simprocAttr,↓gd]
 refine ((markFieldS_ok l k hl hk (S:=S++[Blk.cells 0 [V.heap p l.length,.int .i64 max]]) (by rw [List.getElem?_append_left lp]; exact hp)).as (by rfl)).to ?_
 rw [mkFto_all]
 generalize hK:k+3 * l.length=K
 simp -implicitDefEqProofs (maxSteps:=1000000) (disch:=omega) only [push_cast,simprocAttr,↓gd]
 refine ⟨_,_,Wk.refl _ _ _,by congr 1; omega,?_,?_⟩
 ·rw [List.getElem?_append_left (by simpa using lp),List.getElem?_set_self lp]
 ·exact ((Upd.refl [p] S).set _ (.inr (List.mem_singleton.2 rfl))).app _
theorem upd_lo {S0 S S':List Blk} {bs:List Nat} (h:Upd [] S0 S) (k:Upd bs S S') (hb:∀p ∈ bs,S0.length≤p):Upd [] S0 S' :=
 ⟨Nat.le_trans h.1 k.1,fun j hj _=>(k.2 j (Nat.lt_of_lt_of_le hj h.1) (fun hm=>by have:=hb j hm; omega)).trans (h.2 j hj (by simp))⟩
def eBlks (po pi b c:Nat) (ls:List XS):List Nat:=b :: c :: po :: pi :: fb ls
def markLs (ls:List XS) (e:En) (k:Nat):List XS:=mkXs ls (k+3 * e.out.length+3 * e.inn.length)
theorem OwnL.cell {S:List Blk} {ls:List XS} (h:OwnL S ls) {p:Nat} (hp:p ∈ fb ls):∃l,S[p]?=some (.cells 3 (fcs l)):=by
 obtain ⟨x,hx,hm⟩:=List.mem_flatMap.1 hp
 obtain ⟨⟨q,g1,g2⟩,⟨z,g3,g4⟩⟩:=h x hx
 rw [g1,g3] at hm
 simp only [xb,List.mem_cons,List.not_mem_nil,or_false] at hm
 rcases hm with rfl | rfl
 ·exact ⟨_,g2⟩
 ·exact ⟨_,g4⟩
theorem OwnL.keep {S S':List Blk} {ls:List XS} (h:OwnL S ls) {bs:List Nat} (hu:Upd bs S S') (hb:∀p ∈ fb ls,p ∉ bs):OwnL S' ls:=fun x hx=>by
 obtain ⟨⟨q,g1,g2⟩,⟨z,g3,g4⟩⟩:=h x hx
 have m1:=(mem_fb hx).1
 have m2:=(mem_fb hx).2
 rw [g1] at m1
 rw [g3] at m2
 exact ⟨⟨q,g1,hu.get g2 (hb _ m1)⟩,⟨z,g3,hu.get g4 (hb _ m2)⟩⟩
structure Apart (po pi b c:Nat) (ls:List XS):Prop where
 bc:b≠c
 bo:b≠po
 bi:b≠pi
 co:c≠po
 ci:c≠pi
 oi:po≠pi
 bf:b ∉ fb ls
 cf:c ∉ fb ls
 of:po ∉ fb ls
 if_:pi ∉ fb ls
theorem EnO.apart {S0 S:List Blk} {po pi b c:Nat} {ls:List XS} {e:En} (h:EnO S0 po pi b c ls e S):Apart po pi b c ls:=by
 obtain ⟨hlt1,hlt2⟩:=List.pairwise_cons.1 h.lt
 obtain ⟨hlt3,hlt4⟩:=List.pairwise_cons.1 hlt2
 have hpp:po < pi:=hlt1 pi (List.mem_cons_self ..)
 refine ⟨?_,?_,?_,?_,?_,by omega,fun hm=>?_,fun hm=>?_,fun hm=>?_,fun hm=>?_⟩
 ·rintro rfl; have:=h.kb.symm.trans h.kc; simp at this
 ·rintro rfl; have:=h.kb.symm.trans h.out; simp at this
 ·rintro rfl; have:=h.kb.symm.trans h.inn; simp at this
 ·rintro rfl; have:=h.kc.symm.trans h.out; simp at this
 ·rintro rfl; have:=h.kc.symm.trans h.inn; simp at this
 ·obtain ⟨l,hl⟩:=h.own.cell hm; have:=h.kb.symm.trans hl; simp at this
 ·obtain ⟨l,hl⟩:=h.own.cell hm; have:=h.kc.symm.trans hl; simp at this
 ·have:=hlt1 po (List.mem_cons_of_mem _ hm); omega
 ·have:=hlt3 pi hm; omega
theorem markEnd_ok {S0 S:List Blk} {po pi b c:Nat} {ls:List XS} {e:En} (hB:EnB e) (h:EnO S0 po pi b c ls e S) (k:Nat) (hk:k+cntE e≤90000000) :
  VCall Tryz.prog 12 [xV (.heap po e.out.length) (.heap pi e.inn.length) b c e,.int .i64 k] S fun r S'=>r=.int .i64 ((k+cntE e:Nat):Int)∧EnO S0 po pi b c (markLs ls e k) (markE e k) S'∧Upd (eBlks po pi b c ls) S S':=by
 have hlen:ls.length=e.strs.length:=by rw [←h.strs,List.length_map]
 have hcx:cntX ls=cntSs e.strs:=by rw [cntX,h.strs]
 have hel:=hB.len
 have hwl:=hB.wait
 have hol:=hB.out.1
 have hnl:=hB.inn.1
 have hce:cntE e=3 * e.out.length+3 * e.inn.length+cntSs e.strs+4 * e.wait.length:=rfl
 have hlt4:=(List.pairwise_cons.1 (List.pairwise_cons.1 h.lt).2).2
 have hBs:∀x ∈ ls,x.1.head.length≤2000000∧x.1.got.length≤2000000:=fun x hx=>by
  have:x.1 ∈ e.strs:=by rw [←h.strs]; exact List.mem_map_of_mem hx
  exact ⟨(hB.sts _ this).head.1,(hB.sts _ this).got.1⟩
 obtain ⟨hbc,hbo,hbi,hco,hci,hoi,hbf,hcf,hof,hif⟩:=h.apart
 obtain ⟨K1,hK1⟩:∃n,k+3 * e.out.length=n:=⟨_,rfl⟩
 obtain ⟨K2,hK2⟩:∃n,K1+3 * e.inn.length=n:=⟨_,rfl⟩
 obtain ⟨K3,hK3⟩:∃n,K2+cntX ls=n:=⟨_,rfl⟩
 obtain ⟨K4,hK4⟩:∃n,K3+4 * e.wait.length=n:=⟨_,rfl⟩
 have m1:=fun (Z:List Blk) (q:Z[po]?=some (.cells 3 (fcs e.out)))=>markTable_ok e.out e.outM k hol (by omega) q
 have m2:=fun (Z:List Blk) (q:Z[pi]?=some (.cells 3 (fcs e.inn)))=>markTable_ok e.inn e.innM K1 hnl (by omega) q
 have m3:=fun (Z:List Blk) (q:Z[b]?=some (.cells 12 (xsC ls))) (w:OwnL Z ls)=>markStreamS_ok K2 (by omega) hBs (by omega) q w hlt4
 have m4:=fun (Z:List Blk) (q:Z[c]?=some (.cells 4 (frmsC e.wait)))=>markFrameS_ok e.wait K3 (by omega) (by omega) q
 rw [hK1] at m1
 rw [hK2] at m2
 rw [hK3,hlen] at m3
 rw [hK4] at m4
 refine VCall.en hDe Tryz.func12 Tryz.ntmps12 Tryz.results12 ?_
 simp -implicitDefEqProofs (maxSteps:=1000000) (disch:=omega) only [push_cast,simprocAttr,↓gd]
 have hu0:Upd [] S (S++[Blk.cells 0 (enX (.heap po e.out.length) (.heap pi e.inn.length) (.heap b e.strs.length) (.heap c e.wait.length) e)]):=(Upd.refl _ _).app _
 have v0:(S++[Blk.cells 0 (enX (.heap po e.out.length) (.heap pi e.inn.length) (.heap b e.strs.length) (.heap c e.wait.length) e)])[S.length]?=some (Blk.cells 0 (enX (.heap po e.out.length) (.heap pi e.inn.length) (.heap b e.strs.length) (.heap c e.wait.length) e)):=by rw [app_get0]; rfl
 have lo:=lt_of_some h.out
 have li:=lt_of_some h.inn
 have lb:=lt_of_some h.kb
 have lc:=lt_of_some h.kc
 have lf:=h.own.lt
 refine ((m1 _ (hu0.get h.out (by simp))).as (by rfl)).mono ?_
 rintro r S1 ⟨rfl,o1,u1⟩
 have v1:=u1.get v0 (by simp; omega)
 have i1:=u1.get (hu0.get h.inn (by simp)) (by simp; omega)
 have b1:=u1.get (hu0.get h.kb (by simp)) (by simp; omega)
 have c1:=u1.get (hu0.get h.kc (by simp)) (by simp; omega)
 have w1:OwnL S1 ls:=(h.own.keep hu0 (by simp)).keep u1 (fun p hp hq=>by rw [List.mem_singleton] at hq; subst hq; exact hof hp)
 simp -implicitDefEqProofs (maxSteps:=1000000) (disch:=omega) only [push_cast,simprocAttr,v1,↓gd]
 refine ((m2 _ i1).as (by rfl)).mono ?_
 rintro r S2 ⟨rfl,i2,u2⟩
 have v2:=u2.get v1 (by simp; omega)
 have o2:=u2.get o1 (by simp; omega)
 have b2:=u2.get b1 (by simp; omega)
 have c2:=u2.get c1 (by simp; omega)
 have w2:OwnL S2 ls:=w1.keep u2 (fun p hp hq=>by rw [List.mem_singleton] at hq; subst hq; exact hif hp)
 simp -implicitDefEqProofs (maxSteps:=1000000) (disch:=omega) only [push_cast,simprocAttr,v2,↓gd]
 refine ((m3 _ b2 w2).as (by rfl)).mono ?_
 rintro r S3 ⟨rfl,b3,w3,u3⟩
 have v3:=u3.get v2 (by
  intro hm
  rcases List.mem_cons.1 hm with q | q
  ·omega
  ·have:=lf _ q; omega)
 have o3:=u3.get o2 (by
  intro hm
  rcases List.mem_cons.1 hm with q | q
  ·exact hbo q.symm
  ·exact hof q)
 have i3:=u3.get i2 (by
  intro hm
  rcases List.mem_cons.1 hm with q | q
  ·exact hbi q.symm
  ·exact hif q)
 have c3:=u3.get c2 (by
  intro hm
  rcases List.mem_cons.1 hm with q | q
  ·exact hbc q.symm
  ·exact hcf q)
 simp -implicitDefEqProofs (maxSteps:=1000000) (disch:=omega) only [push_cast,simprocAttr,v3,↓gd]
 refine ((m4 _ c3).as (by rfl)).to ?_
 rw [mkFrto_all]
 have lc3:=lt_of_some c3
 have hsc:∀(B:Blk) (p n:Nat) (cs:List V),n≠4→S3[p]?=some (.cells n cs)→(S3.set c B)[p]?=some (.cells n cs):=fun B p n cs hn hp=>by
  have:c≠p:=by rintro rfl; rw [c3] at hp; cases hp; exact hn rfl
  rw [List.getElem?_set_ne this]; exact hp
 have e1:k+3 * e.out.length+3 * e.inn.length=K2:=by omega
 have e2:K2+cntSs e.strs=K3:=by omega
 have hmk:markE e k={ e with out:=mkFs e.out.length k,inn:=mkFs e.inn.length K1,strs:=mkSs e.strs K2,wait:=mkFrs e.wait.length K3 }:=by
  simp only [markE,hK1,hK2,e2]
 have hls:markLs ls e k=mkXs ls K2:=by rw [markLs,e1]
 have hU:Upd (eBlks po pi b c ls) S (S3.set c (.cells 4 (frmsC (mkFrs e.wait.length K3)))):=by
  have t0:Upd (eBlks po pi b c ls) S (S++[Blk.cells 0 (enX (.heap po e.out.length) (.heap pi e.inn.length) (.heap b e.strs.length) (.heap c e.wait.length) e)]):=(Upd.refl _ _).app _
  have t1:=t0.trans (u1.mono (cs:=eBlks po pi b c ls) fun j _ hj=>by rw [List.mem_singleton] at hj; subst hj; simp [eBlks])
  have t2:=t1.trans (u2.mono (cs:=eBlks po pi b c ls) fun j _ hj=>by rw [List.mem_singleton] at hj; subst hj; simp [eBlks])
  have t3:=t2.trans (u3.mono (cs:=eBlks po pi b c ls) fun j _ hj=>by
   rcases List.mem_cons.1 hj with q | q
   ·rw [q]; simp [eBlks]
   ·simp [eBlks,q])
  exact t3.set _ (.inr (by simp [eBlks]))
 simp -implicitDefEqProofs (maxSteps:=1000000) (disch:=omega) only [push_cast,simprocAttr,↓gd]
 refine ⟨_,_,Wk.refl _ _ _,by congr 1; omega,?_,hU⟩
 rw [hmk,hls]
 refine ⟨by rw [mkXs_fst,h.strs],hsc _ _ _ _ (by decide) b3,by rw [List.getElem?_set_self lc3],hsc _ _ _ _ (by decide) o3,hsc _ _ _ _ (by decide) i3,w3.to (fun p cs hp=>hsc _ p 3 cs (by decide) hp),by rw [mkXs_fb]; exact h.lt,by rw [mkXs_fb]; exact h.lo,h.hb,h.hc,upd_lo h.upd hU ?_⟩
 intro p hp
 exact h.above p (by simpa [eBlks] using hp)
theorem EnO.keep {S0 S S':List Blk} {po pi b c:Nat} {ls:List XS} {e:En} (h:EnO S0 po pi b c ls e S) {bs:List Nat} (hu:Upd bs S S') (hd:∀p ∈ eBlks po pi b c ls,p ∉ bs) (hl:∀p ∈ bs,S0.length≤p):EnO S0 po pi b c ls e S' :=
 ⟨h.strs,hu.get h.kb (hd _ (by simp [eBlks])),hu.get h.kc (hd _ (by simp [eBlks])),hu.get h.out (hd _ (by simp [eBlks])),hu.get h.inn (hd _ (by simp [eBlks])),h.own.keep hu (fun p hp=>hd _ (by simp [eBlks,hp])),h.lt,h.lo,h.hb,h.hc,upd_lo h.upd hu hl⟩
end
section
open Go
theorem mkFrs_get:∀n k i,i < n→(mkFrs n k).getD i fr0=mkFr (k+4 * i)
 | 0,_,_,h=>by omega
 | n+1,k,0,_=>rfl
 | n+1,k,i+1,h=>by
  rw [mkFrs,List.getD_cons_succ,mkFrs_get n (k+4) i (by omega),show k+4+4 * i=k+4 * (i+1) from by omega]
theorem mkSs_get:∀(l:List St) (k i:Nat),i < l.length→(mkSs l k).getD i st0=mkS (l.getD i st0) (k+cntSs (l.take i))
 | [],_,_,h=>by simp at h
 | s :: l,k,0,_=>rfl
 | s :: l,k,i+1,h=>by
  rw [mkSs,List.getD_cons_succ,List.getD_cons_succ,mkSs_get l (k+cntS s) i (by simpa using h),List.take_succ_cons,cntSs,Nat.add_assoc]
theorem cntSs_snoc {l:List St} {i:Nat} (h:i < l.length):cntSs (l.take (i+1))=cntSs (l.take i)+cntS (l.getD i st0):=by
 rw [take_st h,cntSs_app]
 simp [cntSs]
theorem heldFieldS_ok (n k:Nat) (hn:n≤2000000) (hk:k+3 * n≤90000000) (S:List Blk):VCall Tryz.prog 99 [.rows none ((mkFs n k).map fV),.int .i64 k] S fun r S'=>r=.int .i64 ((k+3 * n:Nat):Int)∧S'=S:=by
 have hml:=mkFs_len n k
 refine VCall.ex hD (fun _=>false) (fun id=>if id=4 then [8,8,8,8,8,6,8,8] else if id=7 then [8,8,8,8,8,6,8,8] else []) Tryz.func99 Tryz.ntmps99 Tryz.results99 ?_
 simp -implicitDefEqProofs (maxSteps:=1000000) (disch:=omega) only [push_cast,simprocAttr,↓gd]
 refine wpV_loop (fun m t S'=>∃i K:Nat,m=n - i∧i≤n∧K=k+3 * i∧t 0=.rows none ((mkFs n k).map fV)∧t 1=.int .i64 (K:Int)∧t 5=.int .i64 i∧S'=S) n ⟨0,k,by omega,by omega,by omega,rfl,rfl,rfl,rfl⟩ ?_
 rintro m t S' ⟨i,K0,rfl,hi,hK0,h0,h1,h5,rfl⟩
 refine wpV_of hD (fun _=>false) (fun id=>if id=4 then [8,8,8,8,8,6,8,8] else if id=7 then [8,8,8,8,8,6,8,8] else []) (by kernel_rfl) ?_
 by_cases hil:i < n
 ·have hil':(i:Int) < n:=by omega
  have hg:=getD_fV (l:=mkFs n k) (i:=i) (by rw [hml]; exact hil)
  rw [show (mkFs n k).getD i fd0=mkF (k+3 * i) from mkFs_get n k i hil,←hK0] at hg
  obtain ⟨K1,hK1⟩:∃n:Nat,n=K0+1:=⟨_,rfl⟩
  obtain ⟨K2,hK2⟩:∃n:Nat,n=K1+1:=⟨_,rfl⟩
  obtain ⟨K3,hK3⟩:∃n:Nat,n=K2+1:=⟨_,rfl⟩
  have hg:((mkFs n k).map fV).getD i .junk=V.agg [V.str (mtext K0),V.str (mtext K1),V.bool (decide (K2 % 3=0))]:=by
   rw [hg]
   subst hK2 hK1
   rfl
  have e0:(K0:Int)+1=(K1:Int):=by omega
  have x0:=fun T=>markText_ok K0 (by omega) T
  generalize hm0:mtext K0=m0 at *
  have e1:(K1:Int)+1=(K2:Int):=by omega
  have x1:=fun T=>markText_ok K1 (by omega) T
  generalize hm1:mtext K1=m1 at *
  have e2:(K2:Int)+1=(K3:Int):=by omega
  have d2:=dec3 K2
  generalize hb2:decide (K2 % 3=0)=bb2 at *
  simp -implicitDefEqProofs (maxSteps:=1000000) (disch:=omega) only [push_cast,simprocAttr,h0,h1,h5,hil',hg,hml,e0,e1,e2,d2,↓gd]
  repeat refine And.intro (by omega) ?_
  refine ((x0 _).as (by rfl)).to ?_
  simp -implicitDefEqProofs (maxSteps:=1000000) (disch:=omega) only [push_cast,simprocAttr,h0,h1,h5,hil',hg,hml,e0,e1,e2,d2,↓gd]
  repeat refine And.intro (by omega) ?_
  refine ((x1 _).as (by rfl)).to ?_
  simp -implicitDefEqProofs (maxSteps:=1000000) (disch:=omega) only [push_cast,simprocAttr,h0,h1,h5,hil',hg,hml,e0,e1,e2,d2,↓gd]
  repeat refine And.intro (by omega) ?_
  exact ⟨n - (i+1),by omega,i+1,K3,rfl,by omega,by omega,by simp,by simp⟩
 ·have:i=n:=by omega
  subst this
  have hil':¬((i:Nat):Int) < i:=by omega
  simp -implicitDefEqProofs (maxSteps:=1000000) (disch:=omega) only [push_cast,simprocAttr,h0,h1,h5,hil',hml,↓gd]
  exact fin0 (by rw [hK0]; rfl)
theorem heldFrameS_ok (n k:Nat) (hn:n≤2000000) (hk:k+4 * n≤90000000) (S:List Blk):VCall Tryz.prog 54 [.rows none ((mkFrs n k).map frV),.int .i64 k] S fun r S'=>r=.int .i64 ((k+4 * n:Nat):Int)∧S'=S:=by
 have hml:=mkFrs_len n k
 refine VCall.ex hD (fun _=>false) (fun id=>if id=13 then [8,8,8,8,8,6,8,8] else []) Tryz.func54 Tryz.ntmps54 Tryz.results54 ?_
 simp -implicitDefEqProofs (maxSteps:=1000000) (disch:=omega) only [push_cast,simprocAttr,↓gd]
 refine wpV_loop (fun m t S'=>∃i K:Nat,m=n - i∧i≤n∧K=k+4 * i∧t 0=.rows none ((mkFrs n k).map frV)∧t 1=.int .i64 (K:Int)∧t 5=.int .i64 i∧S'=S) n ⟨0,k,by omega,by omega,by omega,rfl,rfl,rfl,rfl⟩ ?_
 rintro m t S' ⟨i,K0,rfl,hi,hK0,h0,h1,h5,rfl⟩
 refine wpV_of hD (fun _=>false) (fun id=>if id=13 then [8,8,8,8,8,6,8,8] else []) (by kernel_rfl) ?_
 by_cases hil:i < n
 ·have hil':(i:Int) < n:=by omega
  have hg:=getD_frV (l:=mkFrs n k) (i:=i) (by rw [hml]; exact hil)
  rw [show (mkFrs n k).getD i fr0=mkFr (k+4 * i) from mkFrs_get n k i hil,←hK0] at hg
  obtain ⟨K1,hK1⟩:∃n:Nat,n=K0+1:=⟨_,rfl⟩
  obtain ⟨K2,hK2⟩:∃n:Nat,n=K1+1:=⟨_,rfl⟩
  obtain ⟨K3,hK3⟩:∃n:Nat,n=K2+1:=⟨_,rfl⟩
  obtain ⟨K4,hK4⟩:∃n:Nat,n=K3+1:=⟨_,rfl⟩
  have hg:((mkFrs n k).map frV).getD i .junk=V.agg [V.int .i64 (K0:Int),V.bool (decide (K1 % 3=0)),V.int .i64 (K2:Int),V.str (mtext K3)]:=by
   rw [hg]
   subst hK3 hK2 hK1
   rfl
  have e0:(K0:Int)+1=(K1:Int):=by omega
  have e1:(K1:Int)+1=(K2:Int):=by omega
  have d1:=dec3 K1
  generalize hb1:decide (K1 % 3=0)=bb1 at *
  have e2:(K2:Int)+1=(K3:Int):=by omega
  have e3:(K3:Int)+1=(K4:Int):=by omega
  have x3:=fun T=>markText_ok K3 (by omega) T
  generalize hm3:mtext K3=m3 at *
  simp -implicitDefEqProofs (maxSteps:=1000000) (disch:=omega) only [push_cast,simprocAttr,h0,h1,h5,hil',hg,hml,e0,e1,d1,e2,e3,↓gd]
  repeat refine And.intro (by omega) ?_
  refine ((x3 _).as (by rfl)).to ?_
  simp -implicitDefEqProofs (maxSteps:=1000000) (disch:=omega) only [push_cast,simprocAttr,h0,h1,h5,hil',hg,hml,e0,e1,d1,e2,e3,↓gd]
  repeat refine And.intro (by omega) ?_
  exact ⟨n - (i+1),by omega,i+1,K4,rfl,by omega,by omega,by simp,by simp⟩
 ·have:i=n:=by omega
  subst this
  have hil':¬((i:Nat):Int) < i:=by omega
  simp -implicitDefEqProofs (maxSteps:=1000000) (disch:=omega) only [push_cast,simprocAttr,h0,h1,h5,hil',hml,↓gd]
  exact fin0 (by rw [hK0]; rfl)
theorem heldStreamS_ok (l:List St) (k:Nat) (hn:l.length≤2000000) (hB:∀s ∈ l,s.head.length≤2000000∧s.got.length≤2000000) (hk:k+cntSs l≤90000000) (S:List Blk):VCall Tryz.prog 53 [.rows none ((mkSs l k).map stV),.int .i64 k] S fun r S'=>r=.int .i64 ((k+cntSs l:Nat):Int)∧S'=S:=by
 have hml:=mkSs_len l k
 refine VCall.ex hD (fun _=>false) (fun id=>if id=13 then [8,8,8,8,8,6,8,8] else if id=28 then [8,8,8,8,8,6,8,8] else []) Tryz.func53 Tryz.ntmps53 Tryz.results53 ?_
 simp -implicitDefEqProofs (maxSteps:=1000000) (disch:=omega) only [push_cast,simprocAttr,↓gd]
 refine wpV_loop (fun m t S'=>∃i K:Nat,m=l.length - i∧i≤l.length∧K=k+cntSs (l.take i)∧t 0=.rows none ((mkSs l k).map stV)∧t 1=.int .i64 (K:Int)∧t 5=.int .i64 i∧S'=S) l.length ⟨0,k,by omega,by omega,by simp [cntSs],rfl,rfl,rfl,rfl⟩ ?_
 rintro m t S' ⟨i,K0,rfl,hi,hK0,h0,h1,h5,rfl⟩
 refine wpV_of hD (fun _=>false) (fun id=>if id=13 then [8,8,8,8,8,6,8,8] else if id=28 then [8,8,8,8,8,6,8,8] else []) (by kernel_rfl) ?_
 by_cases hil:i < l.length
 ·have hil':(i:Int) < l.length:=by omega
  have hg:=getD_stV (l:=mkSs l k) (i:=i) (by rw [hml]; exact hil)
  rw [mkSs_get l k i hil,←hK0] at hg
  have hcn:=cntSs_snoc hil
  have hcp:cntSs (l.take (i+1))≤cntSs l:=by
   have:=cntSs_app (l.take (i+1)) (l.drop (i+1))
   rw [List.take_append_drop] at this
   omega
  obtain ⟨hB1,hB2⟩:=hB _ (mem_getD st0 hil)
  generalize l.getD i st0=s at *
  have hcs:cntS s=10+3 * s.head.length+3 * s.got.length:=rfl
  obtain ⟨K1,hK1⟩:∃n:Nat,n=K0+1:=⟨_,rfl⟩
  obtain ⟨K2,hK2⟩:∃n:Nat,n=K1+1:=⟨_,rfl⟩
  obtain ⟨K3,hK3⟩:∃n:Nat,n=K2+3 * s.head.length:=⟨_,rfl⟩
  obtain ⟨K4,hK4⟩:∃n:Nat,n=K3+1:=⟨_,rfl⟩
  obtain ⟨K5,hK5⟩:∃n:Nat,n=K4+1:=⟨_,rfl⟩
  obtain ⟨K6,hK6⟩:∃n:Nat,n=K5+1:=⟨_,rfl⟩
  obtain ⟨K7,hK7⟩:∃n:Nat,n=K6+1:=⟨_,rfl⟩
  obtain ⟨K8,hK8⟩:∃n:Nat,n=K7+3 * s.got.length:=⟨_,rfl⟩
  obtain ⟨K9,hK9⟩:∃n:Nat,n=K8+1:=⟨_,rfl⟩
  obtain ⟨K10,hK10⟩:∃n:Nat,n=K9+1:=⟨_,rfl⟩
  obtain ⟨K11,hK11⟩:∃n:Nat,n=K10+1:=⟨_,rfl⟩
  obtain ⟨K12,hK12⟩:∃n:Nat,n=K11+1:=⟨_,rfl⟩
  have r1:K0+1=K1:=by omega
  have r2:K0+2=K2:=by omega
  have r3:K0+2+3 * s.head.length=K3:=by omega
  have r4:K0+3+3 * s.head.length=K4:=by omega
  have r5:K0+4+3 * s.head.length=K5:=by omega
  have r6:K0+5+3 * s.head.length=K6:=by omega
  have r7:K0+6+3 * s.head.length=K7:=by omega
  have r8:K0+6+3 * s.head.length+3 * s.got.length=K8:=by omega
  have r9:K0+7+3 * s.head.length+3 * s.got.length=K9:=by omega
  have r10:K0+8+3 * s.head.length+3 * s.got.length=K10:=by omega
  have r11:K0+9+3 * s.head.length+3 * s.got.length=K11:=by omega
  have hg:((mkSs l k).map stV).getD i .junk=V.agg [V.int .i64 (K0:Int),V.int .i64 (K1:Int),V.rows none ((mkFs s.head.length K2).map fV),V.str (mtext K3),V.bool (decide (K4 % 3=0)),V.bool (decide (K5 % 3=0)),V.int .i64 (K6:Int),V.rows none ((mkFs s.got.length K7).map fV),V.str (mtext K8),V.bool (decide (K9 % 3=0)),V.int .i64 (K10:Int),V.int .i64 (K11:Int)]:=by
   rw [hg]
   simp only [stV_eq,mkS,r1,r2,r3,r4,r5,r6,r7,r8,r9,r10,r11,hK3.symm,hK8.symm]
  have f2:=fun T=>heldFieldS_ok s.head.length K2 hB1 (by omega) T
  have f7:=fun T=>heldFieldS_ok s.got.length K7 hB2 (by omega) T
  rw [←hK3] at f2
  rw [←hK8] at f7
  have e0:(K0:Int)+1=(K1:Int):=by omega
  have e1:(K1:Int)+1=(K2:Int):=by omega
  have e3:(K3:Int)+1=(K4:Int):=by omega
  have x3:=fun T=>markText_ok K3 (by omega) T
  generalize hm3:mtext K3=m3 at *
  have e4:(K4:Int)+1=(K5:Int):=by omega
  have d4:=dec3 K4
  generalize hb4:decide (K4 % 3=0)=bb4 at *
  have e5:(K5:Int)+1=(K6:Int):=by omega
  have d5:=dec3 K5
  generalize hb5:decide (K5 % 3=0)=bb5 at *
  have e6:(K6:Int)+1=(K7:Int):=by omega
  have e8:(K8:Int)+1=(K9:Int):=by omega
  have x8:=fun T=>markText_ok K8 (by omega) T
  generalize hm8:mtext K8=m8 at *
  have e9:(K9:Int)+1=(K10:Int):=by omega
  have d9:=dec3 K9
  generalize hb9:decide (K9 % 3=0)=bb9 at *
  have e10:(K10:Int)+1=(K11:Int):=by omega
  have e11:(K11:Int)+1=(K12:Int):=by omega
  have p3:¬(K3:Int) < 0:=by omega
  have p8:¬(K8:Int) < 0:=by omega
  simp -implicitDefEqProofs (maxSteps:=1000000) (disch:=omega) only [push_cast,simprocAttr,h0,h1,h5,hil',hg,hml,p3,p8,e0,e1,e3,e4,d4,e5,d5,e6,e8,e9,d9,e10,e11,↓gd]
  repeat refine And.intro (by omega) ?_
  refine ((f2 _).as (by rfl)).to ?_
  simp -implicitDefEqProofs (maxSteps:=1000000) (disch:=omega) only [push_cast,simprocAttr,h0,h1,h5,hil',hg,hml,p3,p8,e0,e1,e3,e4,d4,e5,d5,e6,e8,e9,d9,e10,e11,↓gd]
  repeat refine And.intro (by omega) ?_
  refine ((x3 _).as (by rfl)).to ?_
  simp -implicitDefEqProofs (maxSteps:=1000000) (disch:=omega) only [push_cast,simprocAttr,h0,h1,h5,hil',hg,hml,p3,p8,e0,e1,e3,e4,d4,e5,d5,e6,e8,e9,d9,e10,e11,↓gd]
  repeat refine And.intro (by omega) ?_
  refine ((f7 _).as (by rfl)).to ?_
  simp -implicitDefEqProofs (maxSteps:=1000000) (disch:=omega) only [push_cast,simprocAttr,h0,h1,h5,hil',hg,hml,p3,p8,e0,e1,e3,e4,d4,e5,d5,e6,e8,e9,d9,e10,e11,↓gd]
  repeat refine And.intro (by omega) ?_
  refine ((x8 _).as (by rfl)).to ?_
  simp -implicitDefEqProofs (maxSteps:=1000000) (disch:=omega) only [push_cast,simprocAttr,h0,h1,h5,hil',hg,hml,p3,p8,e0,e1,e3,e4,d4,e5,d5,e6,e8,e9,d9,e10,e11,↓gd]
  repeat refine And.intro (by omega) ?_
  exact ⟨l.length - (i+1),by omega,i+1,K12,rfl,by omega,by omega,by simp,by simp⟩
 ·have:i=l.length:=by omega
  subst this
  have hil':¬((l.length:Nat):Int) < l.length:=by omega
  rw [List.take_length] at hK0
  simp -implicitDefEqProofs (maxSteps:=1000000) (disch:=omega) only [push_cast,simprocAttr,h0,h1,h5,hil',hml,↓gd]
  exact fin0 (by rw [hK0]; rfl)
theorem heldTable_ok (n:Nat) (max:Int) (k:Nat) (hn:n≤2000000) (hk:k+3 * n≤90000000) (S:List Blk):VCall Tryz.prog 52 [tV (mkFs n k) max,.int .i64 k] S fun r S'=>r=.int .i64 ((k+3 * n:Nat):Int)∧S'=S:=by
 have hh:=fun T=>heldFieldS_ok n k hn hk T
 generalize k+3 * n=K at *
 refine VCall.en hD Tryz.func52 Tryz.ntmps52 Tryz.results52 ?_
 simp -implicitDefEqProofs (maxSteps:=1000000) (disch:=omega) only [push_cast,simprocAttr,↓gd]
 refine ((hh _).as (by rfl)).to ?_
 have hK:¬(K:Int) < 0:=by omega
 simp -implicitDefEqProofs (maxSteps:=1000000) (disch:=omega) only [push_cast,simprocAttr,hK,↓gd]
 exact fin1 (.int _ _) rfl
theorem heldEnd_ok (e:En) (hB:EnB e) (k:Nat) (hk:k+cntE e≤90000000) (S:List Blk):VCall Tryz.prog 13 [erV (markE e k),.int .i64 k] S fun r S'=>r=.int .i64 ((k+cntE e:Nat):Int)∧S'=S:=by
 have hel:=hB.len
 have hwl:=hB.wait
 have hol:=hB.out.1
 have hnl:=hB.inn.1
 have hce:cntE e=3 * e.out.length+3 * e.inn.length+cntSs e.strs+4 * e.wait.length:=rfl
 obtain ⟨K1,hK1⟩:∃n,k+3 * e.out.length=n:=⟨_,rfl⟩
 obtain ⟨K2,hK2⟩:∃n,K1+3 * e.inn.length=n:=⟨_,rfl⟩
 obtain ⟨K3,hK3⟩:∃n,K2+cntSs e.strs=n:=⟨_,rfl⟩
 obtain ⟨K4,hK4⟩:∃n,K3+4 * e.wait.length=n:=⟨_,rfl⟩
 have m1:=fun T=>heldTable_ok e.out.length e.outM k hol (by omega) T
 have m2:=fun T=>heldTable_ok e.inn.length e.innM K1 hnl (by omega) T
 have m3:=fun T=>heldStreamS_ok e.strs K2 (by omega) (fun s hs=>⟨(hB.sts s hs).head.1,(hB.sts s hs).got.1⟩) (by omega) T
 have m4:=fun T=>heldFrameS_ok e.wait.length K3 (by omega) (by omega) T
 rw [hK1] at m1
 rw [hK2] at m2
 rw [hK3] at m3
 rw [hK4] at m4
 have hmk:markE e k={ e with out:=mkFs e.out.length k,inn:=mkFs e.inn.length K1,strs:=mkSs e.strs K2,wait:=mkFrs e.wait.length K3 }:=by
  simp only [markE,hK1,hK2,hK3]
 rw [hmk]
 have p1:¬(K1:Int) < 0:=by omega
 have p2:¬(K2:Int) < 0:=by omega
 have p3:¬(K3:Int) < 0:=by omega
 have p4:¬(K4:Int) < 0:=by omega
 refine VCall.en hD Tryz.func13 Tryz.ntmps13 Tryz.results13 ?_
 simp -implicitDefEqProofs (maxSteps:=1000000) (disch:=omega) only [push_cast,simprocAttr,↓gd]
 refine ((m1 _).as (by rfl)).to ?_
 simp -implicitDefEqProofs (maxSteps:=1000000) (disch:=omega) only [push_cast,simprocAttr,p1,↓gd]
 refine ((m2 _).as (by rfl)).to ?_
 simp -implicitDefEqProofs (maxSteps:=1000000) (disch:=omega) only [push_cast,simprocAttr,p2,↓gd]
 refine ((m3 _).as (by rfl)).to ?_
 simp -implicitDefEqProofs (maxSteps:=1000000) (disch:=omega) only [push_cast,simprocAttr,p3,↓gd]
 refine ((m4 _).as (by rfl)).to ?_
 simp -implicitDefEqProofs (maxSteps:=1000000) (disch:=omega) only [push_cast,simprocAttr,p4,↓gd]
 exact fin1 (.int _ _) (by congr 1; omega)
end
section
def more0:List Fr→Nat
 | []=>0
 | f :: l=>(if f.kind=8∧f.stream=0 then byteAt f.body 0 else 0)+more0 l
theorem more0_app:∀l k:List Fr,more0 (l++k)=more0 l+more0 k
 | [],k=>by simp [more0]
 | f :: l,k=>by simp only [List.cons_append,more0,more0_app l k]; omega
def gone:List St→Nat
 | []=>0
 | s :: l=>(if s.state=3 then 1 else 0)+gone l
theorem gone_app:∀l k:List St,gone (l++k)=gone l+gone k
 | [],k=>by simp [gone]
 | f :: l,k=>by simp only [List.cons_append,gone,gone_app l k]; omega
theorem gone_set:∀(l:List St) (k:Nat) (s:St),((l.getD k st0).state=3→s.state=3)→gone l≤gone (l.set k s)
 | [],k,s,_=>by simp
 | a :: l,0,s,hs=>by
  have h:a.state=3→s.state=3:=hs
  simp only [List.set_cons_zero,gone]
  by_cases q:a.state=3
  ·rw [if_pos q,if_pos (h q)]; exact Nat.le_refl _
  ·rw [if_neg q]; split <;> omega
 | a :: l,k+1,s,hs=>by
  have:=gone_set l k s (by simpa using hs)
  simp only [List.set_cons_succ,gone]; omega
theorem gone_more:∀(l:List St) (k:Nat) (s:St),k < l.length→(l.getD k st0).state≠3→s.state=3→gone (l.set k s)=gone l+1
 | [],k,s,h,_,_=>by simp at h
 | a :: l,0,s,_,hs,h3=>by
  have h:a.state≠3:=hs
  simp only [List.set_cons_zero,gone,if_neg h,if_pos h3]; omega
 | a :: l,k+1,s,h,hs,h3=>by
  have:=gone_more l k s (by simpa using h) (by simpa using hs) h3
  simp only [List.set_cons_succ,gone]; omega
theorem roomM_room (e:En) (f:Fr) (h:e.room+more0 [f]≤31):(roomM e f).room=e.room+more0 [f]∧(roomM e f).strs.length=e.strs.length∧gone e.strs≤gone (roomM e f).strs:=by
 unfold roomM
 split
 ·rename_i h8
  refine ⟨?_,rfl,Nat.le_refl _⟩
  simp [more0,h8]
 ·rename_i h8
  have h8:f.kind=8:=by simpa using h8
  split
  ·rename_i h0
   refine ⟨?_,rfl,Nat.le_refl _⟩
   simp only [more0,h8,h0,and_self,if_true,Nat.add_zero] at h ⊢
   omega
  ·rename_i h0
   have e0:more0 [f]=0:=by simp [more0,h0]
   rw [e0]
   split
   ·exact ⟨by simp,rfl,Nat.le_refl _⟩
   ·rename_i k hk
    exact ⟨by simp [setSt],by simp [setSt],gone_set _ _ _ (fun q=>q)⟩
theorem waitM_room:∀(l:List Fr) (e:En),e.room+more0 l≤31→(waitM e l).1.room=e.room+more0 l∧(waitM e l).1.strs.length=e.strs.length∧gone e.strs≤gone (waitM e l).1.strs
 | [],e,h=>⟨by simp [waitM,more0],rfl,Nat.le_refl _⟩
 | f :: l,e,h=>by
  have hm:more0 (f :: l)=more0 [f]+more0 l:=by simp [more0]
  obtain ⟨a1,a2,a3⟩:=roomM_room e f (by omega)
  obtain ⟨b1,b2,b3⟩:=waitM_room l (roomM e f) (by omega)
  exact ⟨by show (waitM (roomM e f) l).1.room=_; omega,b2.trans a2,Nat.le_trans a3 b3⟩
theorem doneM_state (ans:Bool) (s:St) (h:s.state=3):(doneM ans s).state=3:=by unfold doneM; rw [if_pos (by rw [h]; decide)]; exact h
end
end Go.Proofs.YtldogccmhncnoaaGreatDoor
