/- A part of the proof: contracts of functions, or plain facts on which these lean. -/
import Derived.Test.YtdplmibomopkcaaGreatDoorPa40
import Derived.Test.YtdplmibomopkcaaGreatDoorPa41
namespace Go.Proofs.YtdplmibomopkcaaGreatDoor
open Go
set_option linter.unusedVariables false
set_option linter.unusedSimpArgs false
set_option maxRecDepth 100000
set_option maxHeartbeats 16000000

section
open Go
theorem endCallM_b {e:En} (he:EnB e) (p t:List UInt8):EnB (endCallM e p t).1:=by
 rw [endCallM]
 split
 ·exact en0_bE
 ·rename_i h
  have hE:endOk e=true:=by cases q:endOk e <;> simp_all
  exact (callM_w (endOk_w hE) p t).b (by decide)
structure CallF (e:En) (path text:List UInt8) (id:Int) (e':En) (y:En) (o:List UInt8) (f g:Fr) (n:Nat):Prop where
 w:endWriteM e=(e',(endWriteM e).2)
 eok:EnB e'
 call:∃x2,endCallM e' path text=(x2,id,true)∧EnB x2∧endWriteM x2=(y,o)
 nmin:(n:Int)=min (text.length:Int) (min 8 e'.send)
 f1:f.kind=1∧f.stream=id∧f.last=decide (text=[])
 fok:frameOk f=true
 gok:n≠0→frameOk g=true
 g1:g.kind=0∧g.body=text.take n
 bytes:o=bytes (if n=0 then [f] else [f,g])
 send:y.send=e'.send - n
 short:text.length≤16∧0≤e'.send∧e'.send≤31
theorem call_facts {e:En} (hE:endOk e=true) (hB:EnB e) (hb:e.bad=false) (path text:List UInt8) (hok:(endCallM e path text).2.2=true) :
  ∃e' y o f g n,CallF e path text (endCallM e path text).2.1 e' y o f g n:=by
 have hW:=endOk_iff.1 hE
 have h1:endWriteM e=writeM e:=by rw [endWriteM,if_neg (by rw [hE]; simp),if_neg (by rw [hb]; simp)]
 have hc0:endCallM e path text=callM e path text:=by rw [endCallM,if_neg (by rw [hE]; simp)]
 rw [hc0] at hok ⊢
 have hcond:¬(e.ans=true∨2 * (e.strs.length:Int)+1 > 7∨headOk (callHead path text)=false∨wordOk text=false):=fun z=>by
  unfold callM at hok; rw [if_pos z] at hok; cases hok
 have ha:e.ans=false:=by cases q:e.ans; rfl; exact absurd (.inl q) hcond
 have hho:headOk (callHead path text)=true:=by cases q:headOk (callHead path text); exact absurd (.inr (.inr (.inl q))) hcond; rfl
 have hto:wordOk text=true:=by cases q:wordOk text; exact absurd (.inr (.inr (.inr q))) hcond; rfl
 have hid:(callM e path text).2.1=2 * (e.strs.length:Int)+1:=by unfold callM; rw [if_neg hcond]
 obtain ⟨c1,c2,y,c3,c4⟩:=call_said hW ha hb path text hok
 have hW':=(writeM_w hW).mono (show 0≤60 by decide)
 have hb':(writeM e).1.bad=false:=by rw [writeM_badE,hb]
 have hfl:=flowOk_iff.1 hW'.flow
 have hx2w:=callM_w hW' path text
 have hx2b:(callM (writeM e).1 path text).1.bad=false:=by
  unfold callM
  split
  ·exact hb'
  ·exact hb'
 have hhl:(headW (writeM e).1.out (writeM e).1.outM (callHead path text)).2.length≤200:=by
  have h2:(callHead path text).length=3:=rfl
  have:=headW_len (callHead path text) (writeM e).1.out (writeM e).1.outM (headOk_iff.1 hho).1 (by have:=(tableOk_parts hW'.out).1; omega)
  omega
 have hlt:=(wordOk_iff.1 hto).2
 have hstrm:strmOk (2 * (e.strs.length:Int)+1)=true:=by
  have:¬2 * (e.strs.length:Int)+1 > 7:=fun z=>hcond (.inr (.inl z))
  simp only [strmOk,Bool.and_eq_true,decide_eq_true_eq]
  refine ⟨⟨by omega,by omega⟩,?_⟩
  rw [Int.tmod_eq_emod_of_nonneg (by omega)]
  omega
 refine ⟨(writeM e).1,y,(writeM (callM (writeM e).1 path text).1).2,⟨1,decide (text=[]),(callM e path text).2.1,(headW (writeM e).1.out (writeM e).1.outM (callHead path text)).2⟩,⟨0,decide (wordsN (writeM e).1 text=text.length),(callM e path text).2.1,text.take (wordsN (writeM e).1 text)⟩,wordsN (writeM e).1 text,?_⟩
 refine ⟨by rw [h1],hW'.b (by decide),⟨(callM (writeM e).1 path text).1,?_,hx2w.b (by decide),?_⟩,?_,⟨rfl,rfl,rfl⟩,?_,fun _=>?_,⟨rfl,rfl⟩,?_,c4,by omega,by omega,by omega⟩
 ·rw [endCallM,if_neg (by rw [endOk_iff.2 hW']; simp),←c2]
  exact Prod.ext rfl (Prod.ext rfl c1)
 ·rw [endWriteM,if_neg (by rw [endOk_iff.2 hx2w]; simp),if_neg (by rw [hx2b]; simp),c3]
 ·unfold wordsN; omega
 ·rw [hid]; simp [frameOk,hstrm]; omega
 ·rw [hid]; simp [frameOk,hstrm]; omega
 ·rw [c3]
  split
  ·rename_i h9; simp [bytes,h9]
  ·rename_i h9; simp [bytes,h9]
theorem FnCallSaid_ok (code:List UInt8) (S:List Blk):VCall Tryz.prog 3 [.rows none (code.map u8V)] S fun r S'=>r=.bool true:=by
 refine VCall.ex hDe (fun _=>false) (fun id=>if id=18 then [35,35,35,35,35,35,35,35,35,35,35,35,35,35,35,35,35,35,35,35,35,35,35,35,35,35,35,35,35,35,35,35,35,35,35] else []) Tryz.func3 Tryz.ntmps3 Tryz.results3 ?_
 by_cases hc:(code.length:Int) > 1048576
 ·simp -implicitDefEqProofs (maxSteps:=1000000) (disch:=omega) only [push_cast,simprocAttr,hc,↓gd]
  exact ⟨_,_,Wk.refl _ _ _,rfl⟩
 simp -implicitDefEqProofs (maxSteps:=1000000) (disch:=omega) only [push_cast,simprocAttr,hc,↓gd]
 refine (DrawEndCall_ok code (by omega) _).mono ?_
 rintro r S1 ⟨e,path,text,b,c,⟨wire,hw⟩,hpl,htl,rfl,q1⟩
 have hB:=hw.b.1
 have hspec:=fun (Z:List Blk) (q:EnAt Z b c e)=>sEndCall_ok hB path text (by omega) (by omega) q
 have hEC:=fun (Z:List Blk) (q:EnAt Z b c e)=>EndCall_ok hB path text (by omega) (by omega) q
 have hXB:EnB (endCallM e path text).1:=endCallM_b hB path text
 have hz:(endCallM e path text).2.2=true→endOk e=true:=fun z=>by
  cases q:endOk e with
  | true=>rfl
  | false=>rw [endCallM,if_pos q] at z; cases z
 have hfacts:=fun h1 h2=>call_facts h1 hB h2 path text
 generalize endCallM e path text=X at *
 obtain ⟨x,id,ok⟩:=X
 simp only at hspec hEC hXB hfacts hz
 simp -implicitDefEqProofs (maxSteps:=1000000) (disch:=omega) only [push_cast,simprocAttr,↓gd]
 refine ((hspec _ (q1.at_.app _)).as (by simp [eV,enV,enC])).mono ?_
 rintro r S2 ⟨_,rfl,b2,c2,rfl,q2⟩
 have k3:S2[S1.length]?=some (.cells 0 (enC (.heap b e.strs.length) (.heap c e.wait.length) e)):=q2.upd.get (by simp -implicitDefEqProofs (maxSteps:=1000000) (disch:=omega) only [push_cast,simprocAttr,↓gd]) (by simp)
 have hat2:=(q1.at_.app [(.cells 0 (enC (.heap b e.strs.length) (.heap c e.wait.length) e))]).upd q2.upd (by simp) (by simp)
 have l3:=lt_of_some k3
 simp -implicitDefEqProofs (maxSteps:=1000000) (disch:=omega) only [push_cast,simprocAttr,k3,↓gd]
 refine ((hEC _ (hat2.app _)).as (by simp [eV,enV,enC])).mono ?_
 rintro r S3 ⟨_,rfl,b3,c3,rfl,q3⟩
 have k3':=q3.upd.get (j:=S1.length) (B:=(.cells 0 (enC (.heap b e.strs.length) (.heap c e.wait.length) e))) (by simp -implicitDefEqProofs (maxSteps:=1000000) (disch:=omega) only [push_cast,simprocAttr,k3,↓gd]) (by simp)
 have k4':=q3.upd.get (j:=S2.length) (B:=(.cells 0 (enC (.heap b2 x.strs.length) (.heap c2 x.wait.length) x))) (by simp -implicitDefEqProofs (maxSteps:=1000000) (disch:=omega) only [push_cast,simprocAttr,↓gd]) (by simp)
 have hat3:=(hat2.app [(.cells 0 (enC (.heap b2 x.strs.length) (.heap c2 x.wait.length) x))]).upd q3.upd (by simp) (by simp)
 have hs3:=(q2.at_.app [(.cells 0 (enC (.heap b2 x.strs.length) (.heap c2 x.wait.length) x))]).upd q3.upd (by simp) (by simp)
 have hx3:=q3.at_
 have l3':=lt_of_some k3'
 have l4':=lt_of_some k4'
 simp -implicitDefEqProofs (maxSteps:=1000000) (disch:=omega) only [push_cast,simprocAttr,k3',k4',↓gd]
 refine ((lkEnd_self hXB (hx3.app _) (hs3.app _)).as (by simp [eV,enV,enC])).to ?_
 cases hok:ok
 ·simp -implicitDefEqProofs (maxSteps:=1000000) (disch:=omega) only [push_cast,simprocAttr,k3',k4',↓gd]
  refine ((lkEnd_self hXB (hx3.app _) (hs3.app _)).as (by simp [eV,enV,enC])).to ?_
  simp -implicitDefEqProofs (maxSteps:=1000000) (disch:=omega) only [push_cast,simprocAttr,↓gd]
  exact ⟨_,_,Wk.refl _ _ _,rfl⟩
 cases hbd:e.bad
 rotate_left
 ·simp -implicitDefEqProofs (maxSteps:=1000000) (disch:=omega) only [push_cast,simprocAttr,k3',k4',hbd,↓gd]
  refine ((lkEnd_self hXB (hx3.app _) (hs3.app _)).as (by simp [eV,enV,enC])).to ?_
  simp -implicitDefEqProofs (maxSteps:=1000000) (disch:=omega) only [push_cast,simprocAttr,↓gd]
  exact ⟨_,_,Wk.refl _ _ _,rfl⟩
 obtain ⟨e',y,o,f,g,n,hF⟩:=hfacts (hz hok) hbd hok
 obtain ⟨x2,hc2,hx2B,hw2⟩:=hF.call
 have hEW:=fun (Z:List Blk) (q:EnAt Z b c e)=>EndWrite_ok hB q
 rw [hF.w] at hEW
 generalize (endWriteM e).2=o1 at *
 simp only at hEW
 have hEC2:=fun (Z:List Blk) (b c:Nat) (q:EnAt Z b c e')=>EndCall_ok hF.eok path text (by omega) (by omega) q
 rw [hc2] at hEC2
 have hEW2:=fun (Z:List Blk) (b c:Nat) (q:EnAt Z b c x2)=>EndWrite_ok hx2B q
 rw [hw2] at hEW2
 simp only at hEC2 hEW2
 simp -implicitDefEqProofs (maxSteps:=1000000) (disch:=omega) only [push_cast,simprocAttr,k3',hbd,↓gd]
 refine ((hEW _ (hat3.app _)).as (by simp [eV,enV,enC,hbd])).mono ?_
 rintro r S4 ⟨_,rfl,b4,c4,rfl,q4⟩
 have m3:=q4.upd.get (j:=S1.length) (B:=(.cells 0 (enC (.heap b e.strs.length) (.heap c e.wait.length) e))) (by simp -implicitDefEqProofs (maxSteps:=1000000) (disch:=omega) only [push_cast,simprocAttr,k3',↓gd]) (by simp)
 have m9:=q4.upd.get (j:=S3.length) (B:=(.cells 0 (enC (.heap b3 x.strs.length) (.heap c3 x.wait.length) x))) (by simp -implicitDefEqProofs (maxSteps:=1000000) (disch:=omega) only [push_cast,simprocAttr,↓gd]) (by simp)
 have l3:=lt_of_some m3
 have l9:=lt_of_some m9
 have n1:=cells_ne q4.at_.1 m3 (by decide)
 have n2:=cells_ne q4.at_.2 m3 (by decide)
 simp -implicitDefEqProofs (maxSteps:=1000000) (disch:=omega) only [push_cast,simprocAttr,m3,↓gd]
 refine ((hEC2 _ b4 c4 (q4.at_.set _ n1 n2)).as (by simp [eV,enV,enC])).mono ?_
 rintro r S5 ⟨_,rfl,b5,c5,rfl,q5⟩
 have p3:=q5.upd.get (j:=S1.length) (B:=.cells 0 (enC (.heap b4 e'.strs.length) (.heap c4 e'.wait.length) e')) (by simp -implicitDefEqProofs (maxSteps:=1000000) (disch:=omega) only [push_cast,simprocAttr,m3,↓gd]) (by simp)
 have p9:=q5.upd.get (j:=S3.length) (B:=(.cells 0 (enC (.heap b3 x.strs.length) (.heap c3 x.wait.length) x))) (by simp -implicitDefEqProofs (maxSteps:=1000000) (disch:=omega) only [push_cast,simprocAttr,m9,↓gd]) (by simp)
 have lp3:=lt_of_some p3
 have lp9:=lt_of_some p9
 have o1':=cells_ne q5.at_.1 p9 (by decide)
 have o2':=cells_ne q5.at_.2 p9 (by decide)
 simp -implicitDefEqProofs (maxSteps:=1000000) (disch:=omega) only [push_cast,simprocAttr,p9,↓gd]
 refine ((hEW2 _ b5 c5 (q5.at_.set _ o1' o2')).as (by simp [eV,enV,enC])).mono ?_
 rintro r S6 ⟨_,rfl,b6,c6,rfl,q6⟩
 have r3:=q6.upd.get (j:=S1.length) (B:=.cells 0 (enC (.heap b4 e'.strs.length) (.heap c4 e'.wait.length) e')) (by simp -implicitDefEqProofs (maxSteps:=1000000) (disch:=omega) only [push_cast,simprocAttr,p3,↓gd]) (by simp)
 have lr3:=lt_of_some r3
 have hob:=hF.bytes
 have hsn:=hF.send
 obtain ⟨hs1,hs2,hs3⟩:=hF.short
 have hnm:=hF.nmin
 obtain ⟨f1,f2,f3⟩:=hF.f1
 have hol:o.length≤1000000:=by
  rw [hob]
  have h1:=(frameOk_nat hF.fok).2.2
  by_cases h0:n=0
  ·rw [if_pos h0]; simp [bytes,frW]; omega
  ·have h2:=(frameOk_nat (hF.gok h0)).2.2
   rw [if_neg h0]; simp [bytes,frW]; omega
 have hFR:=fun T=>FrameRead_ok o hol T
 have hdec:decide (text=[])=decide (text=([]:List UInt8)):=rfl
 by_cases h0:n=0
 ·rw [if_pos h0] at hob
  obtain ⟨g1,g2⟩:=frR_first (f:=f) (l:=[]) (by intro z hz; rw [List.mem_singleton.1 hz]; exact hF.fok)
  rw [←hob] at g1
  rw [g1] at hFR
  have hle:(4:Int)+f.body.length=o.length:=by rw [hob]; simp [bytes,frW]; omega
  have hm0:min (text.length:Int) (min 8 e'.send)=0:=by rw [←hnm,h0]; rfl
  simp -implicitDefEqProofs (maxSteps:=1000000) (disch:=omega) only [push_cast,simprocAttr,↓gd]
  refine ((hFR _).as rfl).to ?_
  simp -implicitDefEqProofs (maxSteps:=1000000) (disch:=omega) only [push_cast,simprocAttr,f1,f2,f3,r3,min3',hm0,hle,decide_true,↓gd]
  exact ⟨_,_,Wk.refl _ _ _,rfl⟩
 ·rw [if_neg h0] at hob
  have hgok:=hF.gok h0
  obtain ⟨e1,e2⟩:=hF.g1
  obtain ⟨g1,g2⟩:=frR_first (f:=f) (l:=[g]) (by intro z hz; simp only [List.mem_cons,List.not_mem_nil,or_false] at hz; rcases hz with rfl | rfl; exact hF.fok; exact hgok)
  obtain ⟨g3,g4⟩:=frR_first (f:=g) (l:=[]) (by intro z hz; rw [List.mem_singleton.1 hz]; exact hgok)
  rw [←hob] at g1 g2
  rw [g1] at hFR
  have hFR2:=fun T=>FrameRead_ok (bytes [g]) (by have h2:=(frameOk_nat hgok).2.2; simp [bytes,frW]; omega) T
  rw [g3] at hFR2
  have hbl:(o.length:Int)=4+f.body.length+(4+g.body.length):=by rw [hob]; simp [bytes,frW]; omega
  have hm0:min (text.length:Int) (min 8 e'.send)=n:=hnm.symm
  have hn0:¬(n:Int)=0:=by omega
  have hnl:(n:Int)≤text.length:=by omega
  have hnp:0≤(n:Int):=by omega
  have hdr:(o.take o.length).drop ((4:Int)+f.body.length).toNat=bytes [g]:=by
   rw [List.take_length,show ((4:Int)+f.body.length).toNat=4+f.body.length by omega]; exact g2
  have hus:(4:Int)+f.body.length≤o.length:=by omega
  have hsum:(4:Int)+f.body.length+(4+g.body.length)=o.length:=hbl.symm
  have hfb:=(frameOk_nat hF.fok).2.2
  have hgb:=(frameOk_nat hgok).2.2
  simp -implicitDefEqProofs (maxSteps:=1000000) (disch:=omega) only [push_cast,simprocAttr,↓gd]
  refine ((hFR _).as rfl).to ?_
  simp -implicitDefEqProofs (maxSteps:=1000000) (disch:=omega) only [push_cast,simprocAttr,f1,f2,f3,r3,min3',hm0,hn0,decide_true,↓gd]
  repeat refine And.intro (by omega) ?_
  refine ((hFR2 _).as (by rw [hdr])).to ?_
  simp -implicitDefEqProofs (maxSteps:=1000000) (disch:=omega) only [push_cast,simprocAttr,e1,e2,r3,hm0,hn0,hnl,hnp,hsum,hsn,decide_true,↓gd]
  repeat refine And.intro (by omega) ?_
  refine ⟨fun _=>⟨_,_,Wk.refl _ _ _,rfl⟩,fun h9=>absurd ?_ h9⟩
  rw [←e2,i64_fit _ (by omega)]
  exact hsum
end
end Go.Proofs.YtdplmibomopkcaaGreatDoor
