/- A part of the proof: contracts of functions, or plain facts on which these lean. -/
import Derived.Test.YtldogccmhncnoaaGreatDoorMh32
namespace Go.Proofs.YtldogccmhncnoaaGreatDoor
open Go
set_option linter.unusedVariables false
set_option linter.unusedSimpArgs false
set_option maxRecDepth 100000
set_option maxHeartbeats 16000000

section
open Go
theorem FnExactEndHear_ok (e:En) (bs:List UInt8) (hz:ZE e) (hbz:bs.length≤mxL) (S:List Blk):VCall Tryz.prog 3 [erV e,.str bs] S fun r S'=>r=.bool true:=by
 refine VCall.ex hDe (fun _=>false) (fun id=>if id=12 then [3,2,3,5,5] else []) Tryz.func3 Tryz.ntmps3 Tryz.results3 ?_
 unfold mxL at hbz
 by_cases hb:(bs.length:Int) > 1048576
 ·simp -implicitDefEqProofs (maxSteps:=1000000) (disch:=omega) only [push_cast,simprocAttr,hb,↓gd]
  exact ⟨_,_,Wk.refl _ _ _,rfl⟩
 simp -implicitDefEqProofs (maxSteps:=1000000) (disch:=omega) only [push_cast,simprocAttr,hb,↓gd]
 refine ((szEnd_ok e hz 1048576 (by omega) (by omega) _).as (by rfl)).to ?_
 by_cases hc:((cE e:Nat):Int)≤1048576
 rotate_left
 ·rw [subN_no hc]
  simp -implicitDefEqProofs (maxSteps:=1000000) (disch:=omega) only [push_cast,simprocAttr,↓gd]
  exact ⟨_,_,Wk.refl _ _ _,rfl⟩
 rw [subN_in hc]
 have hn:¬((1048576:Int) - ((cE e:Nat):Int) < 0):=by omega
 have hcnt:=cntE_c e
 have hB:EnB e:=cE_b (by omega)
 clear hz
 have hXB:=endHearM_b e bs
 have hsm:=hear_small e bs
 have hspec:=fun (Z:List Blk) {b c:Nat} (q:EnAt Z b c e)=>sEndHear_ok hB bs (by omega) q
 have himpl:=fun (Z:List Blk) (po pi b c:Nat) (ls:List XS) (q:EnX Z (.heap po e.out.length) (.heap pi e.inn.length) b c ls e)=>EndHear_R true hB bs (by omega) q
 have himplR:=fun (Z:List Blk) {b c:Nat} (q:EnAt Z b c e)=>EndHear_ok hB bs (by omega) q
 generalize endHearM e bs=x at *
 simp -implicitDefEqProofs (maxSteps:=1000000) (disch:=omega) only [push_cast,simprocAttr,hn,↓gd]
 refine ((toEnd_R e hB _).as (by rfl)).mono ?_
 rintro r S1 ⟨b1,c1,rfl,q1⟩
 have kA:=q1.upd.get (j:=S.length) (B:=(Blk.cells 0 (erC e))) (by simp -implicitDefEqProofs (maxSteps:=1000000) (disch:=omega) only [push_cast,simprocAttr,↓gd]) (by simp)
 have lA:=lt_of_some kA
 simp -implicitDefEqProofs (maxSteps:=1000000) (disch:=omega) only [push_cast,simprocAttr,↓gd]
 refine ((hspec _ q1.at_).as (by rfl)).mono ?_
 rintro r S2 ⟨b2,c2,rfl,q2⟩
 have kB:=q2.upd.get kA (by simp)
 have lB:=lt_of_some kB
 simp -implicitDefEqProofs (maxSteps:=1000000) (disch:=omega) only [push_cast,simprocAttr,kB,↓gd]
 refine ((toEnd_O e hB _).as (by rfl)).mono ?_
 rintro r S3 ⟨po,pi,b3,c3,ls3,rfl,q3⟩
 have kC:=q3.upd.get (j:=S.length) (B:=(Blk.cells 0 (erC e))) (by simp -implicitDefEqProofs (maxSteps:=1000000) (disch:=omega) only [push_cast,simprocAttr,kB,↓gd]) (by simp)
 have wC:=q3.upd.get (j:=S2.length) (B:=(Blk.cells 0 (enX (.rows none (x.out.map fV)) (.rows none (x.inn.map fV)) (.heap b2 x.strs.length) (.heap c2 x.wait.length) x))) (by simp -implicitDefEqProofs (maxSteps:=1000000) (disch:=omega) only [push_cast,simprocAttr,↓gd]) (by simp)
 have hwC:=(q2.at_.app [(Blk.cells 0 (enX (.rows none (x.out.map fV)) (.rows none (x.inn.map fV)) (.heap b2 x.strs.length) (.heap c2 x.wait.length) x))]).upd q3.upd (by simp) (by simp)
 have lC:=lt_of_some kC
 have lwC:=lt_of_some wC
 simp -implicitDefEqProofs (maxSteps:=1000000) (disch:=omega) only [push_cast,simprocAttr,kC,wC,↓gd]
 refine ((himpl _ po pi b3 c3 ls3 (q3.x.app _)).as (by rfl)).mono ?_
 rintro r S4 h4
 obtain ⟨vo,vi,b4,c4,rfl,h4⟩:=h4
 rcases h4.cases with ⟨_,go,gi,ls4,rfl,rfl,q4⟩ | ⟨h,_⟩
 rotate_left
 ·cases h
 have kD:=q4.upd.get (j:=S.length) (B:=(Blk.cells 0 (erC e))) (by simp -implicitDefEqProofs (maxSteps:=1000000) (disch:=omega) only [push_cast,simprocAttr,kC,↓gd]) (by simp)
 have wD:=q4.upd.get (j:=S2.length) (B:=(Blk.cells 0 (enX (.rows none (x.out.map fV)) (.rows none (x.inn.map fV)) (.heap b2 x.strs.length) (.heap c2 x.wait.length) x))) (by simp -implicitDefEqProofs (maxSteps:=1000000) (disch:=omega) only [push_cast,simprocAttr,wC,↓gd]) (by simp)
 have xD:=q4.upd.get (j:=S3.length) (B:=(Blk.cells 0 (enX (.heap po e.out.length) (.heap pi e.inn.length) (.heap b3 e.strs.length) (.heap c3 e.wait.length) e))) (by simp -implicitDefEqProofs (maxSteps:=1000000) (disch:=omega) only [push_cast,simprocAttr,↓gd]) (by simp)
 have hwD:=(hwC.app [(Blk.cells 0 (enX (.heap po e.out.length) (.heap pi e.inn.length) (.heap b3 e.strs.length) (.heap c3 e.wait.length) e))]).upd q4.upd (by simp) (by simp)
 have hxD:=(q3.upd2 ((Upd.refl _ _).app [(Blk.cells 0 (enX (.heap po e.out.length) (.heap pi e.inn.length) (.heap b3 e.strs.length) (.heap c3 e.wait.length) e))])).upd2 q4.upd
 have lD:=lt_of_some kD
 have lwD:=lt_of_some wD
 have lxD:=lt_of_some xD
 simp -implicitDefEqProofs (maxSteps:=1000000) (disch:=omega) only [push_cast,simprocAttr,kD,wD,xD,↓gd]
 refine ((eqEnd_X hXB (q4.x.app _) (hwD.x.app _)).as (by rfl)).to ?_
 simp -implicitDefEqProofs (maxSteps:=1000000) (disch:=omega) only [push_cast,simprocAttr,kD,wD,xD,↓gd]
 refine ((toEnd_R e hB _).as (by rfl)).mono ?_
 rintro r S5 ⟨b5,c5,rfl,q5⟩
 have kE:=q5.upd.get (j:=S.length) (B:=(Blk.cells 0 (erC e))) (by simp -implicitDefEqProofs (maxSteps:=1000000) (disch:=omega) only [push_cast,simprocAttr,kD,↓gd]) (by simp)
 have wE:=q5.upd.get (j:=S2.length) (B:=(Blk.cells 0 (enX (.rows none (x.out.map fV)) (.rows none (x.inn.map fV)) (.heap b2 x.strs.length) (.heap c2 x.wait.length) x))) (by simp -implicitDefEqProofs (maxSteps:=1000000) (disch:=omega) only [push_cast,simprocAttr,wD,↓gd]) (by simp)
 have xE:=q5.upd.get (j:=S3.length) (B:=(Blk.cells 0 (enX (.heap po e.out.length) (.heap pi e.inn.length) (.heap b3 e.strs.length) (.heap c3 e.wait.length) e))) (by simp -implicitDefEqProofs (maxSteps:=1000000) (disch:=omega) only [push_cast,simprocAttr,xD,↓gd]) (by simp)
 have gE:=q5.upd.get (j:=S4.length) (B:=(Blk.cells 0 (enX (.heap go x.out.length) (.heap gi x.inn.length) (.heap b4 x.strs.length) (.heap c4 x.wait.length) x))) (by simp -implicitDefEqProofs (maxSteps:=1000000) (disch:=omega) only [push_cast,simprocAttr,↓gd]) (by simp)
 have hwE:=(hwD.app [(Blk.cells 0 (enX (.heap go x.out.length) (.heap gi x.inn.length) (.heap b4 x.strs.length) (.heap c4 x.wait.length) x))]).upd q5.upd (by simp) (by simp)
 have hxE:=(hxD.upd2 ((Upd.refl _ _).app [(Blk.cells 0 (enX (.heap go x.out.length) (.heap gi x.inn.length) (.heap b4 x.strs.length) (.heap c4 x.wait.length) x))])).upd2 q5.upd
 have hgE:=(q4.upd2 ((Upd.refl _ _).app [(Blk.cells 0 (enX (.heap go x.out.length) (.heap gi x.inn.length) (.heap b4 x.strs.length) (.heap c4 x.wait.length) x))])).upd2 q5.upd
 have lE:=lt_of_some kE
 have lwE:=lt_of_some wE
 have lxE:=lt_of_some xE
 have lgE:=lt_of_some gE
 have bx1:∀p ∈ eBlks po pi b3 c3 ls3,p < S3.length:=q3.below
 have bx2:∀p ∈ eBlks po pi b3 c3 ls3,S2.length+1≤p:=fun p hp=>by have:=q3.above p hp; simpa using this
 have bg1:∀p ∈ eBlks go gi b4 c4 ls4,p < S4.length:=q4.below
 have bg2:∀p ∈ eBlks go gi b4 c4 ls4,S3.length+1≤p:=fun p hp=>by have:=q4.above p hp; simpa using this
 have s01:S.length < S2.length:=by have:=q2.upd.1; omega
 have s23:S2.length < S3.length:=by have:=q3.upd.1; simp at this; omega
 have s34:S3.length < S4.length:=by have:=q4.upd.1; simp at this; omega
 have wb:=lt_of_some q2.at_.1
 have wc:=lt_of_some q2.at_.2
 have hu23:Upd [] (S2++[(Blk.cells 0 (enX (.rows none (x.out.map fV)) (.rows none (x.inn.map fV)) (.heap b2 x.strs.length) (.heap c2 x.wait.length) x))]) (S3++[(Blk.cells 0 (enX (.heap po e.out.length) (.heap pi e.inn.length) (.heap b3 e.strs.length) (.heap c3 e.wait.length) e))]):=q3.upd.app _
 have hgE2:=hgE.of hu23
 obtain ⟨K,hK⟩:∃n,1+cntE e=n:=⟨_,rfl⟩
 obtain ⟨M,hM⟩:∃n,1+cntE x=n:=⟨_,rfl⟩
 have mk1:=fun (Z:List Blk) (q:EnO (S2++[(Blk.cells 0 (enX (.rows none (x.out.map fV)) (.rows none (x.inn.map fV)) (.heap b2 x.strs.length) (.heap c2 x.wait.length) x))]) po pi b3 c3 ls3 e Z)=>markEnd_ok hB q 1 (by omega)
 have mk2:=fun (Z:List Blk) (q:EnO (S2++[(Blk.cells 0 (enX (.rows none (x.out.map fV)) (.rows none (x.inn.map fV)) (.heap b2 x.strs.length) (.heap c2 x.wait.length) x))]) go gi b4 c4 ls4 x Z)=>markEnd_ok hXB q 1 (by omega)
 rw [hK] at mk1
 rw [hM] at mk2
 have hKn:¬(K:Int) < 0:=by omega
 have hMn:¬(M:Int) < 0:=by omega
 simp -implicitDefEqProofs (maxSteps:=1000000) (disch:=omega) only [push_cast,simprocAttr,kD,wD,xD,kE,wE,xE,gE,↓gd]
 refine ((eqEnd_X hB hxE.x q5.at_.x).as (by rfl)).to ?_
 simp -implicitDefEqProofs (maxSteps:=1000000) (disch:=omega) only [push_cast,simprocAttr,kE,wE,xE,gE,↓gd]
 refine ((mk1 _ hxE).as (by rfl)).mono ?_
 rintro r S6 ⟨rfl,q6,u6⟩
 have kF:=u6.get kE (fun hm=>by have:=bx2 _ hm; omega)
 have wF:=u6.get wE (fun hm=>by have:=bx2 _ hm; omega)
 have xF:=u6.get xE (fun hm=>by have:=bx1 _ hm; omega)
 have gF:=u6.get gE (fun hm=>by have:=bx1 _ hm; omega)
 have hwF:=hwE.upd u6 (fun hm=>by have:=bx2 _ hm; omega) (fun hm=>by have:=bx2 _ hm; omega)
 have hgF:=hgE2.keep u6 (fun p hp hq=>by have:=bg2 _ hp; have:=bx1 _ hq; omega) (fun p hp=>by have:=bx2 _ hp; simpa using this)
 have lF:=lt_of_some kF
 have lwF:=lt_of_some wF
 have lgF:=lt_of_some gF
 simp -implicitDefEqProofs (maxSteps:=1000000) (disch:=omega) only [push_cast,simprocAttr,kF,wF,gF,hKn,↓gd]
 refine ((eqEnd_X hXB hgF.x hwF.x).as (by rfl)).to ?_
 simp -implicitDefEqProofs (maxSteps:=1000000) (disch:=omega) only [push_cast,simprocAttr,kF,wF,gF,↓gd]
 refine ((mk2 _ hgF).as (by rfl)).mono ?_
 rintro r S7 ⟨rfl,q7,u7⟩
 have kG:=u7.get kF (fun hm=>by have:=bg2 _ hm; omega)
 have wG:=u7.get wF (fun hm=>by have:=bg2 _ hm; omega)
 have gG:=u7.get gF (fun hm=>by have:=bg1 _ hm; omega)
 have hwG:=hwF.upd u7 (fun hm=>by have:=bg2 _ hm; omega) (fun hm=>by have:=bg2 _ hm; omega)
 have hxm:=q7.x
 have lG:=lt_of_some kG
 have lwG:=lt_of_some wG
 have lgG:=lt_of_some gG
 obtain ⟨ml1,ml2,ml3,ml4⟩:=markE_lens x 1
 rw [ml1,ml2] at hxm
 have held:=fun (Z:List Blk) (q:EnX Z (.heap go x.out.length) (.heap gi x.inn.length) b4 c4 (markLs ls4 x 1) (markE x 1))=>heldEnd_X hXB 1 (by omega) q
 rw [hM] at held
 simp only [xV_mark] at held
 simp -implicitDefEqProofs (maxSteps:=1000000) (disch:=omega) only [push_cast,simprocAttr,kG,wG,gG,↓gd]
 refine ((held _ hxm).as (by rfl)).to ?_
 simp -implicitDefEqProofs (maxSteps:=1000000) (disch:=omega) only [push_cast,simprocAttr,kG,wG,gG,hMn,↓gd]
 refine ((toEnd_R e hB _).as (by rfl)).mono ?_
 rintro r S8 ⟨b8,c8,rfl,q8⟩
 have kH:=q8.upd.get kG (by simp)
 have wH:=q8.upd.get wG (by simp)
 have gH:=q8.upd.get gG (by simp)
 have hwH:=hwG.upd q8.upd (by simp) (by simp)
 have hmH:=hxm.upd q8.upd
 have lH:=lt_of_some kH
 have lwH:=lt_of_some wH
 have lgH:=lt_of_some gH
 simp -implicitDefEqProofs (maxSteps:=1000000) (disch:=omega) only [push_cast,simprocAttr,kH,wH,gH,↓gd]
 refine ((himplR _ q8.at_).as (by rfl)).mono ?_
 rintro r S9 ⟨b9,c9,rfl,q9⟩
 have wI:=q9.upd.get wH (by simp)
 have gI:=q9.upd.get gH (by simp)
 have hwI:=hwH.upd q9.upd (by simp) (by simp)
 have hmI:=hmH.upd q9.upd
 have lwI:=lt_of_some wI
 have lgI:=lt_of_some gI
 simp -implicitDefEqProofs (maxSteps:=1000000) (disch:=omega) only [push_cast,simprocAttr,wI,gI,↓gd]
 refine ((eqEnd_X hXB (q9.at_.x.app _) (hwI.x.app _)).as (by rfl)).to ?_
 simp -implicitDefEqProofs (maxSteps:=1000000) (disch:=omega) only [push_cast,simprocAttr,wI,gI,↓gd]
 refine ((held _ (hmI.app _)).as (by rfl)).to ?_
 simp -implicitDefEqProofs (maxSteps:=1000000) (disch:=omega) only [push_cast,simprocAttr,wI,gI,hMn,↓gd]
 exact ⟨_,_,Wk.refl _ _ _,rfl⟩
end
end Go.Proofs.YtldogccmhncnoaaGreatDoor
