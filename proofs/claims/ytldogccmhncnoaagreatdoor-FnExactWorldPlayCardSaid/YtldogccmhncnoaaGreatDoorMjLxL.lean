/- A part of the proof: contracts of functions, or plain facts on which these lean. -/
import Derived.Test.YtldogccmhncnoaaGreatDoorMj36
import Derived.Test.YtldogccmhncnoaaGreatDoorMj38
namespace Go.Proofs.YtldogccmhncnoaaGreatDoor
open Go
set_option linter.unusedVariables false
set_option linter.unusedSimpArgs false
set_option maxRecDepth 100000
set_option maxHeartbeats 16000000

section
open Go
theorem evsC_bare (l:List Ev):∀u ∈ evsC l,Bare u:=by
 intro u hu
 obtain ⟨f,_,hf⟩:=List.mem_flatMap.1 hu
 simp only [evF,List.mem_cons,List.not_mem_nil,or_false] at hf
 rcases hf with rfl | rfl | rfl | rfl | rfl
 ·exact .int _ _
 ·exact .int _ _
 ·exact .int _ _
 ·exact .str _
 ·exact .str _
theorem evs_bor {S:List Blk} {l:List Ev} {p:Nat} (hp:S[p]?=some (.cells 5 (evsC l))):BorE S (.rows none (l.map evV)) (.heap p l.length):=by
 have:=BorC.arr (S:=S) (xs:=l.map evV) (by rw [evs_cells]; exact hp) (by rw [evs_cells]; exact evsC_bare l)
 rw [List.length_map] at this
 exact .one (.one this)
theorem eqEventS_X {l:List Ev} (hl:l.length≤2000000) {S:List Blk} {p:Nat} (hp:S[p]?=some (.cells 5 (evsC l))):VCall Tryz.prog 29 [.heap p l.length,.rows none (l.map evV)] S fun r S'=>r=.bool true∧S'=S :=
 VCall.borrow2 ⟨_,Tryz.func29,rfl,rfl⟩ (fun S=>eqEventS_self l (fun _ _=>trivial) hl S) (.bool _) (borM_of (.cons (evs_bor hp) (.cons (.one (.one (.same (cl_evs _ _)))) .nil)))
theorem FnExactWorldPlay_ok (l:List Ev) (hz:ZL ZV l) (S:List Blk):VCall Tryz.prog 6 [.rows none (l.map evV)] S fun r S'=>r=.bool true:=by
 refine VCall.en hDe Tryz.func6 Tryz.ntmps6 Tryz.results6 ?_
 simp -implicitDefEqProofs (maxSteps:=1000000) (disch:=omega) only [push_cast,simprocAttr,↓gd]
 refine ((szEventS_ok l hz 1048576 (by omega) (by omega) _).as (by rfl)).to ?_
 by_cases hc:((cVs l:Nat):Int)≤1048576
 rotate_left
 ·rw [subN_no hc]
  simp -implicitDefEqProofs (maxSteps:=1000000) (disch:=omega) only [push_cast,simprocAttr,↓gd]
  exact ⟨_,_,Wk.refl _ _ _,rfl⟩
 rw [subN_in hc]
 have hn:¬((1048576:Int) - ((cVs l:Nat):Int) < 0):=by omega
 obtain ⟨hl,hv⟩:=cVs_b (l:=l) (by omega)
 clear hz
 have hXB:WoB (worldPlayM l).1:=by
  unfold worldPlayM
  split
  ·exact ⟨⟨by simp [wo0,en0],by simp [wo0,en0],by simp [wo0,en0],⟨by simp [wo0,en0],by simp [wo0,en0]⟩,⟨by simp [wo0,en0],by simp [wo0,en0]⟩,by simp [wo0,en0]⟩,⟨by simp [wo0,en0],by simp [wo0,en0],by simp [wo0,en0],⟨by simp [wo0,en0],by simp [wo0,en0]⟩,⟨by simp [wo0,en0],by simp [wo0,en0]⟩,by simp [wo0,en0]⟩,by simp [wo0],by simp [wo0]⟩
  ·exact (playM_w l).b (by omega)
 have hsm:=play_small l
 have hoks:l.length≤60→∀i,i≤l.length→endOk (playM (l.take i)).caller=true∧endOk (playM (l.take i)).answerer=true:=fun _ i _=>play_ends l i
 have hspec:=fun (Z:List Blk)=>sWorldPlay_ok l (by omega) hv Z
 have himpl:=fun (Z:List Blk) (p:Nat) (q:Z[p]?=some (.cells 5 (evsC l)))=>WorldPlay_O l (by omega) hv hoks q
 have himplR:=fun (Z:List Blk)=>WorldPlay_ok l (by omega) hv hoks Z
 generalize worldPlayM l=X at *
 obtain ⟨x,ok⟩:=X
 simp only at hXB hsm hspec himpl himplR
 simp -implicitDefEqProofs (maxSteps:=1000000) (disch:=omega) only [push_cast,simprocAttr,hn,↓gd]
 refine ((toEventS_R l (by omega) _).as (by rfl)).to ?_
 simp -implicitDefEqProofs (maxSteps:=1000000) (disch:=omega) only [push_cast,simprocAttr,↓gd]
 refine (hspec _).mono ?_
 rintro r S2 ⟨u2,rfl,b2,c2,d2,f2,rfl,q2⟩
 simp -implicitDefEqProofs (maxSteps:=1000000) (disch:=omega) only [push_cast,simprocAttr,↓gd]
 refine ((toEventS_O l (by omega) _).as (by rfl)).to ?_
 simp -implicitDefEqProofs (maxSteps:=1000000) (disch:=omega) only [push_cast,simprocAttr,↓gd]
 refine ((himpl _ (S2.length+1) (by rw [List.getElem?_append_right (by simp)]; simp)).as (by simp)).mono ?_
 rintro r S4 ⟨u4,rfl,go,gi,b4,c4,ls4,ho,hi,d4,f4,ks4,rfl,q4⟩
 have q4u:=q4.caller.upd
 have wD:=q4u.get (j:=S2.length) (B:=(Blk.cells 0 (wC b2 c2 d2 f2 x))) (by simp -implicitDefEqProofs (maxSteps:=1000000) (disch:=omega) only [push_cast,simprocAttr,↓gd]) (by simp)
 have pD:=q4u.get (j:=S2.length+1) (B:=(Blk.cells 5 (evsC l))) (by simp) (by simp)
 have hwD:=(q2.at_.app _).keep q4u (by simp) (by simp) (by simp) (by simp)
 have lwD:=lt_of_some wD
 have lpD:=lt_of_some pD
 simp -implicitDefEqProofs (maxSteps:=1000000) (disch:=omega) only [push_cast,simprocAttr,wD,↓gd]
 refine ((eqWorld_X hXB (q4.wx.app _) (hwD.wx.app _)).as (by rfl)).to ?_
 simp -implicitDefEqProofs (maxSteps:=1000000) (disch:=omega) only [push_cast,simprocAttr,wD,↓gd]
 refine ((toEventS_R l (by omega) _).as (by rfl)).to ?_
 simp -implicitDefEqProofs (maxSteps:=1000000) (disch:=omega) only [push_cast,simprocAttr,wD,↓gd]
 have hp5:(S4++[(Blk.cells 0 (owC go gi b4 c4 ho hi d4 f4 x))])[S2.length+1]?=some (Blk.cells 5 (evsC l)):=by rw [List.getElem?_append_left lpD]; exact pD
 refine ((eqEventS_X (by omega) hp5).as (by rfl)).to ?_
 obtain ⟨K,hK⟩:∃n,1+5 * l.length=n:=⟨_,rfl⟩
 obtain ⟨M,hM⟩:∃n,1+cntW x=n:=⟨_,rfl⟩
 have mk1:=markEventS_ok l 1 (by omega) (by omega) hp5
 have mk2:=fun (Z:List Blk) (q:WoO (S2++[(Blk.cells 0 (wC b2 c2 d2 f2 x))]) go gi b4 c4 ls4 ho hi d4 f4 ks4 x Z)=>markWorld_ok hXB q 1 (by omega)
 rw [hK] at mk1
 rw [hM] at mk2
 have hKn:¬(K:Int) < 0:=by omega
 have hMn:¬(M:Int) < 0:=by omega
 have bg1:∀p ∈ wBlks go gi b4 c4 ls4 ho hi d4 f4 ks4,p < S4.length:=q4.below
 have bg2:∀p ∈ wBlks go gi b4 c4 ls4 ho hi d4 f4 ks4,S2.length+2≤p:=fun p hp=>by have:=q4.above p hp; simpa using this
 have wb:=lt_of_some q2.at_.caller.1
 have wc:=lt_of_some q2.at_.caller.2
 have wd:=lt_of_some q2.at_.answerer.1
 have wf:=lt_of_some q2.at_.answerer.2
 have hu:Upd [] (S2++[(Blk.cells 0 (wC b2 c2 d2 f2 x))]) (S2++[(Blk.cells 0 (wC b2 c2 d2 f2 x)),(Blk.cells 5 (evsC l))]):=by
  have:=(Upd.refl [] (S2++[(Blk.cells 0 (wC b2 c2 d2 f2 x))])).app [(Blk.cells 5 (evsC l))]
  simpa using this
 have u6:∀B:Blk,Upd [S2.length+1] (S4++[(Blk.cells 0 (owC go gi b4 c4 ho hi d4 f4 x))]) ((S4++[(Blk.cells 0 (owC go gi b4 c4 ho hi d4 f4 x))]).set (S2.length+1) B):=fun B=>(Upd.refl _ _).set _ (.inr (List.mem_singleton.2 rfl))
 have hg4:WoO (S2++[(Blk.cells 0 (wC b2 c2 d2 f2 x))]) go gi b4 c4 ls4 ho hi d4 f4 ks4 x S4:=q4.of hu
 simp -implicitDefEqProofs (maxSteps:=1000000) (disch:=omega) only [push_cast,simprocAttr,wD,↓gd]
 refine (mk1.as (by rfl)).to ?_
 obtain ⟨S6,hS6⟩:∃Z,(S4++[(Blk.cells 0 (owC go gi b4 c4 ho hi d4 f4 x))]).set (S2.length+1) (.cells 5 (evsC (mkEvto l 1 l.length)))=Z:=⟨_,rfl⟩
 have u6':=u6 (.cells 5 (evsC (mkEvto l 1 l.length)))
 rw [hS6] at u6' ⊢
 have wE:(S4++[(Blk.cells 0 (owC go gi b4 c4 ho hi d4 f4 x))])[S2.length]?=some (Blk.cells 0 (wC b2 c2 d2 f2 x)):=by rw [List.getElem?_append_left lwD]; exact wD
 have gE:(S4++[(Blk.cells 0 (owC go gi b4 c4 ho hi d4 f4 x))])[S4.length]?=some (Blk.cells 0 (owC go gi b4 c4 ho hi d4 f4 x)):=by rw [app_get0]; rfl
 have wF:=u6'.get wE (by simp)
 have gF:=u6'.get gE (by simp; omega)
 have hwF:=(hwD.app [(Blk.cells 0 (owC go gi b4 c4 ho hi d4 f4 x))]).keep u6' (by simp; omega) (by simp; omega) (by simp; omega) (by simp; omega)
 have hgF:=(hg4.upd2 ((Upd.refl _ _).app [(Blk.cells 0 (owC go gi b4 c4 ho hi d4 f4 x))])).keep u6' (fun p hp hq=>by rw [List.mem_singleton] at hq; have:=bg2 _ hp; omega) (fun p hp=>by rw [List.mem_singleton] at hp; subst hp; simp)
 have lwF:=lt_of_some wF
 have lgF:=lt_of_some gF
 simp -implicitDefEqProofs (maxSteps:=1000000) (disch:=omega) only [push_cast,simprocAttr,wF,gF,hKn,↓gd]
 refine ((eqWorld_X hXB hgF.wx hwF.wx).as (by rfl)).to ?_
 simp -implicitDefEqProofs (maxSteps:=1000000) (disch:=omega) only [push_cast,simprocAttr,wF,gF,↓gd]
 refine ((mk2 _ hgF).as (by rfl)).mono ?_
 rintro r S7 ⟨rfl,q7,u7⟩
 have u7:Upd (wBlks go gi b4 c4 ls4 ho hi d4 f4 ks4) S6 S7:=u7
 have wG:=u7.get wF (fun hm=>by have:=bg2 _ hm; omega)
 have gG:=u7.get gF (fun hm=>by have:=bg1 _ hm; omega)
 have hwG:=hwF.keep u7 (fun hm=>by have:=bg2 _ hm; omega) (fun hm=>by have:=bg2 _ hm; omega) (fun hm=>by have:=bg2 _ hm; omega) (fun hm=>by have:=bg2 _ hm; omega)
 have hxm:=q7.wx
 have lwG:=lt_of_some wG
 have lgG:=lt_of_some gG
 have held:=fun (Z:List Blk) (q:WX Z (xpO go gi b4 c4 (markLs ls4 x.caller 1) (markW x 1).caller) (xpO ho hi d4 f4 (markLs ks4 x.answerer (1+cntE x.caller)) (markW x 1).answerer) (markW x 1))=>heldWorld_X hXB 1 (by omega) q
 rw [hM] at held
 have hpv:pV (xpO go gi b4 c4 (markLs ls4 x.caller 1) (markW x 1).caller) (xpO ho hi d4 f4 (markLs ks4 x.answerer (1+cntE x.caller)) (markW x 1).answerer) (markW x 1)=.agg (owC go gi b4 c4 ho hi d4 f4 x):=by
  have e1:(markW x 1).caller=markE x.caller 1:=rfl
  have e2:(markW x 1).answerer=markE x.answerer (1+cntE x.caller):=rfl
  rw [e1,e2,xpO_mark go gi b4 c4 ls4,xpO_mark ho hi d4 f4 ks4,pV_mark]
  rfl
 rw [hpv] at held
 simp -implicitDefEqProofs (maxSteps:=1000000) (disch:=omega) only [push_cast,simprocAttr,wG,gG,↓gd]
 refine ((held _ hxm).as (by rfl)).to ?_
 simp -implicitDefEqProofs (maxSteps:=1000000) (disch:=omega) only [push_cast,simprocAttr,wG,gG,hMn,↓gd]
 refine ((toEventS_R l (by omega) _).as (by rfl)).to ?_
 simp -implicitDefEqProofs (maxSteps:=1000000) (disch:=omega) only [push_cast,simprocAttr,wG,gG,↓gd]
 refine (himplR _).mono ?_
 rintro r S9 ⟨u9,rfl,b9,c9,d9,f9,rfl,q9⟩
 have wI:=q9.upd.get wG (by simp)
 have gI:=q9.upd.get gG (by simp)
 have hwI:=hwG.keep q9.upd (by simp) (by simp) (by simp) (by simp)
 have hmI:=hxm.upd q9.upd
 have lwI:=lt_of_some wI
 have lgI:=lt_of_some gI
 simp -implicitDefEqProofs (maxSteps:=1000000) (disch:=omega) only [push_cast,simprocAttr,wI,gI,↓gd]
 refine ((eqWorld_X hXB (q9.at_.wx.app _) (hwI.wx.app _)).as (by rfl)).to ?_
 simp -implicitDefEqProofs (maxSteps:=1000000) (disch:=omega) only [push_cast,simprocAttr,wI,gI,↓gd]
 refine ((held _ (hmI.app _)).as (by rfl)).to ?_
 simp -implicitDefEqProofs (maxSteps:=1000000) (disch:=omega) only [push_cast,simprocAttr,wI,gI,hMn,↓gd]
 exact ⟨_,_,Wk.refl _ _ _,rfl⟩
end
end Go.Proofs.YtldogccmhncnoaaGreatDoor
