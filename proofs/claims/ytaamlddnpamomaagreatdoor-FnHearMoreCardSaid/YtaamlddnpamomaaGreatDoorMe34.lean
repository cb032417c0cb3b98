/- A part of the proof: contracts of functions, or plain facts on which these lean. -/
import Derived.Test.YtaamlddnpamomaaGreatDoorMe20
import Derived.Test.YtaamlddnpamomaaGreatDoorMe33
namespace Go.Proofs.YtaamlddnpamomaaGreatDoor
open Go
set_option linter.unusedVariables false
set_option linter.unusedSimpArgs false
set_option maxRecDepth 100000
set_option maxHeartbeats 16000000

section
open Go
structure WoDr (S:List Blk) (b:Nat) (bs:List UInt8) (P:Nat) (w:Wo) (b1 c1 d1 f1:Nat) (S':List Blk):Prop where
 at_:WoAt S' b1 c1 d1 f1 w
 hb:S.length≤b1
 hc:S.length≤c1
 hd:S.length≤d1
 hf:S.length≤f1
 upd:Upd [b] S S'
 rd:S'[b]?=some (Rd bs P)
theorem right_ne {S:List Blk} {i j m n:Nat} {cs:List V} (h:S[i]?=some (.right m)) (k:S[j]?=some (.cells n cs)):i≠j:=by
 rintro rfl
 rw [h] at k
 cases k
theorem WoAt.rt {S:List Blk} {b c d f:Nat} {w:Wo} (h:WoAt S b c d f w) {j n:Nat} (hj:S[j]?=some (.right n)):b≠j∧c≠j∧d≠j∧f≠j :=
 ⟨Ne.symm (right_ne hj h.caller.1),Ne.symm (right_ne hj h.caller.2),Ne.symm (right_ne hj h.answerer.1),Ne.symm (right_ne hj h.answerer.2)⟩
theorem WoDr.set {S:List Blk} {b:Nat} {bs:List UInt8} {P:Nat} {w:Wo} {b1 c1 d1 f1:Nat} {S':List Blk} (h:WoDr S b bs P w b1 c1 d1 f1 S') {j:Nat} (B:Blk) (hj:S.length≤j) (hn:b1≠j∧c1≠j∧d1≠j∧f1≠j) (hb:b≠j):WoDr S b bs P w b1 c1 d1 f1 (S'.set j B) :=
 ⟨h.at_.set B hn,h.hb,h.hc,h.hd,h.hf,h.upd.set B (.inl hj),by rw [get_set_ne (Ne.symm hb)]; exact h.rd⟩
theorem WoDr.app {S:List Blk} {b:Nat} {bs:List UInt8} {P:Nat} {w:Wo} {b1 c1 d1 f1:Nat} {S':List Blk} (h:WoDr S b bs P w b1 c1 d1 f1 S') (X:List Blk):WoDr S b bs P w b1 c1 d1 f1 (S'++X) :=
 ⟨h.at_.app X,h.hb,h.hc,h.hd,h.hf,h.upd.app X,by rw [List.getElem?_append_left (lt_of_some h.rd)]; exact h.rd⟩
theorem WoDr.draw {S:List Blk} {b:Nat} {bs:List UInt8} {P:Nat} {w:Wo} {b1 c1 d1 f1:Nat} {S':List Blk} (h:WoDr S b bs P w b1 c1 d1 f1 S') (Q:Nat):WoDr S b bs Q w b1 c1 d1 f1 (S'.set b (Rd bs Q)) :=
 ⟨h.at_.set _ (h.at_.var (cs:=_) h.rd),h.hb,h.hc,h.hd,h.hf,h.upd.set _ (.inr (by simp)),List.getElem?_set_self (lt_of_some h.rd)⟩
theorem WoDr.to {S:List Blk} {b:Nat} {bs:List UInt8} {P:Nat} {w y:Wo} {b1 c1 d1 f1 b2 c2 d2 f2:Nat} {S1 S2:List Blk} (h:WoDr S b bs P w b1 c1 d1 f1 S1) (k:WoTo S1 b1 c1 d1 f1 y b2 c2 d2 f2 S2):WoDr S b bs P y b2 c2 d2 f2 S2:=by
 have hl:=h.upd.1
 have e1:=h.hb; have e2:=h.hc; have e3:=h.hd; have e4:=h.hf
 have e5:=k.hb; have e6:=k.hc; have e7:=k.hd; have e8:=k.hf
 have v:=h.at_.var (cs:=_) h.rd
 exact ⟨k.at_,by omega,by omega,by omega,by omega,h.upd.then_ k.upd (fun j hj hm=>by simp only [List.mem_cons,List.not_mem_nil,or_false] at hm; omega),k.upd.get h.rd (by simp; omega)⟩
theorem l72Play_ok (bs:List UInt8) (b p:Nat) (hp:p≤80000000) (hbs:bs.length≤2000) (S:List Blk) (hS:S[b]?=some (Rd bs p)) :
  VCall Tryz.prog 76 [.ptr b 0] S fun r S'=>∃(l:List Ev) (τ P b1 c1 d1 f1:Nat),l.length≤58∧(∀v ∈ l,EvS v)∧r=.tup [.rows (some τ) (l.map evV),wV b1 c1 d1 f1 (playM l)]∧S'[τ]?=some (.right 5)∧S.length≤τ∧P≤p+20000∧WoDr S b bs P (playM l) b1 c1 d1 f1 S':=by
 have hbl:=rd_lt hS
 refine VCall.ex hD (fun _=>false) (fun id=>if id=11 then [3,3,3,4] else []) Tryz.func76 Tryz.ntmps76 Tryz.results76 ?_
 simp -implicitDefEqProofs (disch:=omega) only [push_cast,simprocAttr,↓gd]
 refine (sWorldNew_ok _).mono ?_
 rintro r S1 ⟨b1,c1,d1,f1,rfl,q1⟩
 have k0:S1[S.length]?=some (.cells 0 zW):=q1.upd.get (by simp -implicitDefEqProofs (disch:=omega) only [push_cast,simprocAttr,↓gd]) (by simp)
 have kr:S1[b]?=some (Rd bs p):=q1.upd.get (by rw [List.getElem?_append_left hbl]; exact hS) (by simp)
 have l0:=lt_of_some k0
 have e1:=q1.hb; have e2:=q1.hc; have e3:=q1.hd; have e4:=q1.hf
 simp at e1 e2 e3 e4
 simp -implicitDefEqProofs (disch:=omega) only [push_cast,simprocAttr,k0,↓gd]
 have kr1:∀X,(S1++X)[b]?=some (Rd bs p):=fun X=>by rw [List.getElem?_append_left (lt_of_some kr)]; exact kr
 refine (pickI bs b p 59 _ (by simp) (by omega) (by omega) hbs _ (kr1 _)).mono ?_
 rintro r S2 ⟨⟨q,hq,rfl⟩,rfl⟩
 have hdr:WoDr S b bs p (playM []) b1 c1 d1 f1 S1:=⟨q1.at_,by omega,by omega,by omega,by omega,q1.app.upd.mono (fun _ _ hm=>by cases hm),kr⟩
 simp -implicitDefEqProofs (disch:=omega) only [push_cast,simprocAttr,↓gd]
 refine wpV_loop (fun m t S2=>∃(l:List Ev) (τ P b1 c1 d1 f1:Nat),m≤58∧l.length+m≤58∧P+m * 300≤p+18000∧(∀v ∈ l,EvS v)∧t 0=.ptr b 0∧t 3=.ptr S.length 0∧t 4=.ptr S1.length 0∧t 5=.rows (some τ) (l.map evV)∧t 6=.int .i64 m ∧
  S.length≤τ∧S2[τ]?=some (.right 5)∧S2[S1.length]?=some (.cells 0 (wC b1 c1 d1 f1 (playM l)))∧S2[S.length]?=some (.cells 0 zW)∧WoDr S b bs P (playM l) b1 c1 d1 f1 S2) q
  ⟨[],S1.length+1,p+1,b1,c1,d1,f1,by omega,by simp; omega,by omega,by simp,rfl,rfl,rfl,rfl,rfl,by omega,?_,?_,?_,(hdr.draw _).app _⟩ ?_
 ·simp -implicitDefEqProofs (disch:=omega) only [push_cast,simprocAttr,↓gd]
 ·simp -implicitDefEqProofs (disch:=omega) only [push_cast,simprocAttr,↓gd]
  rfl
 ·simp -implicitDefEqProofs (disch:=omega) only [push_cast,simprocAttr,k0,↓gd]
 rintro m t S2 ⟨l,τ,P,b1,c1,d1,f1,hm,hlm,hP,hl,h0,h3,h4,h5,h6,hτ,kt,k1,k0,hdr⟩
 have lt:=lt_of_some kt
 have l1:=lt_of_some k1
 have l0:=lt_of_some k0
 have kb:=hdr.rd
 have lb:=lt_of_some kb
 have nt0:=right_ne kt k0
 have nt1:=right_ne kt k1
 have ntb:=right_ne kt kb
 have v0:=hdr.at_.var k0
 have v1:=hdr.at_.var k1
 have hW:=playM_w l
 have hB:=hW.b (by omega)
 refine wpV_of0 hD ?_
 by_cases h:0 < m
 ·have h':(m:Int) > 0:=by omega
  simp -implicitDefEqProofs (disch:=omega) only [push_cast,simprocAttr,h0,h3,h4,h5,h6,h',k1,↓gd]
  refine (l72Event_ok hB (by have:=stsOk_len hW.caller.sts; omega) b1 c1 d1 f1 bs b P (by omega) hbs S2 kb).mono ?_
  rintro r S3 ⟨⟨v,hv,rfl⟩,P2,hP2,rfl⟩
  have hpre:=fun Q X=>((hdr.draw Q).set (j:=τ) .dead hτ (hdr.at_.rt kt) (Ne.symm ntb)).app X
  have hS2b:∀B X,(S2.set b B++X)[b]?=some B:=fun B X=>stC lb _ _
  have hnes:=hdr.at_.nes
  have hhb:=hdr.hb; have hhc:=hdr.hc; have hhd:=hdr.hd; have hhf:=hdr.hf
  by_cases hl0:l=[]
  ·subst hl0
   simp -implicitDefEqProofs (disch:=omega) only [push_cast,simprocAttr,h0,h3,h4,h5,h6,↓gd]
   refine (l72Path_ok bs b P2 (by omega) hbs _ (hS2b _ _)).mono ?_
   rintro r S4 ⟨⟨s1,hs1,rfl⟩,rfl⟩
   simp -implicitDefEqProofs (disch:=omega) only [push_cast,simprocAttr,h0,h3,h4,h5,h6,stA lb,stB lb,↓gd]
   refine (l72Text_ok bs b (P2+1) (by omega) hbs _ (hS2b _ _)).mono ?_
   rintro r S4 ⟨⟨s2,hs2,rfl⟩,P3,hP3,rfl⟩
   simp -implicitDefEqProofs (disch:=omega) only [push_cast,simprocAttr,h0,h3,h4,h5,h6,stA lb,stB lb,kt,k1,↓gd]
   refine ((l22Do_ok hW (by omega) ⟨1,0,0,s1,s2⟩ (EvS.b ⟨hs1,hs2⟩) (hpre _ _).at_).as (by simp [wV,wC,enC,evV])).mono ?_
   rintro r S5 ⟨b2,c2,d2,f2,rfl,q5⟩
   have hn:=(hpre _ _).to q5
   have k0':=q5.upd.get (j:=S.length) (B:=.cells 0 zW) (by simp -implicitDefEqProofs (disch:=omega) only [push_cast,simprocAttr,k0,↓gd]) (by simp; omega)
   have k1':=q5.upd.get (j:=S1.length) (B:=.cells 0 (wC b1 c1 d1 f1 (playM []))) (by simp -implicitDefEqProofs (disch:=omega) only [push_cast,simprocAttr,k1,↓gd]) (by simp; omega)
   have kt':=q5.upd.get (j:=S2.length+2) (B:=.right 5) (by simp -implicitDefEqProofs (disch:=omega) only [push_cast,simprocAttr,↓gd]) (by simp; omega)
   have l1':=lt_of_some k1'
   have v1':=hn.at_.var k1'
   have hst:doM (playM []) ⟨1,0,0,s1,s2⟩=playM ([]++[⟨1,0,0,s1,s2⟩]):=by rw [playM,playM,List.foldl_append]; rfl
   rw [hst] at hn
   rw [hst]
   have ntt:=right_ne kt' k1'
   have hb2:b≠S1.length:=by omega
   generalize hy:playM ([]++[⟨1,0,0,s1,s2⟩])=y at *
   simp -implicitDefEqProofs (disch:=omega) only [push_cast,simprocAttr,h0,h3,h4,h5,h6,k1',↓gd]
   have hfin:WoDr S b bs P3 (playM ([]++[⟨1,0,0,s1,s2⟩])) b2 c2 d2 f2 (S5.set S1.length (.cells 0 (wC b2 c2 d2 f2 y))):=by rw [hy]; exact hn.set (j:=S1.length) _ (by omega) v1' hb2
   exact ⟨m - 1,by omega,[]++[⟨1,0,0,s1,s2⟩],S2.length+2,_,b2,c2,d2,f2,by omega,by simp at hlm ⊢; omega,by omega,fun u hu=>(List.mem_append.1 hu).elim (fun g=>hl u g) (fun g=>by rw [List.mem_singleton.1 g]; exact ⟨hs1,hs2⟩),by simp [evV],by congr 1; omega,by omega,by simp -implicitDefEqProofs (disch:=omega) only [push_cast,simprocAttr,kt',↓gd],by rw [hy],by simp -implicitDefEqProofs (disch:=omega) only [push_cast,simprocAttr,k0',↓gd],hfin⟩
  ·have hln:¬(l.length:Int)=0:=by have:=List.length_pos_iff.2 hl0; omega
   simp -implicitDefEqProofs (disch:=omega) only [push_cast,simprocAttr,h0,h3,h4,h5,h6,hln,kt,k1,evs_len5,↓gd]
   refine ⟨by omega,?_⟩
   refine ((l22Do_ok hW (by omega) v hv.b (hpre _ _).at_).as (by simp [wV,wC,enC,evV])).mono ?_
   rintro r S5 ⟨b2,c2,d2,f2,rfl,q5⟩
   have hn:=(hpre _ _).to q5
   have k0':=q5.upd.get (j:=S.length) (B:=.cells 0 zW) (by simp -implicitDefEqProofs (disch:=omega) only [push_cast,simprocAttr,k0,↓gd]) (by simp; omega)
   have k1':=q5.upd.get (j:=S1.length) (B:=.cells 0 (wC b1 c1 d1 f1 (playM l))) (by simp -implicitDefEqProofs (disch:=omega) only [push_cast,simprocAttr,k1,↓gd]) (by simp; omega)
   have kt':=q5.upd.get (j:=S2.length+2) (B:=.right 5) (by simp -implicitDefEqProofs (disch:=omega) only [push_cast,simprocAttr,↓gd]) (by simp; omega)
   have l1':=lt_of_some k1'
   have v1':=hn.at_.var k1'
   have hst:doM (playM l) v=playM (l++[v]):=by rw [playM,playM,List.foldl_append]; rfl
   rw [hst] at hn
   rw [hst]
   have ntt:=right_ne kt' k1'
   have hb2:b≠S1.length:=by omega
   generalize hy:playM (l++[v])=y at *
   simp -implicitDefEqProofs (disch:=omega) only [push_cast,simprocAttr,h0,h3,h4,h5,h6,k1',↓gd]
   have hfin:WoDr S b bs P2 (playM (l++[v])) b2 c2 d2 f2 (S5.set S1.length (.cells 0 (wC b2 c2 d2 f2 y))):=by rw [hy]; exact hn.set (j:=S1.length) _ (by omega) v1' hb2
   exact ⟨m - 1,by omega,l++[v],S2.length+2,_,b2,c2,d2,f2,by omega,by simp at hlm ⊢; omega,by omega,fun u hu=>(List.mem_append.1 hu).elim (fun g=>hl u g) (fun g=>by rw [List.mem_singleton.1 g]; exact hv),by simp [evV],by congr 1; omega,by omega,by simp -implicitDefEqProofs (disch:=omega) only [push_cast,simprocAttr,kt',↓gd],by rw [hy],by simp -implicitDefEqProofs (disch:=omega) only [push_cast,simprocAttr,k0',↓gd],hfin⟩
 ·have:m=0:=by omega
  subst this
  simp -implicitDefEqProofs (disch:=omega) only [push_cast,simprocAttr,h0,h3,h4,h5,h6,k1,k0,↓gd]
  exact ⟨_,_,Wk.refl _ _ _,l,τ,P,b1,c1,d1,f1,by omega,hl,rfl,by simp -implicitDefEqProofs (disch:=omega) only [push_cast,simprocAttr,kt,↓gd],hτ,by omega,hdr.set (j:=S.length) _ (Nat.le_refl _) v0 (by omega)⟩
end
section
open Go
inductive Spoilt (x:Wo):Wo→Prop where
 | none:Spoilt x x
 | ans:Spoilt x { x with caller:={ x.caller with ans:=true } }
 | up (o:List UInt8):o.length≤10→Spoilt x { x with up:=x.up++o }
 | table (t:List Fd) (m:Int):t.length≤20→(∀f ∈ t,FdS f)→Spoilt x { x with answerer:={ x.answerer with inn:=t,innM:=m } }
 | id (k:Int):0≤k→k < 9→x.caller.strs≠[]→Spoilt x { x with caller:={ x.caller with strs:=x.caller.strs.set 0 { x.caller.strs.getD 0 st0 with id:=k } } }
def Drawn (w:Wo):Prop:=∃l:List Ev,l.length≤58∧(∀v ∈ l,EvS v)∧Spoilt (playM l) w
theorem Drawn.b {w:Wo} (h:Drawn w):WoB w:=by
 obtain ⟨l,hl,hv,hs⟩:=h
 have hW:=playM_w l
 have hB:=hW.b (by omega)
 have hup:=hW.up
 cases hs with
 | none=>exact hB
 | ans=>exact ⟨⟨hB.caller.sts,hB.caller.len,hB.caller.wait,hB.caller.out,hB.caller.inn,hB.caller.came⟩,hB.answerer,hB.up,hB.down⟩
 | up o ho=>exact ⟨hB.caller,hB.answerer,by simp only [List.length_append]; omega,hB.down⟩
 | table t m ht hf=>exact ⟨hB.caller,⟨hB.answerer.sts,hB.answerer.len,hB.answerer.wait,hB.answerer.out,⟨by simp only; omega,fun f hf'=>(hf f hf').b⟩,hB.answerer.came⟩,hB.up,hB.down⟩
 | id k h1 h2 h3 =>
  have hp:=List.length_pos_iff.2 h3
  refine ⟨⟨fun s hs=>?_,by simp only [List.length_set]; exact hB.caller.len,hB.caller.wait,hB.caller.out,hB.caller.inn,hB.caller.came⟩,hB.answerer,hB.up,hB.down⟩
  have h0:=hB.caller.sts _ (getD_memS hp)
  rcases List.mem_or_eq_of_mem_set hs with g | g
  ·exact hB.caller.sts s g
  ·subst g
   exact ⟨h0.head,h0.got,h0.say,h0.text⟩
theorem WoDr.with_ {S:List Blk} {b:Nat} {bs:List UInt8} {P:Nat} {w y:Wo} {b1 c1 d1 f1:Nat} {S':List Blk} (h:WoDr S b bs P w b1 c1 d1 f1 S') (e1:y.caller.strs=w.caller.strs) (e2:y.caller.wait=w.caller.wait) (e3:y.answerer.strs=w.answerer.strs) (e4:y.answerer.wait=w.answerer.wait):WoDr S b bs P y b1 c1 d1 f1 S' :=
 ⟨⟨⟨by rw [e1]; exact h.at_.caller.1,by rw [e2]; exact h.at_.caller.2⟩,⟨by rw [e3]; exact h.at_.answerer.1,by rw [e4]; exact h.at_.answerer.2⟩,h.at_.ne1,h.at_.ne2⟩,h.hb,h.hc,h.hd,h.hf,h.upd,h.rd⟩
theorem l72World_ok (bs:List UInt8) (b p:Nat) (hp:p≤900000) (hbs:bs.length≤2000) (S:List Blk) (hS:S[b]?=some (Rd bs p)) :
  VCall Tryz.prog 62 [.ptr b 0] S fun r S'=>∃(w:Wo) (P b1 c1 d1 f1:Nat),Drawn w∧r=wV b1 c1 d1 f1 w∧P≤p+40000∧WoDr S b bs P w b1 c1 d1 f1 S':=by
 have hbl:=rd_lt hS
 refine VCall.ex hDe (fun _=>false) (fun id=>if id=6 then [8,8,3,5,5,8,8,8,9] else if id=11 then [7,7,7,4,7,7,7,8] else []) Tryz.func62 Tryz.ntmps62 Tryz.results62 ?_
 simp -implicitDefEqProofs (disch:=omega) only [push_cast,simprocAttr,↓gd]
 refine (l72Play_ok bs b p (by omega) hbs _ (by rw [List.getElem?_append_left hbl]; exact hS)).mono ?_
 rintro r S1 ⟨l,τ,P,b1,c1,d1,f1,hl,hv,rfl,hτ,_,hP,hdr⟩
 have hu:S.length+1≤S1.length:=by have:=hdr.upd.1; simpa using this
 have k0:S1[S.length]?=some (.cells 0 zW):=hdr.upd.get (by simp -implicitDefEqProofs (disch:=omega) only [push_cast,simprocAttr,↓gd]) (by simp; omega)
 have hB:=(playM_w l).b (by omega)
 have hdr:WoDr S b bs P (playM l) b1 c1 d1 f1 S1:=⟨hdr.at_,by have:=hdr.hb; simp at this; omega,by have:=hdr.hc; simp at this; omega,by have:=hdr.hd; simp at this; omega,by have:=hdr.hf; simp at this; omega,((Upd.refl [b] S).app _).trans hdr.upd,hdr.rd⟩
 have l0:=lt_of_some k0
 have kr:=hdr.rd
 have lr:=lt_of_some kr
 have sp:=@Spoilt.none (playM l)
 have v0:=hdr.at_.var k0
 have hup:=hB.up
 simp -implicitDefEqProofs (disch:=omega) only [push_cast,simprocAttr,k0,↓gd]
 refine (pickI bs b P 40 _ (by simp) (by omega) (by omega) hbs _ (by rw [List.getElem?_append_left lr]; exact kr)).mono ?_
 rintro r S2 ⟨⟨q,hq,rfl⟩,rfl⟩
 have hS2b:∀B X,(S1.set b B++X)[b]?=some B:=fun B X=>stC lr _ _
 have fin:∀(y:Wo) (Q:Nat) (Z X:List Blk),Spoilt (playM l) y→Q≤p+40000→WoDr S b bs Q y b1 c1 d1 f1 Z→∃r S2,Wk S (wV b1 c1 d1 f1 y) (Z++X) r S2∧∃(w:Wo) (P b1 c1 d1 f1:Nat),Drawn w∧r=wV b1 c1 d1 f1 w∧P≤p+40000∧WoDr S b bs P w b1 c1 d1 f1 S2 :=
  fun y Q Z X h1 h2 h3=>⟨_,_,Wk.refl _ _ _,y,Q,b1,c1,d1,f1,⟨l,hl,hv,h1⟩,rfl,h2,h3.app X⟩
 have hbS:b≠S.length:=by omega
 have hset:=fun Q B=>(hdr.draw Q).set (j:=S.length) B (Nat.le_refl _) v0 hbS
 by_cases q0:q=0
 ·subst q0
  have sp:=@Spoilt.ans (playM l)
  generalize hx:playM l=x at *
  simp -implicitDefEqProofs (disch:=omega) only [push_cast,simprocAttr,k0,stA lr,stB lr,↓gd]
  exact fin _ _ _ _ sp (by omega) ((hset (P+1) _).with_ rfl rfl rfl rfl)
 by_cases q1:q=1
 ·subst q1
  have sp:=fun o ho=>@Spoilt.up (playM l) o ho
  generalize hx:playM l=x at *
  simp -implicitDefEqProofs (disch:=omega) only [push_cast,simprocAttr,k0,stA lr,stB lr,↓gd]
  refine (pickI bs b (P+1) 5 _ (by simp) (by omega) (by omega) hbs _ (hS2b _ _)).mono ?_
  rintro r S2 ⟨⟨y,hy,rfl⟩,rfl⟩
  simp -implicitDefEqProofs (disch:=omega) only [push_cast,simprocAttr,k0,stA lr,stB lr,↓gd]
  refine ((l6Many_ok [120] (3+y) (by simp; omega) (by omega) _).as (by simp)).mono ?_
  rintro r S2 ⟨⟨o,ho,rfl⟩,rfl⟩
  simp at ho
  simp -implicitDefEqProofs (disch:=omega) only [push_cast,simprocAttr,k0,stA lr,stB lr,↓gd]
  repeat refine And.intro (by omega) ?_
  exact fin _ _ _ _ (sp o (by omega)) (by omega) ((hset (P+2) _).with_ rfl rfl rfl rfl)
 by_cases q2:q=2
 ·subst q2
  have sp:=fun t m ht hf=>@Spoilt.table (playM l) t m ht hf
  generalize hx:playM l=x at *
  simp -implicitDefEqProofs (disch:=omega) only [push_cast,simprocAttr,k0,stA lr,stB lr,↓gd]
  refine (l71Table_ok bs b (P+1) (by omega) hbs _ (hS2b _ _)).mono ?_
  rintro r S2 ⟨⟨t,m,ht,hf,_,_,rfl⟩,P2,hP2,rfl⟩
  simp -implicitDefEqProofs (disch:=omega) only [push_cast,simprocAttr,k0,stA lr,stB lr,↓gd]
  exact fin _ _ _ _ (sp t m ht hf) (by omega) ((hset P2 _).with_ rfl rfl rfl rfl)
 by_cases q3:q=3
 ·subst q3
  have sp:=fun k h1 h2 h3=>@Spoilt.id (playM l) k h1 h2 h3
  generalize hx:playM l=x at *
  by_cases hl0:x.caller.strs=[]
  ·have hl0':¬(x.caller.strs.length:Int) > 0:=by rw [hl0]; simp
   have e0:x.caller.strs.length=0:=by rw [hl0]; rfl
   simp -implicitDefEqProofs (disch:=omega) only [push_cast,simprocAttr,k0,stA lr,stB lr,hl0',↓gd]
   exact fin _ _ _ _ .none (by omega) ((hset (P+1) _).with_ rfl rfl rfl rfl)
  ·have hpos:=List.length_pos_iff.2 hl0
   have hgt:(x.caller.strs.length:Int) > 0:=by omega
   simp -implicitDefEqProofs (disch:=omega) only [push_cast,simprocAttr,k0,stA lr,stB lr,hgt,↓gd]
   have hb1:=hdr.at_.caller.1
   have hnes:=hdr.at_.nes
   have v1:=hdr.at_.var (cs:=_) kr
   have hlen:=strsC_len x.caller.strs
   refine (pickI bs b (P+1) 9 _ (by simp) (by omega) (by omega) hbs _ (hS2b _ _)).mono ?_
   rintro r S2 ⟨⟨y,hy,rfl⟩,rfl⟩
   have hput:=strsC_put (l:=x.caller.strs) (i:=0) (c:=0) (v:=.int .i64 y) (s:={ x.caller.strs.getD 0 st0 with id:=y }) hpos (by decide) rfl
   rw [Nat.zero_mul,Nat.add_zero] at hput
   simp -implicitDefEqProofs (disch:=omega) only [push_cast,simprocAttr,k0,stA lr,stB lr,hb1,hput,↓gd]
   repeat refine And.intro (by omega) ?_
   have hdr1:=hdr.draw (P+2)
   obtain ⟨m1,m2,m3,m4,m5,m6,m7,m8⟩:=hdr1.at_.nes
   have m9:=hdr1.at_.ne1; have m10:=hdr1.at_.ne2
   have hdr2:WoDr S b bs (P+2) { x with caller:={ x.caller with strs:=x.caller.strs.set 0 { x.caller.strs.getD 0 st0 with id:=(y:Int) } } } b1 c1 d1 f1 ((S1.set b (Rd bs (P+2))).set b1 (.cells 12 (strsC (x.caller.strs.set 0 { x.caller.strs.getD 0 st0 with id:=(y:Int) })))):=by
    refine ⟨⟨⟨List.getElem?_set_self m5,?_⟩,⟨?_,?_⟩,m9,m10⟩,hdr1.hb,hdr1.hc,hdr1.hd,hdr1.hf,hdr1.upd.set _ (.inl hdr1.hb),?_⟩
    ·rw [get_set_ne m1]; exact hdr1.at_.caller.2
    ·rw [get_set_ne m9]; exact hdr1.at_.answerer.1
    ·rw [get_set_ne m3]; exact hdr1.at_.answerer.2
    ·rw [get_set_ne v1.1]; exact hdr1.rd
   refine ⟨_,_,Wk.refl _ _ _,_,P+2,b1,c1,d1,f1,⟨l,hl,hv,by rw [hx]; exact sp y (by omega) (by omega) hl0⟩,by simp [wV,wC,enC],by omega,(hdr2.set (j:=S.length) _ (Nat.le_refl _) v0 hbS).app _⟩
 have j0:¬(q:Int)=0:=by omega
 have j1:¬(q:Int)=1:=by omega
 have j2:¬(q:Int)=2:=by omega
 have j3:¬(q:Int)=3:=by omega
 generalize hx:playM l=x at *
 simp -implicitDefEqProofs (disch:=omega) only [push_cast,simprocAttr,k0,stA lr,stB lr,j0,j1,j2,j3,↓gd]
 exact fin _ _ _ _ sp (by omega) ((hset (P+1) _).with_ rfl rfl rfl rfl)
end
section
open Go
def DrawnE (e:En) (wire:List UInt8):Prop:=∃w:Wo,Drawn w∧((e=w.caller∧wire=w.down)∨(e=w.answerer∧wire=w.up))
theorem DrawnE.b {e:En} {wire:List UInt8} (h:DrawnE e wire):EnB e∧wire.length≤1100000:=by
 obtain ⟨w,hd,h⟩:=h
 have hB:=hd.b
 rcases h with ⟨rfl,rfl⟩ | ⟨rfl,rfl⟩
 ·exact ⟨hB.caller,hB.down⟩
 ·exact ⟨hB.answerer,hB.up⟩
structure EnDr (S:List Blk) (b:Nat) (bs:List UInt8) (P:Nat) (e:En) (b1 c1:Nat) (S':List Blk):Prop where
 at_:EnAt S' b1 c1 e
 hb:S.length≤b1
 hc:S.length≤c1
 upd:Upd [b] S S'
 rd:S'[b]?=some (Rd bs P)
theorem EnAt.var {S:List Blk} {b c:Nat} {e:En} (h:EnAt S b c e) {j:Nat} {cs:List V} (hj:S[j]?=some (.cells 0 cs)):b≠j∧c≠j:=⟨cells_ne h.1 hj (by decide),cells_ne h.2 hj (by decide)⟩
theorem EnDr.set {S:List Blk} {b:Nat} {bs:List UInt8} {P:Nat} {e:En} {b1 c1:Nat} {S':List Blk} (h:EnDr S b bs P e b1 c1 S') {j:Nat} (B:Blk) (hj:S.length≤j) (hn:b1≠j∧c1≠j) (hb:b≠j):EnDr S b bs P e b1 c1 (S'.set j B) :=
 ⟨h.at_.set B hn.1 hn.2,h.hb,h.hc,h.upd.set B (.inl hj),by rw [get_set_ne (Ne.symm hb)]; exact h.rd⟩
theorem EnDr.app {S:List Blk} {b:Nat} {bs:List UInt8} {P:Nat} {e:En} {b1 c1:Nat} {S':List Blk} (h:EnDr S b bs P e b1 c1 S') (X:List Blk):EnDr S b bs P e b1 c1 (S'++X) :=
 ⟨h.at_.app X,h.hb,h.hc,h.upd.app X,by rw [List.getElem?_append_left (lt_of_some h.rd)]; exact h.rd⟩
theorem EnDr.draw {S:List Blk} {b:Nat} {bs:List UInt8} {P:Nat} {e:En} {b1 c1:Nat} {S':List Blk} (h:EnDr S b bs P e b1 c1 S') (Q:Nat):EnDr S b bs Q e b1 c1 (S'.set b (Rd bs Q)) :=
 ⟨h.at_.set _ (h.at_.var (cs:=_) h.rd).1 (h.at_.var (cs:=_) h.rd).2,h.hb,h.hc,h.upd.set _ (.inr (by simp)),List.getElem?_set_self (lt_of_some h.rd)⟩
theorem WoDr.mk' {S X:List Blk} {b:Nat} {bs:List UInt8} {P:Nat} {w:Wo} {b1 c1 d1 f1:Nat} {S':List Blk} (h:WoDr (S++X) b bs P w b1 c1 d1 f1 S'):WoDr S b bs P w b1 c1 d1 f1 S':=by
 have h1:=h.hb; have h2:=h.hc; have h3:=h.hd; have h4:=h.hf
 rw [List.length_append] at h1 h2 h3 h4
 exact ⟨h.at_,by omega,by omega,by omega,by omega,((Upd.refl [b] S).app X).trans h.upd,h.rd⟩
theorem EnDr.mk' {S X:List Blk} {b:Nat} {bs:List UInt8} {P:Nat} {w:En} {b1 c1:Nat} {S':List Blk} (h:EnDr (S++X) b bs P w b1 c1 S'):EnDr S b bs P w b1 c1 S':=by
 have h1:=h.hb; have h2:=h.hc
 rw [List.length_append] at h1 h2
 exact ⟨h.at_,by omega,by omega,((Upd.refl [b] S).app X).trans h.upd,h.rd⟩
theorem l72End_ok (bs:List UInt8) (b p:Nat) (hp:p≤900000) (hbs:bs.length≤2000) (S:List Blk) (hS:S[b]?=some (Rd bs p)) :
  VCall Tryz.prog 37 [.ptr b 0] S fun r S'=>∃(e:En) (wire:List UInt8) (P b1 c1:Nat),DrawnE e wire∧r=.tup [eV b1 c1 e,.str wire]∧P≤p+40001∧EnDr S b bs P e b1 c1 S':=by
 have hbl:=rd_lt hS
 refine VCall.ex hDe (fun _=>false) (fun id=>if id=3 then [4,4,6,6,6,6] else if id=4 then [4,4,6,6,6,6] else []) Tryz.func37 Tryz.ntmps37 Tryz.results37 ?_
 simp -implicitDefEqProofs (disch:=omega) only [push_cast,simprocAttr,↓gd]
 refine (l72World_ok bs b p hp hbs _ (by rw [List.getElem?_append_left hbl]; exact hS)).mono ?_
 rintro r S1 ⟨w,P,b1,c1,d1,f1,hw,rfl,hP,hdr⟩
 have k0:S1[S.length]?=some (.cells 0 zE):=hdr.upd.get (by simp -implicitDefEqProofs (disch:=omega) only [push_cast,simprocAttr,↓gd]) (by simp; omega)
 have hdr:=hdr.mk'
 have l0:=lt_of_some k0
 have kr:=hdr.rd
 have lr:=lt_of_some kr
 have v0:=hdr.at_.var k0
 have hbS:b≠S.length:=by omega
 simp -implicitDefEqProofs (disch:=omega) only [push_cast,simprocAttr,k0,↓gd]
 refine (pickI bs b P 2 _ (by simp) (by omega) (by omega) hbs _ (by rw [List.getElem?_append_left lr]; exact kr)).mono ?_
 rintro r S2 ⟨⟨q,hq,rfl⟩,rfl⟩
 have hd1:=hdr.draw (P+1)
 have hset:=fun B=>hd1.set (j:=S.length) B (Nat.le_refl _) v0 hbS
 rcases (by omega:q=0∨q=1) with rfl | rfl
 ·simp -implicitDefEqProofs (disch:=omega) only [push_cast,simprocAttr,k0,stA lr,stB lr,↓gd]
  exact ⟨_,_,Wk.refl _ _ _,w.caller,w.down,P+1,b1,c1,⟨w,hw,.inl ⟨rfl,rfl⟩⟩,rfl,by omega,⟨(hset _).at_.caller.app _,hdr.hb,hdr.hc,(hset _).upd.app _,by rw [List.getElem?_append_left (lt_of_some (hset _).rd)]; exact (hset _).rd⟩⟩
 ·simp -implicitDefEqProofs (disch:=omega) only [push_cast,simprocAttr,k0,stA lr,stB lr,↓gd]
  exact ⟨_,_,Wk.refl _ _ _,w.answerer,w.up,P+1,d1,f1,⟨w,hw,.inr ⟨rfl,rfl⟩⟩,rfl,by omega,⟨(hset _).at_.answerer.app _,hdr.hd,hdr.hf,(hset _).upd.app _,by rw [List.getElem?_append_left (lt_of_some (hset _).rd)]; exact (hset _).rd⟩⟩
end
section
open Go
theorem three {a b c:Int} {x:Nat} (h:x < 3):∃z:Int,[V.int .i64 a,V.int .i64 b,V.int .i64 c].getD x .junk=.int .i64 z:=by
 rcases (by omega:x=0∨x=1∨x=2) with rfl | rfl | rfl <;> exact ⟨_,rfl⟩
end
section
open Go
theorem four {a b c d:Int} {x:Nat} (hx:x < 4):∃z:Int,((z=a∨z=b)∨(z=c∨z=d))∧[V.int .i64 a,V.int .i64 b,V.int .i64 c,V.int .i64 d].getD x .junk=.int .i64 z:=by
 rcases (by omega:x=0∨x=1∨x=2∨x=3) with rfl | rfl | rfl | rfl
 ·exact ⟨a,.inl (.inl rfl),rfl⟩
 ·exact ⟨b,.inl (.inr rfl),rfl⟩
 ·exact ⟨c,.inr (.inl rfl),rfl⟩
 ·exact ⟨d,.inr (.inr rfl),rfl⟩
def FrB (f:Fr):Prop:=0≤f.kind∧0≤f.stream∧f.body.length≤1000
theorem frV_cl (n:Nat) (f:Fr):Cl n (frV f):=by
 refine .agg ?_
 simp only [frmC,List.mem_cons,List.not_mem_nil,or_false,forall_eq_or_imp,forall_eq]
 exact ⟨.int _ _,.bool _,.int _ _,.str _⟩
theorem l71Frame_ok (bs:List UInt8) (b p:Nat) (hp:p≤10000000) (hbs:bs.length≤2000) (S:List Blk) (hS:S[b]?=some (Rd bs p)) :
  VCall Tryz.prog 40 [.ptr b 0] S fun r S'=>(∃f:Fr,FrB f∧r=frV f)∧∃p',p'≤p+200∧S'=S.set b (Rd bs p'):=by
 have hbl:=rd_lt hS
 have hS2b:∀B X,(S.set b B++X)[b]?=some B:=fun B X=>stC hbl _ _
 have fin:∀(f:Fr) (P:Nat) (X:List Blk),FrB f→P≤p+200→∃r S2,Wk S (frV f) (S.set b (Rd bs P)++X) r S2∧(∃f:Fr,FrB f∧r=frV f)∧∃p',p'≤p+200∧S2=S.set b (Rd bs p') :=
  fun v P X h1 h2=>⟨_,_,finS (frV_cl _ v),⟨v,h1,rfl⟩,P,h2,rfl⟩
 refine VCall.ex hD (fun f=> if f=none then true else false) (fun id=>if id=1 then [11,11,1000000,11,11,11,1000000,11,11,11,1000000,12,10] else if id=9 then [6,6,3,6,6,6,7] else []) Tryz.func40 Tryz.ntmps40 Tryz.results40 ?_
 simp -implicitDefEqProofs (disch:=omega) only [push_cast,simprocAttr,↓gd]
 refine (pickI bs b p 4 _ (by simp) (by omega) (by omega) hbs _ (by rw [List.getElem?_append_left hbl]; exact hS)).mono ?_
 rintro r S1 ⟨⟨q1,hq1,rfl⟩,rfl⟩
 obtain ⟨z,hz4,hz⟩:=four (a:=0) (b:=1) (c:=3) (d:=8) hq1
 simp -implicitDefEqProofs (disch:=omega) only [push_cast,simprocAttr,stA hbl,stB hbl,hz,↓gd]
 repeat refine And.intro (by omega) ?_
 refine (pickI bs b (p+1) 4 _ (by simp) (by omega) (by omega) hbs _ (hS2b _ _)).mono ?_
 rintro r S1 ⟨⟨q2,hq2,rfl⟩,rfl⟩
 rcases hz4 with (rfl | rfl) | (rfl | rfl)
 ·simp -implicitDefEqProofs (disch:=omega) only [push_cast,simprocAttr,stA hbl,stB hbl,↓gd]
  refine ⟨rfl,?_⟩
  refine (pickI bs b (p+2) 2 _ (by simp) (by omega) (by omega) hbs _ (hS2b _ _)).mono ?_
  rintro r S1 ⟨⟨q3,hq3,rfl⟩,rfl⟩
  simp -implicitDefEqProofs (disch:=omega) only [push_cast,simprocAttr,stA hbl,stB hbl,↓gd]
  refine (l71Word_ok bs b (p+3) (by omega) hbs _ (hS2b _ _)).mono ?_
  rintro r S1 ⟨⟨s,hs,rfl⟩,P,hP,rfl⟩
  simp -implicitDefEqProofs (disch:=omega) only [push_cast,simprocAttr,stA hbl,stB hbl,↓gd]
  refine (pickI bs b (P) 24 _ (by simp) (by omega) (by omega) hbs _ (hS2b _ _)).mono ?_
  rintro r S1 ⟨⟨q9,hq9,rfl⟩,rfl⟩
  have hb9:(s:List UInt8).length≤1000:=by omega
  by_cases e0:q9=0
  ·subst e0
   simp -implicitDefEqProofs (disch:=omega) only [push_cast,simprocAttr,stA hbl,stB hbl,↓gd]
   refine (pickI bs b (P+1) 10 _ (by simp) (by omega) (by omega) hbs _ (hS2b _ _)).mono ?_
   rintro r S1 ⟨⟨x,hx,rfl⟩,rfl⟩
   simp -implicitDefEqProofs (disch:=omega) only [push_cast,simprocAttr,stA hbl,stB hbl,↓gd]
   exact fin ⟨x,(decide ((q3:Int)=0)),(1+2 * q2),s⟩ (P+2) _ ⟨by simp only; omega,by simp only; omega,hb9⟩ (by omega)
  by_cases e1:q9=1
  ·subst e1
   simp -implicitDefEqProofs (disch:=omega) only [push_cast,simprocAttr,stA hbl,stB hbl,↓gd]
   refine (pickI bs b (P+1) 10 _ (by simp) (by omega) (by omega) hbs _ (hS2b _ _)).mono ?_
   rintro r S1 ⟨⟨x,hx,rfl⟩,rfl⟩
   simp -implicitDefEqProofs (disch:=omega) only [push_cast,simprocAttr,stA hbl,stB hbl,↓gd]
   exact fin ⟨0,(decide ((q3:Int)=0)),x,s⟩ (P+2) _ ⟨by simp only; omega,by simp only; omega,hb9⟩ (by omega)
  by_cases e2:q9=2
  ·subst e2
   simp -implicitDefEqProofs (disch:=omega) only [push_cast,simprocAttr,stA hbl,stB hbl,↓gd]
   refine (pickI bs b (P+1) 10 _ (by simp) (by omega) (by omega) hbs _ (hS2b _ _)).mono ?_
   rintro r S1 ⟨⟨x,hx,rfl⟩,rfl⟩
   simp -implicitDefEqProofs (disch:=omega) only [push_cast,simprocAttr,stA hbl,stB hbl,↓gd]
   refine ((l6Many_ok [120] (195+x) (by simp; omega) (by omega) _).as (by simp)).mono ?_
   rintro r S1 ⟨⟨u,hu,rfl⟩,rfl⟩
   simp at hu
   simp -implicitDefEqProofs (disch:=omega) only [push_cast,simprocAttr,stA hbl,stB hbl,↓gd]
   exact fin ⟨0,(decide ((q3:Int)=0)),(1+2 * q2),u⟩ (P+2) _ ⟨by simp only; omega,by simp only; omega,by simp only; omega⟩ (by omega)
  have j0:¬(q9:Int)=0:=by omega
  have j1:¬(q9:Int)=1:=by omega
  have j2:¬(q9:Int)=2:=by omega
  simp -implicitDefEqProofs (disch:=omega) only [push_cast,simprocAttr,stA hbl,stB hbl,j0,j1,j2,↓gd]
  exact fin ⟨0,(decide ((q3:Int)=0)),(1+2 * q2),s⟩ (P+1) _ ⟨by simp only; omega,by simp only; omega,hb9⟩ (by omega)
 ·simp -implicitDefEqProofs (disch:=omega) only [push_cast,simprocAttr,stA hbl,stB hbl,↓gd]
  refine ⟨rfl,?_⟩
  refine (pickI bs b (p+2) 2 _ (by simp) (by omega) (by omega) hbs _ (hS2b _ _)).mono ?_
  rintro r S1 ⟨⟨q3,hq3,rfl⟩,rfl⟩
  simp -implicitDefEqProofs (disch:=omega) only [push_cast,simprocAttr,stA hbl,stB hbl,↓gd]
  refine (l71Word_ok bs b (p+3) (by omega) hbs _ (hS2b _ _)).mono ?_
  rintro r S1 ⟨⟨s,hs,rfl⟩,P,hP,rfl⟩
  simp -implicitDefEqProofs (disch:=omega) only [push_cast,simprocAttr,stA hbl,stB hbl,↓gd]
  refine (pickI bs b (P) 24 _ (by simp) (by omega) (by omega) hbs _ (hS2b _ _)).mono ?_
  rintro r S1 ⟨⟨q9,hq9,rfl⟩,rfl⟩
  have hb9:(s:List UInt8).length≤1000:=by omega
  by_cases e0:q9=0
  ·subst e0
   simp -implicitDefEqProofs (disch:=omega) only [push_cast,simprocAttr,stA hbl,stB hbl,↓gd]
   refine (pickI bs b (P+1) 10 _ (by simp) (by omega) (by omega) hbs _ (hS2b _ _)).mono ?_
   rintro r S1 ⟨⟨x,hx,rfl⟩,rfl⟩
   simp -implicitDefEqProofs (disch:=omega) only [push_cast,simprocAttr,stA hbl,stB hbl,↓gd]
   exact fin ⟨x,(decide ((q3:Int)=0)),(1+2 * q2),s⟩ (P+2) _ ⟨by simp only; omega,by simp only; omega,hb9⟩ (by omega)
  by_cases e1:q9=1
  ·subst e1
   simp -implicitDefEqProofs (disch:=omega) only [push_cast,simprocAttr,stA hbl,stB hbl,↓gd]
   refine (pickI bs b (P+1) 10 _ (by simp) (by omega) (by omega) hbs _ (hS2b _ _)).mono ?_
   rintro r S1 ⟨⟨x,hx,rfl⟩,rfl⟩
   simp -implicitDefEqProofs (disch:=omega) only [push_cast,simprocAttr,stA hbl,stB hbl,↓gd]
   exact fin ⟨1,(decide ((q3:Int)=0)),x,s⟩ (P+2) _ ⟨by simp only; omega,by simp only; omega,hb9⟩ (by omega)
  by_cases e2:q9=2
  ·subst e2
   simp -implicitDefEqProofs (disch:=omega) only [push_cast,simprocAttr,stA hbl,stB hbl,↓gd]
   refine (pickI bs b (P+1) 10 _ (by simp) (by omega) (by omega) hbs _ (hS2b _ _)).mono ?_
   rintro r S1 ⟨⟨x,hx,rfl⟩,rfl⟩
   simp -implicitDefEqProofs (disch:=omega) only [push_cast,simprocAttr,stA hbl,stB hbl,↓gd]
   refine ((l6Many_ok [120] (195+x) (by simp; omega) (by omega) _).as (by simp)).mono ?_
   rintro r S1 ⟨⟨u,hu,rfl⟩,rfl⟩
   simp at hu
   simp -implicitDefEqProofs (disch:=omega) only [push_cast,simprocAttr,stA hbl,stB hbl,↓gd]
   exact fin ⟨1,(decide ((q3:Int)=0)),(1+2 * q2),u⟩ (P+2) _ ⟨by simp only; omega,by simp only; omega,by simp only; omega⟩ (by omega)
  have j0:¬(q9:Int)=0:=by omega
  have j1:¬(q9:Int)=1:=by omega
  have j2:¬(q9:Int)=2:=by omega
  simp -implicitDefEqProofs (disch:=omega) only [push_cast,simprocAttr,stA hbl,stB hbl,j0,j1,j2,↓gd]
  exact fin ⟨1,(decide ((q3:Int)=0)),(1+2 * q2),s⟩ (P+1) _ ⟨by simp only; omega,by simp only; omega,hb9⟩ (by omega)
 ·simp -implicitDefEqProofs (disch:=omega) only [push_cast,simprocAttr,stA hbl,stB hbl,↓gd]
  refine ⟨rfl,?_⟩
  refine (pickI bs b (p+2) 24 _ (by simp) (by omega) (by omega) hbs _ (hS2b _ _)).mono ?_
  rintro r S1 ⟨⟨q9,hq9,rfl⟩,rfl⟩
  have hb9:([]:List UInt8).length≤1000:=by simp
  by_cases e0:q9=0
  ·subst e0
   simp -implicitDefEqProofs (disch:=omega) only [push_cast,simprocAttr,stA hbl,stB hbl,↓gd]
   refine (pickI bs b (p+2+1) 10 _ (by simp) (by omega) (by omega) hbs _ (hS2b _ _)).mono ?_
   rintro r S1 ⟨⟨x,hx,rfl⟩,rfl⟩
   simp -implicitDefEqProofs (disch:=omega) only [push_cast,simprocAttr,stA hbl,stB hbl,↓gd]
   exact fin ⟨x,false,(1+2 * q2),[]⟩ (p+2+2) _ ⟨by simp only; omega,by simp only; omega,hb9⟩ (by omega)
  by_cases e1:q9=1
  ·subst e1
   simp -implicitDefEqProofs (disch:=omega) only [push_cast,simprocAttr,stA hbl,stB hbl,↓gd]
   refine (pickI bs b (p+2+1) 10 _ (by simp) (by omega) (by omega) hbs _ (hS2b _ _)).mono ?_
   rintro r S1 ⟨⟨x,hx,rfl⟩,rfl⟩
   simp -implicitDefEqProofs (disch:=omega) only [push_cast,simprocAttr,stA hbl,stB hbl,↓gd]
   exact fin ⟨3,false,x,[]⟩ (p+2+2) _ ⟨by simp only; omega,by simp only; omega,hb9⟩ (by omega)
  by_cases e2:q9=2
  ·subst e2
   simp -implicitDefEqProofs (disch:=omega) only [push_cast,simprocAttr,stA hbl,stB hbl,↓gd]
   refine (pickI bs b (p+2+1) 10 _ (by simp) (by omega) (by omega) hbs _ (hS2b _ _)).mono ?_
   rintro r S1 ⟨⟨x,hx,rfl⟩,rfl⟩
   simp -implicitDefEqProofs (disch:=omega) only [push_cast,simprocAttr,stA hbl,stB hbl,↓gd]
   refine ((l6Many_ok [120] (195+x) (by simp; omega) (by omega) _).as (by simp)).mono ?_
   rintro r S1 ⟨⟨u,hu,rfl⟩,rfl⟩
   simp at hu
   simp -implicitDefEqProofs (disch:=omega) only [push_cast,simprocAttr,stA hbl,stB hbl,↓gd]
   exact fin ⟨3,false,(1+2 * q2),u⟩ (p+2+2) _ ⟨by simp only; omega,by simp only; omega,by simp only; omega⟩ (by omega)
  have j0:¬(q9:Int)=0:=by omega
  have j1:¬(q9:Int)=1:=by omega
  have j2:¬(q9:Int)=2:=by omega
  simp -implicitDefEqProofs (disch:=omega) only [push_cast,simprocAttr,stA hbl,stB hbl,j0,j1,j2,↓gd]
  exact fin ⟨3,false,(1+2 * q2),[]⟩ (p+2+1) _ ⟨by simp only; omega,by simp only; omega,hb9⟩ (by omega)
 ·simp -implicitDefEqProofs (disch:=omega) only [push_cast,simprocAttr,stA hbl,stB hbl,↓gd]
  refine ⟨rfl,?_⟩
  refine (pickI bs b (p+2) 31 _ (by simp) (by omega) (by omega) hbs _ (hS2b _ _)).mono ?_
  rintro r S1 ⟨⟨q3,hq3,rfl⟩,rfl⟩
  simp -implicitDefEqProofs (disch:=omega) only [push_cast,simprocAttr,stA hbl,stB hbl,↓gd]
  have e1:(1:Int)+q3=((1+q3:Nat):Int):=by omega
  refine ((l1Byte_ok (1+q3) _).as (by rw [←e1])).to ?_
  simp -implicitDefEqProofs (disch:=omega) only [push_cast,simprocAttr,stA hbl,stB hbl,↓gd]
  refine (pickI bs b (p+3) 2 _ (by simp) (by omega) (by omega) hbs _ (hS2b _ _)).mono ?_
  rintro r S1 ⟨⟨q4,hq4,rfl⟩,rfl⟩
  have e2:∃y:Nat,((1:Int)+2 * q2) * q4=y∧y≤1000:=by
   rcases (by omega:q4=0∨q4=1) with rfl | rfl
   ·exact ⟨0,by simp,by omega⟩
   ·exact ⟨1+2 * q2,by simp,by omega⟩
  obtain ⟨y,hy,hy2⟩:=e2
  simp -implicitDefEqProofs (disch:=omega) only [push_cast,simprocAttr,stA hbl,stB hbl,hy,↓gd]
  refine (pickI bs b (p+4) 24 _ (by simp) (by omega) (by omega) hbs _ (hS2b _ _)).mono ?_
  rintro r S1 ⟨⟨q9,hq9,rfl⟩,rfl⟩
  have hb9:([by8 (1+q3)]:List UInt8).length≤1000:=by simp
  by_cases e0:q9=0
  ·subst e0
   simp -implicitDefEqProofs (disch:=omega) only [push_cast,simprocAttr,stA hbl,stB hbl,↓gd]
   refine (pickI bs b (p+4+1) 10 _ (by simp) (by omega) (by omega) hbs _ (hS2b _ _)).mono ?_
   rintro r S1 ⟨⟨x,hx,rfl⟩,rfl⟩
   simp -implicitDefEqProofs (disch:=omega) only [push_cast,simprocAttr,stA hbl,stB hbl,↓gd]
   exact fin ⟨x,false,y,[by8 (1+q3)]⟩ (p+4+2) _ ⟨by simp only; omega,by simp only; omega,hb9⟩ (by omega)
  by_cases e1:q9=1
  ·subst e1
   simp -implicitDefEqProofs (disch:=omega) only [push_cast,simprocAttr,stA hbl,stB hbl,↓gd]
   refine (pickI bs b (p+4+1) 10 _ (by simp) (by omega) (by omega) hbs _ (hS2b _ _)).mono ?_
   rintro r S1 ⟨⟨x,hx,rfl⟩,rfl⟩
   simp -implicitDefEqProofs (disch:=omega) only [push_cast,simprocAttr,stA hbl,stB hbl,↓gd]
   exact fin ⟨8,false,x,[by8 (1+q3)]⟩ (p+4+2) _ ⟨by simp only; omega,by simp only; omega,hb9⟩ (by omega)
  by_cases e2:q9=2
  ·subst e2
   simp -implicitDefEqProofs (disch:=omega) only [push_cast,simprocAttr,stA hbl,stB hbl,↓gd]
   refine (pickI bs b (p+4+1) 10 _ (by simp) (by omega) (by omega) hbs _ (hS2b _ _)).mono ?_
   rintro r S1 ⟨⟨x,hx,rfl⟩,rfl⟩
   simp -implicitDefEqProofs (disch:=omega) only [push_cast,simprocAttr,stA hbl,stB hbl,↓gd]
   refine ((l6Many_ok [120] (195+x) (by simp; omega) (by omega) _).as (by simp)).mono ?_
   rintro r S1 ⟨⟨u,hu,rfl⟩,rfl⟩
   simp at hu
   simp -implicitDefEqProofs (disch:=omega) only [push_cast,simprocAttr,stA hbl,stB hbl,↓gd]
   exact fin ⟨8,false,y,u⟩ (p+4+2) _ ⟨by simp only; omega,by simp only; omega,by simp only; omega⟩ (by omega)
  have j0:¬(q9:Int)=0:=by omega
  have j1:¬(q9:Int)=1:=by omega
  have j2:¬(q9:Int)=2:=by omega
  simp -implicitDefEqProofs (disch:=omega) only [push_cast,simprocAttr,stA hbl,stB hbl,j0,j1,j2,↓gd]
  exact fin ⟨8,false,y,[by8 (1+q3)]⟩ (p+4+1) _ ⟨by simp only; omega,by simp only; omega,hb9⟩ (by omega)
end
section
open Go
theorem EnDr.new {S:List Blk} {b:Nat} {bs:List UInt8} {P:Nat} {e:En} {b1 c1:Nat} {S':List Blk} (h:EnDr S b bs P e b1 c1 S') (hb:S.length≤b):EnNew S e b1 c1 S' :=
 ⟨h.at_,h.hb,h.hc,(Upd.refl [] S).then_ h.upd (fun j hj hm=>by simp at hm; omega)⟩
theorem sFrameWrite_ok (f:Fr) (hf:FrB f) (S:List Blk):VCall Tryz.prog 39 [frV f] S fun r S'=>r=.str (if frameOk f then frW f else [])∧S'=S:=by
 refine VCall.en hD Tryz.func39 Tryz.ntmps39 Tryz.results39 ?_
 simp -implicitDefEqProofs (disch:=omega) only [push_cast,simprocAttr,↓gd]
 refine ((sFrameOk_ok f _).as rfl).to ?_
 cases hE:frameOk f
 ·simp -implicitDefEqProofs (disch:=omega) only [push_cast,simprocAttr,↓gd]
  exact fin1 (.str _) rfl
 ·simp -implicitDefEqProofs (disch:=omega) only [push_cast,simprocAttr,↓gd]
  refine ((l12Write_ok f hf.1 hf.2.1 (by have:=hf.2.2; omega) _).as rfl).to ?_
  simp -implicitDefEqProofs (disch:=omega) only [push_cast,simprocAttr,↓gd]
  exact fin1 (.str _) rfl
theorem DrawEndHear_ok (code:List UInt8) (hc:code.length≤1073741824) (S:List Blk) :
  VCall Tryz.prog 11 [.rows none (code.map u8V)] S fun r S'=>∃(e:En) (bs:List UInt8) (b1 c1:Nat),(∃wire,DrawnE e wire)∧bs.length≤300∧r=.tup [eV b1 c1 e,.str bs]∧EnNew S e b1 c1 S':=by
 refine VCall.ex hD (fun _=>false) (fun id=>if id=5 then [4,2,3,4,6,6] else if id=7 then [10,12,12,12,12,12,7,8,10,12,12,12] else if id=8 then [9,11,11,11,5,9,11,11,11,11,11] else []) Tryz.func11 Tryz.ntmps11 Tryz.results11 ?_
 simp -implicitDefEqProofs (disch:=omega) only [push_cast,simprocAttr,↓gd]
 refine (l6Open_ok code hc _).to ?_
 simp -implicitDefEqProofs (disch:=omega) only [push_cast,simprocAttr,↓gd]
 generalize hbs:code.take 2000=bs
 have hbl:bs.length≤2000:=by rw [←hbs,List.length_take]; omega
 refine (l72End_ok bs (S.length+1) 0 (by omega) hbl _ (by simp -implicitDefEqProofs (disch:=omega) only [push_cast,simprocAttr,↓gd])).mono ?_
 rintro r S1 ⟨e,wire,P,b1,c1,he,rfl,hP,hdr⟩
 have k0:S1[S.length]?=some (.cells 0 zE):=hdr.upd.get (by simp -implicitDefEqProofs (disch:=omega) only [push_cast,simprocAttr,↓gd]) (by simp)
 have hdr:EnDr S (S.length+1) bs P e b1 c1 S1:=hdr.mk'
 have kr:=hdr.rd
 have lr:=lt_of_some kr
 have v0:=hdr.at_.var k0
 obtain ⟨hB,hwl⟩:=he.b
 have hS2b:∀B X,(S1.set (S.length+1) B++X)[S.length+1]?=some B:=fun B X=>stC lr _ _
 have fin:∀(Q:Nat) (o:List UInt8) (X:List Blk),o.length≤300→∃r S2,Wk S (.tup [eV b1 c1 e,.str o]) ((S1.set (S.length+1) (Rd bs Q)).set S.length (.cells 0 (enC (.heap b1 e.strs.length) (.heap c1 e.wait.length) e))++X) r S2 ∧
   ∃(e:En) (bs:List UInt8) (b1 c1:Nat),(∃wire,DrawnE e wire)∧bs.length≤300∧r=.tup [eV b1 c1 e,.str bs]∧EnNew S e b1 c1 S2:=by
  intro Q o X ho
  exact ⟨_,_,Wk.refl _ _ _,e,o,b1,c1,⟨wire,he⟩,ho,rfl,(((hdr.draw Q).set (j:=S.length) _ (Nat.le_refl _) v0 (by omega)).app X).new (by omega)⟩
 simp -implicitDefEqProofs (disch:=omega) only [push_cast,simprocAttr,k0,↓gd]
 refine (pickI bs (S.length+1) P 8 _ (by simp) (by omega) (by omega) hbl _ (by rw [List.getElem?_append_left lr]; exact kr)).mono ?_
 rintro r S2 ⟨⟨q,hq,rfl⟩,rfl⟩
 by_cases q0:q=0
 ·subst q0
  simp -implicitDefEqProofs (disch:=omega) only [push_cast,simprocAttr,stA lr,stB lr,↓gd]
  refine (l71Frame_ok bs (S.length+1) (P+1) (by omega) hbl _ (hS2b _ _)).mono ?_
  rintro r S2 ⟨⟨f,hf,rfl⟩,P2,hP2,rfl⟩
  simp -implicitDefEqProofs (disch:=omega) only [push_cast,simprocAttr,stA lr,stB lr,↓gd]
  refine ((sFrameWrite_ok f hf _).as rfl).to ?_
  simp -implicitDefEqProofs (disch:=omega) only [push_cast,simprocAttr,stA lr,stB lr,k0,↓gd]
  refine fin P2 _ _ ?_
  split
  ·rename_i hfo; rw [frW_len]; have:=(frameOk_nat hfo).2.2; omega
  ·simp
 by_cases q1:q=1
 ·subst q1
  have emin:(if (40:Int) < (wire.length:Int) then (40:Int) else (wire.length:Int))=((min wire.length 40:Nat):Int):=by omega
  simp -implicitDefEqProofs (disch:=omega) only [push_cast,simprocAttr,stA lr,stB lr,emin,↓gd]
  refine ⟨by omega,by omega,?_⟩
  refine (pickI bs (S.length+1) (P+1) 256 _ (by simp) (by omega) (by omega) hbl _ (hS2b _ _)).mono ?_
  rintro r S2 ⟨⟨x,hx,rfl⟩,rfl⟩
  simp -implicitDefEqProofs (disch:=omega) only [push_cast,simprocAttr,stA lr,stB lr,k0,↓gd]
  refine (l1Byte_ok x _).to ?_
  simp -implicitDefEqProofs (disch:=omega) only [push_cast,simprocAttr,stA lr,stB lr,k0,↓gd]
  refine ⟨by simp; omega,?_⟩
  refine fin (P+2) _ _ ?_
  simp
  omega
 have j0:¬(q:Int)=0:=by omega
 have j1:¬(q:Int)=1:=by omega
 simp -implicitDefEqProofs (disch:=omega) only [push_cast,simprocAttr,stA lr,stB lr,j0,j1,↓gd]
 refine (pickI bs (S.length+1) (P+1) 90 _ (by simp) (by omega) (by omega) hbl _ (hS2b _ _)).mono ?_
 rintro r S2 ⟨⟨x,hx,rfl⟩,rfl⟩
 have emin:(if ((1:Int)+x) < (wire.length:Int) then ((1:Int)+x) else (wire.length:Int))=((min wire.length (1+x):Nat):Int):=by omega
 simp -implicitDefEqProofs (disch:=omega) only [push_cast,simprocAttr,stA lr,stB lr,k0,emin,↓gd]
 repeat refine And.intro (by omega) ?_
 refine fin (P+2) _ _ ?_
 simp
 omega
end
section
open Go
theorem lkFields_self (a:List Fd) (ha:a.length≤2000000) (S:List Blk):VCall Tryz.prog 75 [.rows none (a.map fV),.rows none (a.map fV)] S fun r S'=>r=.bool true∧S'=S:=by
 have h:=lkFields_ok a a ha ha S
 rw [decide_eq_true rfl] at h
 exact h
end
end Go.Proofs.YtaamlddnpamomaaGreatDoor
