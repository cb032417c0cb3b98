/- A part of the proof: contracts of functions, or plain facts on which these lean. -/
import Derived.Test.YtodjmflbakfmjaaGreatDoorMb19
import Derived.Test.YtodjmflbakfmjaaGreatDoorMb25
import Derived.Test.YtodjmflbakfmjaaGreatDoorMb33
namespace Go.Proofs.YtodjmflbakfmjaaGreatDoor
open Go
set_option linter.unusedVariables false
set_option linter.unusedSimpArgs false
set_option maxRecDepth 100000
set_option maxHeartbeats 16000000

section
open Go
structure WoDr (S:List Blk) (b:Nat) (bs:List UInt8) (P:Nat) (w:Wo) (b1 c1 d1 f1:Nat) (S':List Blk):Prop where
 at_:WoAt S' b1 c1 d1 f1 w
 hb:S.length≤b1
 hc:S.length≤c1
 hd:S.length≤d1
 hf:S.length≤f1
 upd:Upd [b] S S'
 rd:S'[b]?=some (Rd bs P)
theorem right_ne {S:List Blk} {i j m n:Nat} {cs:List V} (h:S[i]?=some (.right m)) (k:S[j]?=some (.cells n cs)):i≠j:=by
 rintro rfl
 rw [h] at k
 cases k
theorem WoAt.rt {S:List Blk} {b c d f:Nat} {w:Wo} (h:WoAt S b c d f w) {j n:Nat} (hj:S[j]?=some (.right n)):b≠j∧c≠j∧d≠j∧f≠j :=
 ⟨Ne.symm (right_ne hj h.caller.1),Ne.symm (right_ne hj h.caller.2),Ne.symm (right_ne hj h.answerer.1),Ne.symm (right_ne hj h.answerer.2)⟩
theorem WoDr.set {S:List Blk} {b:Nat} {bs:List UInt8} {P:Nat} {w:Wo} {b1 c1 d1 f1:Nat} {S':List Blk} (h:WoDr S b bs P w b1 c1 d1 f1 S') {j:Nat} (B:Blk) (hj:S.length≤j) (hn:b1≠j∧c1≠j∧d1≠j∧f1≠j) (hb:b≠j):WoDr S b bs P w b1 c1 d1 f1 (S'.set j B) :=
 ⟨h.at_.set B hn,h.hb,h.hc,h.hd,h.hf,h.upd.set B (.inl hj),by rw [get_set_ne (Ne.symm hb)]; exact h.rd⟩
theorem WoDr.app {S:List Blk} {b:Nat} {bs:List UInt8} {P:Nat} {w:Wo} {b1 c1 d1 f1:Nat} {S':List Blk} (h:WoDr S b bs P w b1 c1 d1 f1 S') (X:List Blk):WoDr S b bs P w b1 c1 d1 f1 (S'++X) :=
 ⟨h.at_.app X,h.hb,h.hc,h.hd,h.hf,h.upd.app X,by rw [List.getElem?_append_left (lt_of_some h.rd)]; exact h.rd⟩
theorem WoDr.draw {S:List Blk} {b:Nat} {bs:List UInt8} {P:Nat} {w:Wo} {b1 c1 d1 f1:Nat} {S':List Blk} (h:WoDr S b bs P w b1 c1 d1 f1 S') (Q:Nat):WoDr S b bs Q w b1 c1 d1 f1 (S'.set b (Rd bs Q)) :=
 ⟨h.at_.set _ (h.at_.var (cs:=_) h.rd),h.hb,h.hc,h.hd,h.hf,h.upd.set _ (.inr (by simp)),List.getElem?_set_self (lt_of_some h.rd)⟩
theorem WoDr.to {S:List Blk} {b:Nat} {bs:List UInt8} {P:Nat} {w y:Wo} {b1 c1 d1 f1 b2 c2 d2 f2:Nat} {S1 S2:List Blk} (h:WoDr S b bs P w b1 c1 d1 f1 S1) (k:WoTo S1 b1 c1 d1 f1 y b2 c2 d2 f2 S2):WoDr S b bs P y b2 c2 d2 f2 S2:=by
 have hl:=h.upd.1
 have e1:=h.hb; have e2:=h.hc; have e3:=h.hd; have e4:=h.hf
 have e5:=k.hb; have e6:=k.hc; have e7:=k.hd; have e8:=k.hf
 have v:=h.at_.var (cs:=_) h.rd
 exact ⟨k.at_,by omega,by omega,by omega,by omega,h.upd.then_ k.upd (fun j hj hm=>by simp only [List.mem_cons,List.not_mem_nil,or_false] at hm; omega),k.upd.get h.rd (by simp; omega)⟩
theorem l72Play_ok (bs:List UInt8) (b p:Nat) (hp:p≤80000000) (hbs:bs.length≤2000) (S:List Blk) (hS:S[b]?=some (Rd bs p)) :
  VCall Tryz.prog 41 [.ptr b 0] S fun r S'=>∃(l:List Ev) (τ P b1 c1 d1 f1:Nat),l.length≤58∧(∀v ∈ l,EvS v)∧r=.tup [.rows (some τ) (l.map evV),wV b1 c1 d1 f1 (playM l)]∧S'[τ]?=some (.right 5)∧S.length≤τ∧P≤p+20000∧WoDr S b bs P (playM l) b1 c1 d1 f1 S':=by
 have hbl:=rd_lt hS
 refine VCall.ex hD (fun _=>false) (fun id=>if id=11 then [3,3,3,4] else []) Tryz.func41 Tryz.ntmps41 Tryz.results41 ?_
 simp -implicitDefEqProofs (disch:=omega) only [push_cast,simprocAttr,↓gd]
 refine (sWorldNew_ok _).mono ?_
 rintro r S1 ⟨b1,c1,d1,f1,rfl,q1⟩
 have k0:S1[S.length]?=some (.cells 0 zW):=q1.upd.get (by simp -implicitDefEqProofs (disch:=omega) only [push_cast,simprocAttr,↓gd]) (by simp)
 have kr:S1[b]?=some (Rd bs p):=q1.upd.get (by rw [List.getElem?_append_left hbl]; exact hS) (by simp)
 have l0:=lt_of_some k0
 have e1:=q1.hb; have e2:=q1.hc; have e3:=q1.hd; have e4:=q1.hf
 simp at e1 e2 e3 e4
 simp -implicitDefEqProofs (disch:=omega) only [push_cast,simprocAttr,k0,↓gd]
 have kr1:∀X,(S1++X)[b]?=some (Rd bs p):=fun X=>by rw [List.getElem?_append_left (lt_of_some kr)]; exact kr
 refine (pickI bs b p 59 _ (by simp) (by omega) (by omega) hbs _ (kr1 _)).mono ?_
 rintro r S2 ⟨⟨q,hq,rfl⟩,rfl⟩
 have hdr:WoDr S b bs p (playM []) b1 c1 d1 f1 S1:=⟨q1.at_,by omega,by omega,by omega,by omega,q1.app.upd.mono (fun _ _ hm=>by cases hm),kr⟩
 simp -implicitDefEqProofs (disch:=omega) only [push_cast,simprocAttr,↓gd]
 refine wpV_loop (fun m t S2=>∃(l:List Ev) (τ P b1 c1 d1 f1:Nat),m≤58∧l.length+m≤58∧P+m * 300≤p+18000∧(∀v ∈ l,EvS v)∧t 0=.ptr b 0∧t 3=.ptr S.length 0∧t 4=.ptr S1.length 0∧t 5=.rows (some τ) (l.map evV)∧t 6=.int .i64 m ∧
  S.length≤τ∧S2[τ]?=some (.right 5)∧S2[S1.length]?=some (.cells 0 (wC b1 c1 d1 f1 (playM l)))∧S2[S.length]?=some (.cells 0 zW)∧WoDr S b bs P (playM l) b1 c1 d1 f1 S2) q
  ⟨[],S1.length+1,p+1,b1,c1,d1,f1,by omega,by simp; omega,by omega,by simp,rfl,rfl,rfl,rfl,rfl,by omega,?_,?_,?_,(hdr.draw _).app _⟩ ?_
 ·simp -implicitDefEqProofs (disch:=omega) only [push_cast,simprocAttr,↓gd]
 ·simp -implicitDefEqProofs (disch:=omega) only [push_cast,simprocAttr,↓gd]
  rfl
 ·simp -implicitDefEqProofs (disch:=omega) only [push_cast,simprocAttr,k0,↓gd]
 rintro m t S2 ⟨l,τ,P,b1,c1,d1,f1,hm,hlm,hP,hl,h0,h3,h4,h5,h6,hτ,kt,k1,k0,hdr⟩
 have lt:=lt_of_some kt
 have l1:=lt_of_some k1
 have l0:=lt_of_some k0
 have kb:=hdr.rd
 have lb:=lt_of_some kb
 have nt0:=right_ne kt k0
 have nt1:=right_ne kt k1
 have ntb:=right_ne kt kb
 have v0:=hdr.at_.var k0
 have v1:=hdr.at_.var k1
 have hW:=playM_w l
 have hB:=hW.b (by omega)
 refine wpV_of0 hD ?_
 by_cases h:0 < m
 ·have h':(m:Int) > 0:=by omega
  simp -implicitDefEqProofs (disch:=omega) only [push_cast,simprocAttr,h0,h3,h4,h5,h6,h',k1,↓gd]
  refine (l72Event_ok hB b1 c1 d1 f1 bs b P (by omega) hbs S2 kb).mono ?_
  rintro r S3 ⟨⟨v,hv,rfl⟩,P2,hP2,rfl⟩
  have hpre:=fun Q X=>((hdr.draw Q).set (j:=τ) .dead hτ (hdr.at_.rt kt) (Ne.symm ntb)).app X
  have hS2b:∀B X,(S2.set b B++X)[b]?=some B:=fun B X=>stC lb _ _
  have hnes:=hdr.at_.nes
  have hhb:=hdr.hb; have hhc:=hdr.hc; have hhd:=hdr.hd; have hhf:=hdr.hf
  by_cases hl0:l=[]
  ·subst hl0
   simp -implicitDefEqProofs (disch:=omega) only [push_cast,simprocAttr,h0,h3,h4,h5,h6,↓gd]
   refine (l72Path_ok bs b P2 (by omega) hbs _ (hS2b _ _)).mono ?_
   rintro r S4 ⟨⟨s1,hs1,rfl⟩,rfl⟩
   simp -implicitDefEqProofs (disch:=omega) only [push_cast,simprocAttr,h0,h3,h4,h5,h6,stA lb,stB lb,↓gd]
   refine (l72Text_ok bs b (P2+1) (by omega) hbs _ (hS2b _ _)).mono ?_
   rintro r S4 ⟨⟨s2,hs2,rfl⟩,P3,hP3,rfl⟩
   simp -implicitDefEqProofs (disch:=omega) only [push_cast,simprocAttr,h0,h3,h4,h5,h6,stA lb,stB lb,kt,k1,↓gd]
   refine ((l22Do_ok hW (by omega) ⟨1,0,0,s1,s2⟩ (EvS.b ⟨hs1,hs2⟩) (hpre _ _).at_).as (by simp [wV,wC,enC,evV])).mono ?_
   rintro r S5 ⟨b2,c2,d2,f2,rfl,q5⟩
   have hn:=(hpre _ _).to q5
   have k0':=q5.upd.get (j:=S.length) (B:=.cells 0 zW) (by simp -implicitDefEqProofs (disch:=omega) only [push_cast,simprocAttr,k0,↓gd]) (by simp; omega)
   have k1':=q5.upd.get (j:=S1.length) (B:=.cells 0 (wC b1 c1 d1 f1 (playM []))) (by simp -implicitDefEqProofs (disch:=omega) only [push_cast,simprocAttr,k1,↓gd]) (by simp; omega)
   have kt':=q5.upd.get (j:=S2.length+2) (B:=.right 5) (by simp -implicitDefEqProofs (disch:=omega) only [push_cast,simprocAttr,↓gd]) (by simp; omega)
   have l1':=lt_of_some k1'
   have v1':=hn.at_.var k1'
   have hst:doM (playM []) ⟨1,0,0,s1,s2⟩=playM ([]++[⟨1,0,0,s1,s2⟩]):=by rw [playM,playM,List.foldl_append]; rfl
   rw [hst] at hn
   rw [hst]
   have ntt:=right_ne kt' k1'
   have hb2:b≠S1.length:=by omega
   generalize hy:playM ([]++[⟨1,0,0,s1,s2⟩])=y at *
   simp -implicitDefEqProofs (disch:=omega) only [push_cast,simprocAttr,h0,h3,h4,h5,h6,k1',↓gd]
   have hfin:WoDr S b bs P3 (playM ([]++[⟨1,0,0,s1,s2⟩])) b2 c2 d2 f2 (S5.set S1.length (.cells 0 (wC b2 c2 d2 f2 y))):=by rw [hy]; exact hn.set (j:=S1.length) _ (by omega) v1' hb2
   exact ⟨m - 1,by omega,[]++[⟨1,0,0,s1,s2⟩],S2.length+2,_,b2,c2,d2,f2,by omega,by simp at hlm ⊢; omega,by omega,fun u hu=>(List.mem_append.1 hu).elim (fun g=>hl u g) (fun g=>by rw [List.mem_singleton.1 g]; exact ⟨hs1,hs2⟩),by simp [evV],by congr 1; omega,by omega,by simp -implicitDefEqProofs (disch:=omega) only [push_cast,simprocAttr,kt',↓gd],by rw [hy],by simp -implicitDefEqProofs (disch:=omega) only [push_cast,simprocAttr,k0',↓gd],hfin⟩
  ·have hln:¬(l.length:Int)=0:=by have:=List.length_pos_iff.2 hl0; omega
   simp -implicitDefEqProofs (disch:=omega) only [push_cast,simprocAttr,h0,h3,h4,h5,h6,hln,kt,k1,evs_len5,↓gd]
   refine ⟨by omega,?_⟩
   refine ((l22Do_ok hW (by omega) v hv.b (hpre _ _).at_).as (by simp [wV,wC,enC,evV])).mono ?_
   rintro r S5 ⟨b2,c2,d2,f2,rfl,q5⟩
   have hn:=(hpre _ _).to q5
   have k0':=q5.upd.get (j:=S.length) (B:=.cells 0 zW) (by simp -implicitDefEqProofs (disch:=omega) only [push_cast,simprocAttr,k0,↓gd]) (by simp; omega)
   have k1':=q5.upd.get (j:=S1.length) (B:=.cells 0 (wC b1 c1 d1 f1 (playM l))) (by simp -implicitDefEqProofs (disch:=omega) only [push_cast,simprocAttr,k1,↓gd]) (by simp; omega)
   have kt':=q5.upd.get (j:=S2.length+2) (B:=.right 5) (by simp -implicitDefEqProofs (disch:=omega) only [push_cast,simprocAttr,↓gd]) (by simp; omega)
   have l1':=lt_of_some k1'
   have v1':=hn.at_.var k1'
   have hst:doM (playM l) v=playM (l++[v]):=by rw [playM,playM,List.foldl_append]; rfl
   rw [hst] at hn
   rw [hst]
   have ntt:=right_ne kt' k1'
   have hb2:b≠S1.length:=by omega
   generalize hy:playM (l++[v])=y at *
   simp -implicitDefEqProofs (disch:=omega) only [push_cast,simprocAttr,h0,h3,h4,h5,h6,k1',↓gd]
   have hfin:WoDr S b bs P2 (playM (l++[v])) b2 c2 d2 f2 (S5.set S1.length (.cells 0 (wC b2 c2 d2 f2 y))):=by rw [hy]; exact hn.set (j:=S1.length) _ (by omega) v1' hb2
   exact ⟨m - 1,by omega,l++[v],S2.length+2,_,b2,c2,d2,f2,by omega,by simp at hlm ⊢; omega,by omega,fun u hu=>(List.mem_append.1 hu).elim (fun g=>hl u g) (fun g=>by rw [List.mem_singleton.1 g]; exact hv),by simp [evV],by congr 1; omega,by omega,by simp -implicitDefEqProofs (disch:=omega) only [push_cast,simprocAttr,kt',↓gd],by rw [hy],by simp -implicitDefEqProofs (disch:=omega) only [push_cast,simprocAttr,k0',↓gd],hfin⟩
 ·have:m=0:=by omega
  subst this
  simp -implicitDefEqProofs (disch:=omega) only [push_cast,simprocAttr,h0,h3,h4,h5,h6,k1,k0,↓gd]
  exact ⟨_,_,Wk.refl _ _ _,l,τ,P,b1,c1,d1,f1,by omega,hl,rfl,by simp -implicitDefEqProofs (disch:=omega) only [push_cast,simprocAttr,kt,↓gd],hτ,by omega,hdr.set (j:=S.length) _ (Nat.le_refl _) v0 (by omega)⟩
end
section
open Go
inductive Spoilt (x:Wo):Wo→Prop where
 | none:Spoilt x x
 | ans:Spoilt x { x with caller:={ x.caller with ans:=true } }
 | up (o:List UInt8):o.length≤10→Spoilt x { x with up:=x.up++o }
 | table (t:List Fd) (m:Int):t.length≤20→(∀f ∈ t,FdS f)→Spoilt x { x with answerer:={ x.answerer with inn:=t,innM:=m } }
 | id (k:Int):0≤k→k < 9→x.caller.strs≠[]→Spoilt x { x with caller:={ x.caller with strs:=x.caller.strs.set 0 { x.caller.strs.getD 0 st0 with id:=k } } }
def Drawn (w:Wo):Prop:=∃l:List Ev,l.length≤58∧(∀v ∈ l,EvS v)∧Spoilt (playM l) w
theorem Drawn.b {w:Wo} (h:Drawn w):WoB w:=by
 obtain ⟨l,hl,hv,hs⟩:=h
 have hW:=playM_w l
 have hB:=hW.b (by omega)
 have hup:=hW.up
 cases hs with
 | none=>exact hB
 | ans=>exact ⟨⟨hB.caller.sts,hB.caller.len,hB.caller.wait,hB.caller.out,hB.caller.inn,hB.caller.came⟩,hB.answerer,hB.up,hB.down⟩
 | up o ho=>exact ⟨hB.caller,hB.answerer,by simp only [List.length_append]; omega,hB.down⟩
 | table t m ht hf=>exact ⟨hB.caller,⟨hB.answerer.sts,hB.answerer.len,hB.answerer.wait,hB.answerer.out,⟨by simp only; omega,fun f hf'=>(hf f hf').b⟩,hB.answerer.came⟩,hB.up,hB.down⟩
 | id k h1 h2 h3 =>
  have hp:=List.length_pos_iff.2 h3
  refine ⟨⟨fun s hs=>?_,by simp only [List.length_set]; exact hB.caller.len,hB.caller.wait,hB.caller.out,hB.caller.inn,hB.caller.came⟩,hB.answerer,hB.up,hB.down⟩
  have h0:=hB.caller.sts _ (getD_memS hp)
  rcases List.mem_or_eq_of_mem_set hs with g | g
  ·exact hB.caller.sts s g
  ·subst g
   exact ⟨h0.head,h0.got,h0.say,h0.text⟩
end
section
open Go
def DrawnE (e:En) (wire:List UInt8):Prop:=∃w:Wo,Drawn w∧((e=w.caller∧wire=w.down)∨(e=w.answerer∧wire=w.up))
theorem DrawnE.b {e:En} {wire:List UInt8} (h:DrawnE e wire):EnB e∧wire.length≤1000000:=by
 obtain ⟨w,hd,h⟩:=h
 have hB:=hd.b
 rcases h with ⟨rfl,rfl⟩ | ⟨rfl,rfl⟩
 ·exact ⟨hB.caller,hB.down⟩
 ·exact ⟨hB.answerer,hB.up⟩
theorem Upd.open_ {S S':List Blk} {B:Blk} {b:Nat} (hb:S.length≤b) (h:Upd [b] (S++[B]) S'):Upd [] S S' :=
 ((Upd.refl [] S).app [B]).then_ h (fun j hj hm=>by simp at hm; omega)
theorem Wk.forget {S Z:List Blk} {r:V} (h:Upd [] S Z) (hc:Cl S.length r):Wk S r Z r S:=by
 have e:Z.take S.length=S:=by
  apply List.ext_getElem?
  intro j
  rw [List.getElem?_take]
  split
  ·rename_i hj; exact h.2 j hj (by simp)
  ·rename_i hj; rw [List.getElem?_eq_none (by omega)]
 have hk:=Wk.cut (S0:=S) (S:=Z) (r:=r) (n:=S.length) (Nat.le_refl _) h.1 hc (fun j sz cs hj hz=>.inl (by rw [←h.2 j hj (by simp)]; exact hz))
 rwa [e] at hk
theorem evs_cl (n:Nat) (l:List Ev):Cl n (.rows none (l.map evV)):=by
 refine .rows (fun τ h=>by cases h) ?_
 intro v hv
 obtain ⟨x,hx,hvx⟩:=List.mem_flatMap.1 hv
 obtain ⟨u,_,rfl⟩:=List.mem_map.1 hx
 exact (evV_cl n u).cells v hvx
theorem DrawWorldPlay_ok (code:List UInt8) (hc:code.length≤1073741824) (S:List Blk) :
  VCall Tryz.prog 15 [.rows none (code.map u8V)] S fun r S'=>∃l:List Ev,l.length≤61∧(∀v ∈ l,EvS v)∧r=.rows none (l.map evV)∧S'=S:=by
 refine VCall.en hD Tryz.func15 Tryz.ntmps15 Tryz.results15 ?_
 simp -implicitDefEqProofs (disch:=omega) only [push_cast,simprocAttr,↓gd]
 refine (l6Open_ok code hc _).to ?_
 simp -implicitDefEqProofs (disch:=omega) only [push_cast,simprocAttr,↓gd]
 generalize hbs:code.take 2000=bs
 have hbl:bs.length≤2000:=by rw [←hbs,List.length_take]; omega
 refine (l72Play_ok bs S.length 0 (by omega) hbl _ (by simp)).mono ?_
 rintro r S1 ⟨l,τ,P,b1,c1,d1,f1,hl,hv,rfl,hτ,hτ2,hP,hdr⟩
 rw [List.length_append] at hτ2
 have kr:=hdr.rd
 have lr:=lt_of_some kr
 have ntb:=right_ne hτ kr
 have lt:=lt_of_some hτ
 have hu:S.length < S1.length:=by have:=hdr.upd.1; simp at this; omega
 simp -implicitDefEqProofs (disch:=omega) only [push_cast,simprocAttr,↓gd]
 refine (pickI bs S.length P 40 _ (by simp) (by omega) (by omega) hbl _ (by rw [List.getElem?_append_left lr]; exact kr)).mono ?_
 rintro r S2 ⟨⟨q,hq,rfl⟩,rfl⟩
 have fin:∀(k:List Ev) (tok:Option Nat) (Z:List Blk),k.length≤61→(∀v ∈ k,EvS v)→Upd [] S Z→∃r S2,Wk S (V.rows tok (k.map evV)) Z r S2∧∃l:List Ev,l.length≤61∧(∀v ∈ l,EvS v)∧r=.rows none (l.map evV)∧S2=S:=by
  intro k tok Z h1 h2 h3
  exact ⟨_,_,(Wk.eraseT S (.rows tok (k.map evV)) Z).trans (Wk.forget h3 (evs_cl _ k)),k,h1,h2,rfl,rfl⟩
 have hup:=Upd.open_ (Nat.le_refl _) hdr.upd
 have hup2:∀B X,Upd [] S (S1.set S.length B++X):=fun B X=>(hup.set B (.inl (Nat.le_refl _))).app X
 by_cases q0:q=0
 ·subst q0
  simp -implicitDefEqProofs (disch:=omega) only [push_cast,simprocAttr,stA lr,stB lr,↓gd]
  refine wpV_loop (fun m t S2=>∃(k:List Ev) (τ:Nat),m=61 - k.length∧k.length≤61∧(∀v ∈ k,EvS v)∧t 4=.rows (some τ) (k.map evV)∧S.length≤τ∧S2[τ]?=some (.right 5)∧Upd [] S S2) (61 - l.length)
   ⟨l,τ,rfl,by omega,hv,rfl,by omega,by rw [List.getElem?_append_left (by simpa using lt),get_set_ne (Ne.symm ntb)]; exact hτ,hup2 _ _⟩ ?_
  rintro m t S2 ⟨k,τ,rfl,hk,hkv,h4,hτn,hτ,hu2⟩
  have ltt:=lt_of_some hτ
  refine wpV_of0 hD ?_
  by_cases hkl:k.length≤60
  ·have hkl':(k.length:Int)≤60:=by omega
   simp -implicitDefEqProofs (disch:=omega) only [push_cast,simprocAttr,h4,hkl',hτ,evs_len5,↓gd]
   exact ⟨by omega,61 - (k.length+1),by omega,k++[⟨3,0,0,[],[]⟩],S2.length+1,by simp,by simp; omega,fun u hu=>(List.mem_append.1 hu).elim (fun g=>hkv u g) (fun g=>by rw [List.mem_singleton.1 g]; exact ⟨by simp,by simp⟩),by simp [evV],by have:=hu2.1; omega,by simp -implicitDefEqProofs (disch:=omega) only [push_cast,simprocAttr,↓gd],(hu2.set _ (.inl hτn)).app _⟩
  ·have hkl':¬(k.length:Int)≤60:=by omega
   simp -implicitDefEqProofs (disch:=omega) only [push_cast,simprocAttr,h4,hkl',↓gd]
   exact fin k _ _ hk hkv hu2
 ·have q0':¬(q:Int)=0:=by omega
  simp -implicitDefEqProofs (disch:=omega) only [push_cast,simprocAttr,stA lr,stB lr,q0',↓gd]
  exact fin l _ _ (by omega) hv (hup2 _ _)
end
section
open Go
theorem three {a b c:Int} {x:Nat} (h:x < 3):∃z:Int,[V.int .i64 a,V.int .i64 b,V.int .i64 c].getD x .junk=.int .i64 z:=by
 rcases (by omega:x=0∨x=1∨x=2) with rfl | rfl | rfl <;> exact ⟨_,rfl⟩
end
section
open Go
theorem four {a b c d:Int} {x:Nat} (hx:x < 4):∃z:Int,((z=a∨z=b)∨(z=c∨z=d))∧[V.int .i64 a,V.int .i64 b,V.int .i64 c,V.int .i64 d].getD x .junk=.int .i64 z:=by
 rcases (by omega:x=0∨x=1∨x=2∨x=3) with rfl | rfl | rfl | rfl
 ·exact ⟨a,.inl (.inl rfl),rfl⟩
 ·exact ⟨b,.inl (.inr rfl),rfl⟩
 ·exact ⟨c,.inr (.inl rfl),rfl⟩
 ·exact ⟨d,.inr (.inr rfl),rfl⟩
end
section
open Go
theorem lkFields_self (a:List Fd) (ha:a.length≤2000000) (S:List Blk):VCall Tryz.prog 95 [.rows none (a.map fV),.rows none (a.map fV)] S fun r S'=>r=.bool true∧S'=S:=by
 have h:=lkFields_ok a a ha ha S
 rw [decide_eq_true rfl] at h
 exact h
end
section
open Go
theorem lkStream_self (s:St) (hb:StB s) (S:List Blk):VCall Tryz.prog 55 [stV s,stV s] S fun r S'=>r=.bool true∧S'=S:=by
 have h1:=hb.head.1
 have h2:=hb.got.1
 refine VCall.en hD Tryz.func55 Tryz.ntmps55 Tryz.results55 ?_
 simp -implicitDefEqProofs (disch:=omega) only [push_cast,simprocAttr,decide_true,Bool.and_self,↓gd]
 refine ((lkFields_self s.head h1 _).as rfl).to ?_
 simp -implicitDefEqProofs (disch:=omega) only [push_cast,simprocAttr,↓gd]
 refine ((lkFields_self s.got h2 _).as rfl).to ?_
 simp -implicitDefEqProofs (disch:=omega) only [push_cast,simprocAttr,↓gd]
 exact fin1 (.bool _) rfl
theorem lkFrames_self (l:List Fr) (hl:l.length≤1000000) {S:List Blk} {b c:Nat} (hb:S[b]?=some (.cells 4 (frmsC l))) (hc:S[c]?=some (.cells 4 (frmsC l))):VCall Tryz.prog 57 [.heap b l.length,.heap c l.length] S fun r S'=>r=.bool true∧S'=S:=by
 have hlw:=frmsC_len l
 refine VCall.ex hDe (fun _=>false) (fun id=>if id=6 then [9,9,9,9,9,9,9,9,9] else []) Tryz.func57 Tryz.ntmps57 Tryz.results57 ?_
 simp -implicitDefEqProofs (disch:=omega) only [push_cast,simprocAttr,↓gd]
 refine wpV_loop (fun m t S'=>∃i:Nat,m=l.length - i∧i≤l.length∧t 0=.heap b l.length∧t 1=.heap c l.length∧t 5=.int .i64 i∧S'=S) l.length ⟨0,by omega,by omega,rfl,rfl,rfl,rfl⟩ ?_
 rintro m t S' ⟨i,rfl,hi,h0,h1,h5,rfl⟩
 refine wpV_of hDe (fun _=>false) (fun id=>if id=6 then [9,9,9,9,9,9,9,9,9] else []) (by kernel_rfl) ?_
 simp -implicitDefEqProofs (disch:=omega) only [push_cast,simprocAttr,h0,h1,h5,↓gd]
 refine ⟨fun h=>?_,fun h=>?_⟩
 ·have hil:i < l.length:=by omega
  have hat:=frmsC_at hil
  simp -implicitDefEqProofs (disch:=omega) only [push_cast,simprocAttr,h0,h1,h5,hb,hc,hat,decide_true,Bool.and_self,↓gd]
  exact ⟨by omega,by omega,by omega,by omega,by omega,by omega,l.length - (i+1),by omega,i+1,rfl,by omega,by simp⟩
 ·exact fin0 rfl
theorem lkEnd_self {e:En} (he:EnB e) {S:List Blk} {b c d f:Nat} (h1:EnAt S b c e) (h2:EnAt S d f e):VCall Tryz.prog 29 [eV b c e,eV d f e] S fun r S'=>r=.bool true∧S'=S:=by
 have hel:=he.len
 have hwl:=he.wait
 have lb:=lt_of_some h1.1
 have lc:=lt_of_some h1.2
 have ld:=lt_of_some h2.1
 have lf:=lt_of_some h2.2
 have hb:=h1.1
 have hd:=h2.1
 have hlen:=strsC_len e.strs
 have ho:=he.out.1
 have hi:=he.inn.1
 refine VCall.ex hDe (fun _=>false) (fun id=>if id=6 then [10,10,10,10,10,10,10,10,10,10,12,12] else []) Tryz.func29 Tryz.ntmps29 Tryz.results29 ?_
 simp -implicitDefEqProofs (disch:=omega) only [push_cast,simprocAttr,decide_true,Bool.and_self,↓gd]
 refine wpV_loop (fun m t S'=>∃i:Nat,m=e.strs.length - i∧i≤e.strs.length∧t 2=.ptr S.length 0∧t 3=.ptr (S.length+1) 0∧t 5=.int .i64 i∧S'=S++[.cells 0 (enC (.heap b e.strs.length) (.heap c e.wait.length) e),.cells 0 (enC (.heap d e.strs.length) (.heap f e.wait.length) e)]) e.strs.length ⟨0,by omega,by omega,rfl,rfl,rfl,rfl⟩ ?_
 rintro m t S' ⟨i,rfl,hi',h2',h3,h5,rfl⟩
 refine wpV_of hDe (fun _=>false) (fun id=>if id=6 then [10,10,10,10,10,10,10,10,10,10,12,12] else []) (by kernel_rfl) ?_
 by_cases hil:i < e.strs.length
 ·have hil':(i:Int) < e.strs.length:=by omega
  have hat:=strsC_at hil
  simp -implicitDefEqProofs (disch:=omega) only [push_cast,simprocAttr,h2',h3,h5,hil',hb,hd,hat,↓gd]
  repeat refine And.intro (by omega) ?_
  refine ((lkStream_self (e.strs.getD i st0) (he.sts _ (getD_memS hil)) _).as (by simp [stV,strC])).to ?_
  simp -implicitDefEqProofs (disch:=omega) only [push_cast,simprocAttr,h2',h3,h5,↓gd]
  exact ⟨e.strs.length - (i+1),by omega,i+1,rfl,by omega,by simp⟩
 ·have:i=e.strs.length:=by omega
  subst this
  have hil':¬((e.strs.length:Nat):Int) < e.strs.length:=by omega
  simp -implicitDefEqProofs (disch:=omega) only [push_cast,simprocAttr,h2',h3,h5,hil',↓gd]
  refine ((lkTable_self e.out e.outM ho _).as rfl).to ?_
  simp -implicitDefEqProofs (disch:=omega) only [push_cast,simprocAttr,h2',h3,h5,↓gd]
  refine ((lkTable_self e.inn e.innM hi _).as rfl).to ?_
  simp -implicitDefEqProofs (disch:=omega) only [push_cast,simprocAttr,h2',h3,h5,↓gd]
  refine ((lkFrames_self e.wait hwl (b:=c) (c:=f) (S:=_) ?_ ?_).as rfl).to ?_
  ·rw [List.getElem?_append_left lc]; exact h1.2
  ·rw [List.getElem?_append_left lf]; exact h2.2
  simp -implicitDefEqProofs (disch:=omega) only [push_cast,simprocAttr,↓gd]
  exact fin1 (.bool _) rfl
theorem lkWorld_self {w:Wo} (hB:WoB w) {S:List Blk} {b c d f b' c' d' f':Nat} (h1:WoAt S b c d f w) (h2:WoAt S b' c' d' f' w):VCall Tryz.prog 18 [wV b c d f w,wV b' c' d' f' w] S fun r S'=>r=.bool true∧S'=S:=by
 refine VCall.en hDe Tryz.func18 Tryz.ntmps18 Tryz.results18 ?_
 simp -implicitDefEqProofs (disch:=omega) only [push_cast,simprocAttr,↓gd]
 refine ((lkEnd_self hB.caller (h1.caller.app _) (h2.caller.app _)).as (by simp [eV,enV,enC])).to ?_
 simp -implicitDefEqProofs (disch:=omega) only [push_cast,simprocAttr,↓gd]
 refine ((lkEnd_self hB.answerer (h1.answerer.app _) (h2.answerer.app _)).as (by simp [eV,enV,enC])).to ?_
 simp -implicitDefEqProofs (disch:=omega) only [push_cast,simprocAttr,decide_true,Bool.and_self,↓gd]
 exact fin1 (.bool _) rfl
end
section
open Go
theorem lkBegins_self (a t:List UInt8) (h:a.length+t.length≤1000000) (S:List Blk):VCall Tryz.prog 32 [.str a,.str (a++t)] S fun r S'=>r=.bool true∧S'=S:=by
 refine VCall.en hD Tryz.func32 Tryz.ntmps32 Tryz.results32 ?_
 have h1:(a.length:Int)≤(a.length:Int)+(t.length:Int):=by omega
 have h2:(a++t).take a.length=a:=by simp
 simp -implicitDefEqProofs (disch:=omega) only [push_cast,simprocAttr,h1,h2,List.length_append,Int.natCast_add,decide_true,↓gd]
 repeat refine And.intro (by omega) ?_
 exact fin0 rfl
end
section
def more0:List Fr→Nat
 | []=>0
 | f :: l=>(if f.kind=8∧f.stream=0 then byteAt f.body 0 else 0)+more0 l
theorem more0_app:∀l k:List Fr,more0 (l++k)=more0 l+more0 k
 | [],k=>by simp [more0]
 | f :: l,k=>by simp only [List.cons_append,more0,more0_app l k]; omega
def gone:List St→Nat
 | []=>0
 | s :: l=>(if s.state=3 then 1 else 0)+gone l
theorem gone_app:∀l k:List St,gone (l++k)=gone l+gone k
 | [],k=>by simp [gone]
 | f :: l,k=>by simp only [List.cons_append,gone,gone_app l k]; omega
theorem gone_le:∀l:List St,gone l≤l.length
 | []=>by simp [gone]
 | s :: l=>by have:=gone_le l; simp only [gone,List.length_cons]; split <;> omega
theorem gone_set:∀(l:List St) (k:Nat) (s:St),((l.getD k st0).state=3→s.state=3)→gone l≤gone (l.set k s)
 | [],k,s,_=>by simp
 | a :: l,0,s,hs=>by
  have h:a.state=3→s.state=3:=hs
  simp only [List.set_cons_zero,gone]
  by_cases q:a.state=3
  ·rw [if_pos q,if_pos (h q)]; exact Nat.le_refl _
  ·rw [if_neg q]; split <;> omega
 | a :: l,k+1,s,hs=>by
  have:=gone_set l k s (by simpa using hs)
  simp only [List.set_cons_succ,gone]; omega
theorem gone_more:∀(l:List St) (k:Nat) (s:St),k < l.length→(l.getD k st0).state≠3→s.state=3→gone (l.set k s)=gone l+1
 | [],k,s,h,_,_=>by simp at h
 | a :: l,0,s,_,hs,h3=>by
  have h:a.state≠3:=hs
  simp only [List.set_cons_zero,gone,if_neg h,if_pos h3]; omega
 | a :: l,k+1,s,h,hs,h3=>by
  have:=gone_more l k s (by simpa using h) (by simpa using hs) h3
  simp only [List.set_cons_succ,gone]; omega
structure Loc (e:En):Prop where
 sum:e.room+more0 e.wait=16
 len:e.wait.length≤2 * more0 e.wait+gone e.strs
 four:e.strs.length≤4
theorem Loc.wait {e:En} (h:Loc e) (hr:0≤e.room):e.wait.length≤36:=by
 have:=h.sum; have:=h.len; have:=h.four; have:=gone_le e.strs; omega
theorem Loc.setSt {e:En} {k:Nat} {s:St} (h:Loc e) (hs:(stAt e k).state=3→s.state=3):Loc (setSt e k s) :=
 ⟨h.sum,Nat.le_trans h.len (Nat.add_le_add_left (gone_set e.strs k s hs) _),Nat.le_trans (Nat.le_of_eq (List.length_set ..)) h.four⟩
theorem Loc.bad {e:En} (h:Loc e):Loc (badM e):=⟨h.sum,h.len,h.four⟩
theorem loc_new (a:Bool):Loc (newEn a):=⟨rfl,by simp [newEn],by simp [newEn]⟩
theorem callM_loc {e:En} (h:Loc e) (p t:List UInt8):Loc (callM e p t).1:=by
 unfold callM
 split
 ·exact h
 ·rename_i hc
  have h2:¬2 * (e.strs.length:Int)+1 > 7:=fun q=>hc (.inr (.inl q))
  refine ⟨h.sum,?_,by simp; omega⟩
  have:=h.len
  simp only [gone_app]; omega
theorem leaveM_loc {e:En} (h:Loc e) (id:Int):Loc (leaveM e id).1:=by
 unfold leaveM
 split
 ·exact h
 ·rename_i k hk
  obtain ⟨h1,h2⟩:=atM_some hk
  split
  ·exact h
  ·rename_i hc
   have hs:(stAt e k).state=1:=by simpa using fun q=>hc (.inr q)
   have hg:=gone_more e.strs k { stAt e k with state:=3 } h1 (by show (stAt e k).state≠3; rw [hs]; decide) rfl
   have:=h.len
   have:=h.sum
   refine ⟨?_,?_,by simpa [setSt] using h.four⟩
   ·show e.room+more0 (if _ then _ else _)=16
    split
    ·rw [more0_app]; simpa [more0] using h.sum
    ·exact h.sum
   ·show (if _ then _ else _:List Fr).length≤2 * more0 (if _ then _ else _)+gone (e.strs.set k _)
    rw [hg]
    split
    ·rw [more0_app]; simp [more0]; omega
    ·omega
theorem beginM_keeps (e:En) (s:St):(beginM e s).1.room=e.room∧(beginM e s).1.wait=e.wait∧(beginM e s).1.strs=e.strs∧(beginM e s).2.1.state=s.state:=by unfold beginM; split <;> exact ⟨rfl,rfl,rfl,rfl⟩
theorem pieceM_keeps (e:En) (s:St):(pieceM e s).1.room=e.room∧(pieceM e s).1.wait=e.wait∧(pieceM e s).1.strs=e.strs∧(pieceM e s).2.1.state=s.state:=by unfold pieceM; split <;> exact ⟨rfl,rfl,rfl,rfl⟩
theorem sayM_room (e:En) (k:Nat):(sayM e k).1.room=e.room∧(sayM e k).1.wait=e.wait∧(sayM e k).1.strs.length=e.strs.length∧gone e.strs≤gone (sayM e k).1.strs:=by
 unfold sayM
 simp only
 split
 ·exact ⟨rfl,rfl,rfl,Nat.le_refl _⟩
 ·rename_i hc
  have hs:(stAt e k).state=1:=by simpa using fun q=>hc (.inl q)
  obtain ⟨b1,b2,b3,b4⟩:=beginM_keeps e (stAt e k)
  obtain ⟨c1,c2,c3,c4⟩:=pieceM_keeps (beginM e (stAt e k)).1 (beginM e (stAt e k)).2.1
  refine ⟨c1.trans b1,c2.trans b2,by simp [setSt,c3,b3],?_⟩
  simp only [setSt,c3,b3]
  refine gone_set _ _ _ (fun q=>?_)
  exact absurd (hs.symm.trans q) (by decide)
theorem saysM_room:∀(n k:Nat) (e:En),(saysM n k e).1.room=e.room∧(saysM n k e).1.wait=e.wait∧(saysM n k e).1.strs.length=e.strs.length∧gone e.strs≤gone (saysM n k e).1.strs
 | 0,k,e=>⟨rfl,rfl,rfl,Nat.le_refl _⟩
 | n+1,k,e=>by
  obtain ⟨a1,a2,a3,a4⟩:=sayM_room e k
  obtain ⟨b1,b2,b3,b4⟩:=saysM_room n (k+1) (sayM e k).1
  exact ⟨b1.trans a1,b2.trans a2,b3.trans a3,Nat.le_trans a4 b4⟩
theorem roomM_room (e:En) (f:Fr) (h:e.room+more0 [f]≤31):(roomM e f).room=e.room+more0 [f]∧(roomM e f).strs.length=e.strs.length∧gone e.strs≤gone (roomM e f).strs:=by
 unfold roomM
 split
 ·rename_i h8
  refine ⟨?_,rfl,Nat.le_refl _⟩
  simp [more0,h8]
 ·rename_i h8
  have h8:f.kind=8:=by simpa using h8
  split
  ·rename_i h0
   refine ⟨?_,rfl,Nat.le_refl _⟩
   simp only [more0,h8,h0,and_self,if_true,Nat.add_zero] at h ⊢
   omega
  ·rename_i h0
   have e0:more0 [f]=0:=by simp [more0,h0]
   rw [e0]
   split
   ·exact ⟨by simp,rfl,Nat.le_refl _⟩
   ·rename_i k hk
    exact ⟨by simp [setSt],by simp [setSt],gone_set _ _ _ (fun q=>q)⟩
theorem waitM_room:∀(l:List Fr) (e:En),e.room+more0 l≤31→(waitM e l).1.room=e.room+more0 l∧(waitM e l).1.strs.length=e.strs.length∧gone e.strs≤gone (waitM e l).1.strs
 | [],e,h=>⟨by simp [waitM,more0],rfl,Nat.le_refl _⟩
 | f :: l,e,h=>by
  have hm:more0 (f :: l)=more0 [f]+more0 l:=by simp [more0]
  obtain ⟨a1,a2,a3⟩:=roomM_room e f (by omega)
  obtain ⟨b1,b2,b3⟩:=waitM_room l (roomM e f) (by omega)
  exact ⟨by show (waitM (roomM e f) l).1.room=_; omega,b2.trans a2,Nat.le_trans a3 b3⟩
theorem writeM_loc {e:En} (h:Loc e):Loc (writeM e).1∧(writeM e).1.wait=[]:=by
 obtain ⟨a1,a2,a3⟩:=waitM_room e.wait e (by have:=h.sum; omega)
 obtain ⟨b1,b2,b3,b4⟩:=saysM_room e.strs.length 0 { (waitM e e.wait).1 with wait:=[] }
 have hw:(writeM e).1=(saysM e.strs.length 0 { (waitM e e.wait).1 with wait:=[] }).1:=rfl
 rw [hw]
 refine ⟨⟨?_,?_,?_⟩,b2⟩
 ·rw [b1,b2]; simp only [more0]; have:=h.sum; simp only [a1]; omega
 ·rw [b2]; simp [more0]
 ·rw [b3]; simp only [a2]; exact h.four
theorem doneM_state (ans:Bool) (s:St) (h:s.state=3):(doneM ans s).state=3:=by unfold doneM; rw [if_pos (by rw [h]; decide)]; exact h
theorem growM_loc {N:Nat} {e:En} (h:Loc e) (hw:EnW N e) {id:Int} (hid:strmOk id=true):Loc (growM e id):=by
 have hg:=growM_w hw hid
 have h4:=stsOk_len hg.sts
 revert h4
 unfold growM
 split
 ·intro h4
  refine ⟨h.sum,?_,h4⟩
  have:=h.len
  simp only [gone_app]; omega
 ·intro _; exact h
theorem headFM_loc {N:Nat} {e:En} (h:Loc e) (hw:EnW N e) {f:Fr} (hid:strmOk f.stream=true):Loc (headFM e f):=by
 unfold headFM
 have hg:=growM_loc h hw hid
 simp only
 split
 ·rename_i t hd k hr hk
  split
  ·exact hg.bad
  ·have hw:Loc { growM e f.stream with inn:=t }:=⟨hg.sum,hg.len,hg.four⟩
   refine hw.setSt (fun q=>?_)
   split
   ·exact doneM_state _ _ q
   ·exact q
 ·exact hg.bad
theorem dataM_loc {N:Nat} {e:En} (h:Loc e) (hw:EnW N e) {f:Fr}:Loc (dataM e f):=by
 unfold dataM
 split
 ·exact h.bad
 ·rename_i k hk
  obtain ⟨h1,h2⟩:=atM_some hk
  simp only
  split
  ·exact h.bad
  ·rename_i hc
   have c1:¬(f.body.length:Int) > e.room:=fun q=>hc (.inr (.inr (.inl q)))
   have hf:=flowOk_iff.1 hw.flow
   have hs:=(stOk_iff.1 (hw.st h1)).1
   have hi:(stAt e k).id≠0:=by rcases strmOk_cases hs with q | q | q | q <;> rw [q] <;> decide
   have hb:byteAt [by8 f.body.length] 0=f.body.length:=by8_toNat (by omega)
   have:=h.sum
   have:=h.len
   have hl:Loc { e with room:=e.room - f.body.length,wait:=if f.body=[] then e.wait else e.wait++[⟨8,false,0,[by8 f.body.length]⟩,⟨8,false,(stAt e k).id,[by8 f.body.length]⟩] }:=by
    by_cases hne:f.body=[]
    ·rw [if_pos hne]; rw [hne]; exact ⟨by simpa using h.sum,h.len,h.four⟩
    ·rw [if_neg hne]
     have hpos:=List.length_pos_iff.2 hne
     have hm:more0 (e.wait++[⟨8,false,0,[by8 f.body.length]⟩,⟨8,false,(stAt e k).id,[by8 f.body.length]⟩])=more0 e.wait+f.body.length:=by
      rw [more0_app]; simp [more0,hi,hb]
     refine ⟨?_,?_,h.four⟩
     ·simp only [hm]; omega
     ·simp only [hm]; rw [List.length_append]; simp only [List.length_cons,List.length_nil]; omega
   refine hl.setSt (fun q=>?_)
   split
   ·exact doneM_state _ _ q
   ·exact q
theorem moreM_loc {e:En} (h:Loc e) {f:Fr}:Loc (moreM e f):=by
 unfold moreM
 split
 ·exact ⟨h.sum,h.len,h.four⟩
 ·split
  ·exact h.bad
  ·rename_i k hk
   have hw:Loc { e with bad:=e.bad || decide ((stAt e k).send+byteAt f.body 0 > 31) }:=⟨h.sum,h.len,h.four⟩
   exact hw.setSt (fun q=>q)
theorem frameM_loc {N:Nat} {e:En} (h:Loc e) (hw:EnW N e) {f:Fr} (hf:frameOk f=true):Loc (frameM e f):=by
 unfold frameM
 split
 ·rename_i h1
  unfold frameOk at hf
  rw [if_pos (.inr h1)] at hf
  simp only [Bool.and_eq_true,decide_eq_true_eq] at hf
  exact headFM_loc h hw hf.1
 ·split
  ·exact dataM_loc h hw
  ·split
   ·exact moreM_loc h
   ·split
    ·exact h.bad
    ·split
     ·exact h.bad
     ·exact h.setSt (fun _=>rfl)
theorem hearsM_loc:∀(n N:Nat) (e:En),EnW N e→Loc e→Loc (hearsM n e)
 | 0,N,e,_,h=>h
 | n+1,N,e,hw,h=>by
  unfold hearsM
  split
  ·exact h
  ·simp only
   split
   ·exact h.bad
   ·split
    ·exact h
    ·rename_i h1 h2
     obtain ⟨g1,g2,g3,g4⟩:=frR_some (b:=e.came) (by omega)
     have hc:=hw.withCame (c:=e.came.drop (frR e.came).2.1) (by have:=hw.came; rw [List.length_drop]; omega)
     have hl:Loc { e with came:=e.came.drop (frR e.came).2.1 }:=⟨h.sum,h.len,h.four⟩
     exact hearsM_loc n (N+2) _ (frameM_w hc g1) (frameM_loc hl hc g1)
theorem hearM_loc {N:Nat} {e:En} (hw:EnW N e) (h:Loc e) {b:List UInt8} (hb:e.came.length+b.length≤600):Loc (hearM e b) :=
 hearsM_loc _ N _ (hw.withCame (by rw [List.length_append]; omega)) ⟨h.sum,h.len,h.four⟩
theorem hearWM_loc {N:Nat} {e:En} (hw:EnW N e) (h:Loc e) (b:List UInt8):Loc (hearWM e b):=by
 unfold hearWM
 split
 ·exact h
 ·rename_i hc
  have:¬e.came.length+b.length > 300:=fun q=>hc (.inr (.inl q))
  exact hearM_loc hw h (by omega)
theorem Loc.w {N:Nat} {e:En} (h:Loc e) (hw:EnW N e):EnW 36 e:=⟨hw.sts,hw.wait,hw.out,hw.inn,hw.flow,hw.came,h.wait (flowOk_iff.1 hw.flow).2.2.1⟩
structure WoL (w:Wo):Prop where
 caller:Loc w.caller
 answerer:Loc w.answerer
theorem WoL.w {N:Nat} {w:Wo} (h:WoL w) (hw:WoW N w):WoW 36 w:=⟨h.caller.w hw.caller,h.answerer.w hw.answerer,hw.calls,hw.answers,hw.up,hw.down⟩
theorem sayWM_loc {w:Wo} (h:WoL w) (side:Int):WoL (sayWM w side):=by
 unfold sayWM
 split
 ·split
  ·exact ⟨(writeM_loc h.caller).1,h.answerer⟩
  ·exact h
 ·split
  ·split
   ·exact ⟨h.caller,(writeM_loc h.answerer).1⟩
   ·exact h
  ·exact h
theorem passM_loc {N:Nat} {w:Wo} (hw:WoW N w) (h:WoL w) (way n:Int):WoL (passM w way n):=by
 unfold passM
 split
 ·split
  ·exact ⟨h.caller,hearWM_loc hw.answerer h.answerer _⟩
  ·split
   ·exact ⟨hearWM_loc hw.caller h.caller _,h.answerer⟩
   ·exact h
 ·exact h
theorem doM_loc {N:Nat} {w:Wo} (hw:WoW N w) (h:WoL w) (v:Ev):WoL (doM w v):=by
 unfold doM
 split
 ·exact ⟨callM_loc h.caller _ _,h.answerer⟩
 ·split
  ·exact ⟨leaveM_loc h.caller _,h.answerer⟩
  ·split
   ·exact sayWM_loc h _
   ·split
    ·exact passM_loc hw h _ _
    ·exact h
theorem doM_all {w:Wo} (hw:WoW 36 w) (h:WoL w) (v:Ev):WoW 36 (doM w v)∧WoL (doM w v):=by
 have h1:=doM_loc hw h v
 exact ⟨h1.w (doM_w (hw.mono (show 36≤642 by decide)) (Nat.le_refl _) v),h1⟩
theorem play_all:∀(l:List Ev) (w:Wo),WoW 36 w→WoL w→WoW 36 (l.foldl doM w)∧WoL (l.foldl doM w)
 | [],w,hw,h=>⟨hw,h⟩
 | v :: l,w,hw,h=>by
  obtain ⟨a,b⟩:=doM_all hw h v
  exact play_all l (doM w v) a b
theorem playM_all (l:List Ev):WoW 36 (playM l)∧WoL (playM l):=play_all l newWo (newWo_w.mono (by decide)) ⟨loc_new _,loc_new _⟩
theorem WoW.ok {w:Wo} (h:WoW 36 w):woOk w=true:=woOk_iff.2 (h.mono (by decide))
end
section
def Inc (e:En):Prop:=e.bad=true∨(frR e.came).2.2=0
theorem hearsM_stops:∀(n:Nat) (e:En),e.came.length < n→Inc (hearsM n e)
 | 0,e,h=>absurd h (Nat.not_lt_zero _)
 | n+1,e,h=>by
  unfold hearsM
  split
  ·rename_i hb; exact .inl hb
  ·simp only
   split
   ·exact .inl rfl
   ·split
    ·rename_i h0; exact .inr h0
    ·rename_i h1 h2
     obtain ⟨g1,g2,g3,g4⟩:=frR_some (b:=e.came) (by omega)
     refine hearsM_stops n _ ?_
     rw [frameM_came]
     simp only [List.length_drop]; omega
theorem hearM_inc (e:En) (b:List UInt8):Inc (hearM e b):=hearsM_stops _ _ (by simp)
theorem hearWM_inc {e:En} (h:Inc e) (b:List UInt8):Inc (hearWM e b):=by
 unfold hearWM
 split
 ·exact h
 ·exact hearM_inc e b
theorem hearsM_idle {e:En} (h:Inc e):∀n,hearsM n e=e
 | 0=>rfl
 | n+1=>by
  unfold hearsM
  rcases h with h | h
  ·rw [if_pos h]
  ·split
   ·rfl
   ·simp only
    rw [if_neg (by omega),if_pos h]
theorem hearM_idle {e:En} (h:Inc e):hearM e []=e:=by
 unfold hearM
 simp only [List.append_nil]
 exact hearsM_idle h _
theorem hearWM_idle {e:En} (h:Inc e):hearWM e []=e:=by
 unfold hearWM
 split
 ·rfl
 ·exact hearM_idle h
theorem saysM_cb:∀(n k:Nat) (e:En),(saysM n k e).1.came=e.came∧(saysM n k e).1.bad=e.bad
 | 0,k,e=>⟨rfl,rfl⟩
 | n+1,k,e=>by
  obtain ⟨b1,b2⟩:=saysM_cb n (k+1) (sayM e k).1
  have a:(sayM e k).1.came=e.came∧(sayM e k).1.bad=e.bad:=by
   unfold sayM
   simp only
   split
   ·exact ⟨rfl,rfl⟩
   ·have h1:∀x s,(beginM x s).1.came=x.came∧(beginM x s).1.bad=x.bad:=fun x s=>by unfold beginM; split <;> exact ⟨rfl,rfl⟩
    have h2:∀x s,(pieceM x s).1.came=x.came∧(pieceM x s).1.bad=x.bad:=fun x s=>by unfold pieceM; split <;> exact ⟨rfl,rfl⟩
    exact ⟨(h2 _ _).1.trans (h1 _ _).1,(h2 _ _).2.trans (h1 _ _).2⟩
  exact ⟨b1.trans a.1,b2.trans a.2⟩
theorem waitM_cb:∀(l:List Fr) (e:En),(waitM e l).1.came=e.came∧(waitM e l).1.bad=e.bad
 | [],e=>⟨rfl,rfl⟩
 | f :: l,e=>by
  obtain ⟨b1,b2⟩:=waitM_cb l (roomM e f)
  have a:(roomM e f).came=e.came∧(roomM e f).bad=e.bad:=by
   unfold roomM
   split
   ·exact ⟨rfl,rfl⟩
   ·split
    ·exact ⟨rfl,rfl⟩
    ·split <;> exact ⟨rfl,rfl⟩
  exact ⟨b1.trans a.1,b2.trans a.2⟩
theorem writeM_cb (e:En):(writeM e).1.came=e.came∧(writeM e).1.bad=e.bad:=by
 obtain ⟨a1,a2⟩:=waitM_cb e.wait e
 obtain ⟨b1,b2⟩:=saysM_cb e.strs.length 0 { (waitM e e.wait).1 with wait:=[] }
 exact ⟨b1.trans a1,b2.trans a2⟩
theorem callM_cb (e:En) (p t:List UInt8):(callM e p t).1.came=e.came∧(callM e p t).1.bad=e.bad:=by unfold callM; split <;> exact ⟨rfl,rfl⟩
theorem leaveM_cb (e:En) (id:Int):(leaveM e id).1.came=e.came∧(leaveM e id).1.bad=e.bad:=by
 unfold leaveM
 split
 ·exact ⟨rfl,rfl⟩
 ·split <;> exact ⟨rfl,rfl⟩
theorem Inc.of {e x:En} (h:Inc e) (hx:x.came=e.came∧x.bad=e.bad):Inc x:=by unfold Inc at *; rw [hx.1,hx.2]; exact h
structure WoI (w:Wo):Prop where
 caller:Inc w.caller
 answerer:Inc w.answerer
theorem doM_inc {w:Wo} (h:WoI w) (v:Ev):WoI (doM w v):=by
 unfold doM
 split
 ·exact ⟨h.caller.of (callM_cb _ _ _),h.answerer⟩
 ·split
  ·exact ⟨h.caller.of (leaveM_cb _ _),h.answerer⟩
  ·split
   ·unfold sayWM
    split
    ·split
     ·exact ⟨h.caller.of (writeM_cb _),h.answerer⟩
     ·exact h
    ·split
     ·split
      ·exact ⟨h.caller,h.answerer.of (writeM_cb _)⟩
      ·exact h
     ·exact h
   ·split
    ·unfold passM
     split
     ·split
      ·exact ⟨h.caller,hearWM_inc h.answerer _⟩
      ·split
       ·exact ⟨hearWM_inc h.caller _,h.answerer⟩
       ·exact h
     ·exact h
    ·exact h
theorem newEn_inc (a:Bool):Inc (newEn a):=.inr rfl
theorem play_inc:∀(l:List Ev) (w:Wo),WoI w→WoI (l.foldl doM w)
 | [],w,h=>h
 | v :: l,w,h=>play_inc l (doM w v) (doM_inc h v)
theorem playM_inc (l:List Ev):WoI (playM l):=play_inc l newWo ⟨newEn_inc _,newEn_inc _⟩
structure WoP (w:Wo):Prop where
 loc:WoL w
 inc:WoI w
theorem playM_p (l:List Ev):WoP (playM l):=⟨(playM_all l).2,playM_inc l⟩
def WoAll (w:Wo):Prop:=WoW 36 w∧WoP w
theorem WoP.all {w:Wo} (h:WoP w) (hok:woOk w=true):WoAll w:=⟨h.loc.w (woOk_iff.1 hok),h⟩
theorem WoAll.step {w:Wo} (h:WoAll w) (v:Ev):WoAll (doM w v):=⟨(doM_all h.1 h.2.loc v).1,(doM_all h.1 h.2.loc v).2,doM_inc h.2.inc v⟩
theorem WoAll.ok {w:Wo} (h:WoAll w):woOk w=true:=h.1.ok
theorem WoAll.idle {w:Wo} (h:WoAll w):(w.up=[]→passM w 0 90=w)∧(w.down=[]→passM w 1 90=w):=by
 constructor
 ·intro q
  unfold passM
  rw [if_pos (by decide),if_pos rfl,q]
  simp only [List.take_nil,List.drop_nil,hearWM_idle h.2.inc.answerer]
  rw [←q]
 ·intro q
  unfold passM
  rw [if_pos (by decide),if_neg (by decide),if_pos rfl,q]
  simp only [List.take_nil,List.drop_nil,hearWM_idle h.2.inc.caller]
  rw [←q]
end
end Go.Proofs.YtodjmflbakfmjaaGreatDoor
