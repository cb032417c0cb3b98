/- A part of the proof: contracts of functions, or plain facts on which these lean. -/
import Derived.Test.YtdplmibomopkcaaGreatOa18
import Derived.Test.YtdplmibomopkcaaGreatOa26
import Derived.Test.YtdplmibomopkcaaGreatOa28
import Derived.Test.YtdplmibomopkcaaGreatOa29
import Derived.Test.YtdplmibomopkcaaGreatOa34
namespace Go.Proofs.YtdplmibomopkcaaGreat
open Go
set_option linter.unusedVariables false
set_option linter.unusedSimpArgs false
set_option maxRecDepth 100000
set_option maxHeartbeats 16000000

section
def texts:List St→Nat
 | []=>0
 | s :: l=>s.text.length+texts l
def more1:List Fr→Nat
 | []=>0
 | f :: l=>(if f.stream=0 then 0 else byteAt f.body 0)+more1 l
structure HeardR (e x:En) (w:List Fr) (n:Nat):Prop where
 wait:x.wait=e.wait++w
 kinds:∀f ∈ w,f.kind=8∧0 < f.body.length
 all:more0 w=n
 own:more1 w=n
 room:x.room=e.room - n
 text:texts x.strs=texts e.strs+n
theorem HeardR.none {e x:En} (h1:x.wait=e.wait) (h2:x.room=e.room) (h3:texts x.strs=texts e.strs):HeardR e x [] 0 :=
 ⟨by simp [h1],by simp,rfl,rfl,by simp [h2],by simp [h3]⟩
def HL (e:En):Prop:=∀s ∈ e.strs,s.head.length≤3
theorem HL.at_ {e:En} (h:HL e) {i:Nat} (hi:i < e.strs.length):(stAt e i).head.length≤3:=by
 rw [stAt,getD_lt st0 hi]; exact h _ (List.getElem_mem hi)
theorem HL.set {e:En} (h:HL e) {k:Nat} {s:St} (hs:s.head.length≤3):HL (setSt e k s):=fun t ht=>by
 rcases List.mem_or_eq_of_mem_set ht with z | z
 ·exact h t z
 ·rw [z]; exact hs
theorem doneM_hl (ans:Bool) {s:St} (h:s.head.length≤3):(doneM ans s).head.length≤3:=by
 unfold doneM; split
 ·exact h
 ·split
  ·simp [askM]
  ·exact h
theorem frameM_hl {e:En} (h:HL e) (f:Fr):HL (frameM e f):=by
 have hg:HL (growM e f.stream):=by
  unfold growM; split
  ·intro s hs
   rcases List.mem_append.1 hs with z | z
   ·exact h s z
   ·rw [List.mem_singleton.1 z]; simp [newSt]
  ·exact h
 unfold frameM
 split
 ·unfold headFM
  simp only
  split
  ·rename_i t hd k hr hk
   split
   ·exact hg
   ·refine HL.set (e:={ growM e f.stream with inn:=t }) hg ?_
    have:=hg.at_ (atM_some hk).1
    split
    ·exact doneM_hl _ this
    ·exact this
  ·exact hg
 ·split
  ·unfold dataM
   split
   ·exact h
   ·rename_i k hk
    simp only
    split
    ·exact h
    ·refine HL.set (e:={ e with room:=_,wait:=_ }) h ?_
     have:=h.at_ (atM_some hk).1
     split
     ·exact doneM_hl _ this
     ·exact this
  ·split
   ·unfold moreM
    split
    ·exact h
    ·split
     ·exact h
     ·rename_i k hk
      exact HL.set (e:={ e with bad:=_ }) h (h.at_ (atM_some hk).1)
   ·split
    ·exact h
    ·rename_i k hk
     split
     ·exact h
     ·exact HL.set h (h.at_ (atM_some hk).1)
theorem hearsM_hl:∀(n:Nat) (e:En),HL e→HL (hearsM n e)
 | 0,e,h=>h
 | n+1,e,h=>by
  unfold hearsM
  split
  ·exact h
  ·simp only
   split
   ·exact h
   ·split
    ·exact h
    ·exact hearsM_hl n _ (frameM_hl (e:={ e with came:=e.came.drop (frR e.came).2.1 }) h _)
theorem hearWM_hl {e:En} (h:HL e) (b:List UInt8):HL (hearWM e b):=by
 unfold hearWM
 split
 ·exact h
 ·exact hearsM_hl _ { e with came:=e.came++b } h
theorem Sid0.hl {e:En} (h:Sid0 e):HL e:=fun s hs=>by
 obtain ⟨k,hk,rfl⟩:=List.getElem_of_mem hs
 have:=head_short h hk
 rwa [stAt,getD_lt st0 hk] at this
theorem gone_silent {N:Nat} {e x:En} {fs:List Fr} (hW:EnW N e) (h:WrS e x fs) {k:Nat} (hk:k < e.strs.length) (h3:(stAt e k).state≠1):∀f ∈ fs,f.stream≠(stAt e k).id:=fun f hf q=>by
 obtain ⟨i,i1,i2,i3⟩:=h.of f hf
 have:=hW.inj i1 hk (i2.symm.trans q)
 subst this
 exact h3 i3
end
section
theorem Drawn.hl {w:Wo} (h:Drawn w):HL w.caller∧HL w.answerer:=by
 obtain ⟨l,_,_,hs⟩:=h
 have h:=playM_pl l
 generalize playM l=x at *
 obtain ⟨fu,fd,hy⟩:=h.syn
 have h1:=hy.j.C.hl
 have h2:=hy.j.A.hl
 cases hs with
 | none=>exact ⟨h1,h2⟩
 | ans=>exact ⟨h1,h2⟩
 | up o ho=>exact ⟨h1,h2⟩
 | table t m _ _=>exact ⟨h1,h2⟩
 | id k _ hl _ =>
  refine ⟨fun s hs=>?_,h2⟩
  rcases List.mem_or_eq_of_mem_set hs with z | z
  ·exact h1 s z
  ·rw [z]
   show (x.caller.strs.getD 0 st0).head.length≤3
   match q:x.caller.strs with
   | []=>simp [st0]
   | y :: ys=>exact h1 y (by rw [q]; simp)
theorem DrawnE.hl {e:En} {wire:List UInt8} (h:DrawnE e wire):HL e:=by
 obtain ⟨w,hw,⟨rfl,_⟩ | ⟨rfl,_⟩⟩:=h
 ·exact hw.hl.1
 ·exact hw.hl.2
structure EnL (e:En):Prop where
 w:EnW 36 e
 loc:Loc e
 inc:Inc e
 hl:HL e
theorem DrawnE.l {e:En} {wire:List UInt8} (h:DrawnE e wire) (hok:endOk e=true):EnL e:=by
 obtain ⟨h1,h2⟩:=h.loc
 exact ⟨h1.w (endOk_iff.1 hok),h1,h2,h.hl⟩
theorem EnL.ok {e:En} (h:EnL e):endOk e=true:=endOk_iff.2 (h.w.mono (by decide))
end
section
open Go
theorem EnDr.newE {S:List Blk} {b:Nat} {bs:List UInt8} {P:Nat} {e:En} {b1 c1:Nat} {S':List Blk} (h:EnDr S b bs P e b1 c1 S') (hb:S.length≤b):EnNew S e b1 c1 S' :=
 ⟨h.at_,h.hb,h.hc,(Upd.refl [] S).then_ h.upd (fun j hj hm=>by simp at hm; omega)⟩
theorem WoDr.newW {S:List Blk} {b:Nat} {bs:List UInt8} {P:Nat} {w:Wo} {b1 c1 d1 f1:Nat} {S':List Blk} (h:WoDr S b bs P w b1 c1 d1 f1 S') (hb:S.length≤b):WoNew S w b1 c1 d1 f1 S' :=
 ⟨h.at_,h.hb,h.hc,h.hd,h.hf,(Upd.refl [] S).then_ h.upd (fun j hj hm=>by simp at hm; omega)⟩
theorem en0_bE:EnB en0:=⟨by simp [en0],by simp [en0],by simp [en0],⟨by simp [en0],by simp [en0]⟩,⟨by simp [en0],by simp [en0]⟩,by simp [en0]⟩
structure DrW (e:En):Prop where
 b:EnB e
 hl:HL e
theorem DrawnE.w {e:En} {wire:List UInt8} (h:DrawnE e wire):DrW e:=⟨h.b.1,h.hl⟩
theorem DrawnE.heard {e:En} {wire:List UInt8} (h:DrawnE e wire) (b:List UInt8):DrW (endHearM e b):=by
 rw [endHearM]
 split
 ·exact ⟨en0_bE,fun s hs=>by cases hs⟩
 ·rename_i hc
  have hE:endOk e=true:=by cases q:endOk e <;> simp_all
  exact ⟨(hearWM_w ((endOk_w hE).mono (show 60≤642 by decide)) (by decide) b).1.b (by decide),hearWM_hl h.hl b⟩
theorem DrawEndWrite_ok (code:List UInt8) (hc:code.length≤1073741824) (S:List Blk) :
  VCall Tryz.prog 7 [.rows none (code.map u8V)] S fun r S'=>∃(e:En) (b1 c1:Nat),DrW e∧r=eV b1 c1 e∧EnNew S e b1 c1 S':=by
 refine VCall.ex hDe (fun _=>false) (fun id=>if id=4 then [8,8,8,8,8,8,1000000,1000000,9,7] else []) Tryz.func7 Tryz.ntmps7 Tryz.results7 ?_
 simp -implicitDefEqProofs (disch:=omega) only [push_cast,simprocAttr,↓gd]
 refine (l6Open_ok code hc _).to ?_
 simp -implicitDefEqProofs (disch:=omega) only [push_cast,simprocAttr,↓gd]
 generalize hbs:code.take 2000=bs
 have hbl:bs.length≤2000:=by rw [←hbs,List.length_take]; omega
 refine (l72End_ok bs (S.length+1) 0 (by omega) hbl _ (by simp -implicitDefEqProofs (disch:=omega) only [push_cast,simprocAttr,↓gd])).mono ?_
 rintro r S1 ⟨e,wire,P,b1,c1,he,rfl,hP,hdr⟩
 have k0:S1[S.length]?=some (.cells 0 zE):=hdr.upd.get (by simp -implicitDefEqProofs (disch:=omega) only [push_cast,simprocAttr,↓gd]) (by simp)
 have hdr:EnDr S (S.length+1) bs P e b1 c1 S1:=hdr.mk'
 have kr:=hdr.rd
 have lr:=lt_of_some kr
 have l0:=lt_of_some k0
 have v0:=hdr.at_.var k0
 obtain ⟨hB,hwl⟩:=he.b
 have hS2b:∀B X,(S1.set (S.length+1) B++X)[S.length+1]?=some B:=fun B X=>stC lr _ _
 have h0:=hdr.hb; have h0':=hdr.hc
 simp -implicitDefEqProofs (disch:=omega) only [push_cast,simprocAttr,↓gd]
 refine (pickI bs (S.length+1) P 2 _ (by simp) (by omega) (by omega) hbl _ (by rw [List.getElem?_append_left lr]; exact kr)).mono ?_
 rintro r S2 ⟨⟨q,hq,rfl⟩,rfl⟩
 have fin:∀X:List Blk,∃r S2,Wk S (eV b1 c1 e) ((S1.set (S.length+1) (Rd bs (P+1))).set S.length (.cells 0 (enC (.heap b1 e.strs.length) (.heap c1 e.wait.length) e))++X) r S2∧∃(e:En) (b1 c1:Nat),DrW e∧r=eV b1 c1 e∧EnNew S e b1 c1 S2 :=
  fun X=>⟨_,_,Wk.refl _ _ _,e,b1,c1,he.w,rfl,(((hdr.draw (P+1)).set (j:=S.length) _ (Nat.le_refl _) v0 (by omega)).app X).newE (by omega)⟩
 by_cases q0:q=0
 ·subst q0
  by_cases hw:(wire.length:Int) > 0
  ·have emin:(if (60:Int) < (wire.length:Int) then (60:Int) else (wire.length:Int))=((min wire.length 60:Nat):Int):=by omega
   have hmin:min wire.length 60≤wire.length:=by omega
   have hxw:=he.heard (wire.take (min wire.length 60))
   have hH:=fun (T:List Blk) (q:EnAt T b1 c1 e)=>sEndHear_ok hB (wire.take (min wire.length 60)) (by rw [List.length_take]; omega) q
   generalize endHearM e (wire.take (min wire.length 60))=x at *
   simp -implicitDefEqProofs (disch:=omega) only [push_cast,simprocAttr,stA lr,stB lr,hw,emin,↓gd]
   refine ⟨by omega,by omega,?_⟩
   refine ((hH _ ((hdr.draw (P+1)).at_.app _)).as (by simp [eV,enV,enC])).mono ?_
   rintro r S3 ⟨b3,c3,rfl,q3⟩
   have m0:=q3.upd.get (j:=S.length) (B:=.cells 0 zE) (by simp -implicitDefEqProofs (disch:=omega) only [push_cast,simprocAttr,k0,↓gd]) (by simp)
   have m1:=q3.upd.get (j:=S1.length) (B:=.cells 0 (enC (.heap b1 e.strs.length) (.heap c1 e.wait.length) e)) (by simp -implicitDefEqProofs (disch:=omega) only [push_cast,simprocAttr,↓gd]) (by simp)
   have e3:=q3.hb; have e3':=q3.hc
   simp at e3 e3'
   have lu:=hdr.upd.1
   have lm0:=lt_of_some m0
   have lm1:=lt_of_some m1
   have hat3:=((hdr.draw (P+1)).at_.app _).upd q3.upd (by simp) (by simp)
   simp -implicitDefEqProofs (disch:=omega) only [push_cast,simprocAttr,m1,↓gd]
   refine ⟨rfl,?_⟩
   refine ((sEndOk_at hxw.b (q3.at_.app _)).as (by simp [eV,enV,enC])).to ?_
   cases hxo:endOk x
   ·simp -implicitDefEqProofs (disch:=omega) only [push_cast,simprocAttr,m0,m1,↓gd]
    exact ⟨_,_,Wk.refl _ _ _,e,b1,c1,he.w,rfl,⟨(hat3.set _ v0.1 v0.2).app _,by omega,by omega,(((((Upd.refl [] S).then_ (hdr.draw (P+1)).upd (fun j hj hm=>by simp at hm; omega)).app _).trans q3.upd).set _ (.inl (Nat.le_refl _))).app _⟩⟩
   ·simp -implicitDefEqProofs (disch:=omega) only [push_cast,simprocAttr,m0,m1,↓gd]
    exact ⟨_,_,Wk.refl _ _ _,x,b3,c3,hxw,rfl,⟨(q3.at_.set _ (by omega) (by omega)).app _,by omega,by omega,(((((Upd.refl [] S).then_ (hdr.draw (P+1)).upd (fun j hj hm=>by simp at hm; omega)).app _).trans q3.upd).set _ (.inl (Nat.le_refl _))).app _⟩⟩
  ·simp -implicitDefEqProofs (disch:=omega) only [push_cast,simprocAttr,stA lr,stB lr,hw,k0,↓gd]
   exact fin _
 ·have q0':¬(q:Int)=0:=by omega
  simp -implicitDefEqProofs (disch:=omega) only [push_cast,simprocAttr,stA lr,stB lr,q0',k0,↓gd]
  exact fin _
theorem Drawn.w2 {w:Wo} (h:Drawn w):((∃wire,DrawnE w.caller wire)∧w.caller.strs.length≤4)∧((∃wire,DrawnE w.answerer wire)∧w.answerer.strs.length≤4):=by
 refine ⟨⟨⟨_,w,h,.inl ⟨rfl,rfl⟩⟩,?_⟩,⟨_,w,h,.inr ⟨rfl,rfl⟩⟩,?_⟩
 ·obtain ⟨l,_,_,hs⟩:=h
  have hP:=(playM_pl l).all.1.caller.sts
  generalize playM l=x at *
  have:=stsOk_len hP
  cases hs with
  | none=>exact this
  | ans=>exact this
  | up o ho=>exact this
  | table t m _ _=>exact this
  | id k _ hl _=>simpa using this
 ·obtain ⟨l,_,_,hs⟩:=h
  have hP:=(playM_pl l).all.1.answerer.sts
  generalize playM l=x at *
  have:=stsOk_len hP
  cases hs with
  | none=>exact this
  | ans=>exact this
  | up o ho=>exact this
  | table t m _ _=>exact this
  | id k _ hl _=>exact this
theorem DrawEndLeave_ok (code:List UInt8) (hc:code.length≤1073741824) (S:List Blk) :
  VCall Tryz.prog 12 [.rows none (code.map u8V)] S fun r S'=>∃(e:En) (id:Int) (b1 c1:Nat),(∃wire,DrawnE e wire)∧r=.tup [eV b1 c1 e,.int .i64 id]∧EnNew S e b1 c1 S':=by
 refine VCall.ex hDe (fun _=>false) (fun id=>if id=11 then [7,9,9,9,9,9,9,9,9] else if id=12 then [3,2,3,5,5] else []) Tryz.func12 Tryz.ntmps12 Tryz.results12 ?_
 simp -implicitDefEqProofs (disch:=omega) only [push_cast,simprocAttr,↓gd]
 refine (l6Open_ok code hc _).to ?_
 simp -implicitDefEqProofs (disch:=omega) only [push_cast,simprocAttr,↓gd]
 generalize hbs:code.take 2000=bs
 have hbl:bs.length≤2000:=by rw [←hbs,List.length_take]; omega
 refine (l72World_ok bs (S.length+1) 0 (by omega) hbl _ (by simp -implicitDefEqProofs (disch:=omega) only [push_cast,simprocAttr,↓gd])).mono ?_
 rintro r S1 ⟨w,P,b1,c1,d1,f1,hw,rfl,hP,hdr⟩
 have k0:S1[S.length]?=some (.cells 0 zE):=hdr.upd.get (by simp -implicitDefEqProofs (disch:=omega) only [push_cast,simprocAttr,↓gd]) (by simp)
 have hdr:WoDr S (S.length+1) bs P w b1 c1 d1 f1 S1:=hdr.mk'
 have kr:=hdr.rd
 have lr:=lt_of_some kr
 have l0:=lt_of_some k0
 have v0:=hdr.at_.var k0
 have hB:=hw.b
 have lu:=hdr.upd.1
 simp -implicitDefEqProofs (disch:=omega) only [push_cast,simprocAttr,↓gd]
 refine (pickI bs (S.length+1) P 10 _ (by simp) (by omega) (by omega) hbl _ (by rw [List.getElem?_append_left lr]; exact kr)).mono ?_
 rintro r S2 ⟨⟨q,hq,rfl⟩,rfl⟩
 obtain ⟨hw1,hw2⟩:=hw.w2
 obtain ⟨vb,vc,vd,vf⟩:=id v0
 have hnew:∀(Q:Nat) (B:Blk) (X:List Blk),WoNew S w b1 c1 d1 f1 ((S1.set (S.length+1) (Rd bs Q)).set S.length B++X):=fun Q B X=>(((hdr.draw Q).set (j:=S.length) B (Nat.le_refl _) v0 (by omega)).app X).newW (by omega)
 have hen:∀(Q:Nat) (X:List Blk),WoAt (S1.set (S.length+1) (Rd bs Q)++X) b1 c1 d1 f1 w:=fun Q X=>(hdr.draw Q).at_.app X
 have hS2b:∀B X,(S1.set (S.length+1) B++X)[S.length+1]?=some B:=fun B X=>stC lr _ _
 obtain ⟨e,be,ce,he,hlen,hne,hat,hq2⟩:∃e be ce,(∃wire,DrawnE e wire)∧e.strs.length≤4∧(∀(Q:Nat) (B:Blk) (X:List Blk),EnNew S e be ce ((S1.set (S.length+1) (Rd bs Q)).set S.length B++X))∧(∀(Q:Nat) (X:List Blk),EnAt (S1.set (S.length+1) (Rd bs Q)++X) be ce e)∧((q=0∧w.answerer=e∧d1=be∧f1=ce)∨(q≠0∧w.caller=e∧b1=be∧c1=ce)):=by
  by_cases q0:q=0
  ·exact ⟨w.answerer,d1,f1,hw2.1,hw2.2,fun Q B X=>⟨(hnew Q B X).at_.answerer,(hnew Q B X).hd,(hnew Q B X).hf,(hnew Q B X).upd⟩,fun Q X=>(hen Q X).answerer,.inl ⟨q0,rfl,rfl,rfl⟩⟩
  ·exact ⟨w.caller,b1,c1,hw1.1,hw1.2,fun Q B X=>⟨(hnew Q B X).at_.caller,(hnew Q B X).hb,(hnew Q B X).hc,(hnew Q B X).upd⟩,fun Q X=>(hen Q X).caller,.inr ⟨q0,rfl,rfl,rfl⟩⟩
 have fin:∀(id:Int) (Q:Nat) (X:List Blk),∃r S2,Wk S (.tup [eV be ce e,.int .i64 id]) ((S1.set (S.length+1) (Rd bs Q)).set S.length (.cells 0 (enC (.heap be e.strs.length) (.heap ce e.wait.length) e))++X) r S2∧∃(e:En) (id:Int) (b1 c1:Nat),(∃wire,DrawnE e wire)∧r=.tup [eV b1 c1 e,.int .i64 id]∧EnNew S e b1 c1 S2 :=
  fun id Q X=>⟨_,_,Wk.refl _ _ _,e,id,be,ce,he,rfl,hne Q _ X⟩
 rcases hq2 with ⟨rfl,h1,h2,h3⟩ | ⟨q0,h1,h2,h3⟩
 ·subst h2 h3
  rw [←h1] at hne hat fin hlen
  simp -implicitDefEqProofs (disch:=omega) only [push_cast,simprocAttr,stA lr,stB lr,↓gd]
  refine wpV_loop (fun m t S'=>∃i Q:Nat,m=6 - i∧i≤6∧Q≤P+1+2 * i∧t 2=.ptr S.length 0∧t 4=.ptr (S.length+1) 0∧t 6=.ptr (S1.length+1) 0∧t 7=.int .i64 i ∧
   S'=S1.set (S.length+1) (Rd bs Q)++[.cells 0 (wC b1 c1 d1 f1 w),.cells 0 (enC (.heap d1 w.answerer.strs.length) (.heap f1 w.answerer.wait.length) w.answerer)]) 6 ⟨0,P+1,by omega,by omega,by omega,rfl,rfl,rfl,rfl,rfl⟩ ?_
  rintro m t S' ⟨i,Q,rfl,hi,hQ,t2,t4,t6,t7,rfl⟩
  refine wpV_of hDe (fun _=>false) (fun id=>if id=11 then [7,9,9,9,9,9,9,9,9] else []) (by kernel_rfl) ?_
  by_cases hi6:i < 6
  ·have hi':(i:Int) < 6:=by omega
   have hsl:=strsC_len w.answerer.strs
   have hbe:=(hat Q []).1
   rw [List.append_nil] at hbe
   simp -implicitDefEqProofs (disch:=omega) only [push_cast,simprocAttr,t2,t4,t6,t7,hi',↓gd]
   refine (pickI bs (S.length+1) Q (w.answerer.strs.length+1) _ (by simp) (by omega) (by omega) hbl _ (hS2b _ _)).mono ?_
   rintro r S2 ⟨⟨k,hk,rfl⟩,rfl⟩
   have hb2:=(hat (Q+1) []).1
   rw [List.append_nil] at hb2
   by_cases hkl:k < w.answerer.strs.length
   ·have hkl':(k:Int) < w.answerer.strs.length:=by omega
    have c0:=strsC_get hkl (c:=0) (by decide)
    have c1':=strsC_get hkl (c:=1) (by decide)
    simp only [strC,Nat.add_zero] at c0 c1'
    generalize w.answerer.strs.getD k st0=s at *
    by_cases h1:s.state=1
    ·simp -implicitDefEqProofs (disch:=omega) only [push_cast,simprocAttr,t2,t4,t6,t7,stA lr,stB lr,hkl',hb2,c0,c1',h1,k0,↓gd]
     repeat refine And.intro (by omega) ?_
     exact ⟨(hne _ _ _).at_.1,fin _ _ _⟩
    ·simp -implicitDefEqProofs (disch:=omega) only [push_cast,simprocAttr,t2,t4,t6,t7,stA lr,stB lr,hkl',hb2,c0,c1',h1,k0,↓gd]
     repeat refine And.intro (by omega) ?_
     refine (pickI bs (S.length+1) (Q+1) 6 _ (by simp) (by omega) (by omega) hbl _ (hS2b _ _)).mono ?_
     rintro r S2 ⟨⟨j,hj,rfl⟩,rfl⟩
     have hb3:=(hat (Q+1+1) []).1
     rw [List.append_nil] at hb3
     by_cases hj0:j=0
     ·subst hj0
      simp -implicitDefEqProofs (disch:=omega) only [push_cast,simprocAttr,t2,t4,t6,t7,stA lr,stB lr,hkl',hb3,c0,c1',h1,k0,↓gd]
      repeat refine And.intro (by omega) ?_
      exact ⟨(hne _ _ _).at_.1,fin _ _ _⟩
     ·have hj0':¬(j:Int)=0:=by omega
      simp -implicitDefEqProofs (disch:=omega) only [push_cast,simprocAttr,t2,t4,t6,t7,stA lr,stB lr,hkl',hb3,c0,c1',h1,hj0',↓gd]
      exact ⟨6 - (i+1),by omega,i+1,Q+1+1,rfl,by omega,by omega,by simp⟩
   ·have hkl':¬(k:Int) < w.answerer.strs.length:=by omega
    simp -implicitDefEqProofs (disch:=omega) only [push_cast,simprocAttr,t2,t4,t6,t7,stA lr,stB lr,hkl',↓gd]
    exact ⟨6 - (i+1),by omega,i+1,Q+1,rfl,by omega,by omega,by simp⟩
  ·have hi':¬(i:Int) < 6:=by omega
   simp -implicitDefEqProofs (disch:=omega) only [push_cast,simprocAttr,t2,t4,t6,t7,hi',↓gd]
   refine (pickI bs (S.length+1) Q 9 _ (by simp) (by omega) (by omega) hbl _ (hS2b _ _)).mono ?_
   rintro r S2 ⟨⟨j,hj,rfl⟩,rfl⟩
   simp -implicitDefEqProofs (disch:=omega) only [push_cast,simprocAttr,t2,t4,t6,t7,stA lr,stB lr,k0,↓gd]
   exact fin _ _ _
 ·subst h2 h3
  rw [←h1] at hne hat fin hlen
  have q0':¬(q:Int)=0:=by omega
  simp -implicitDefEqProofs (disch:=omega) only [push_cast,simprocAttr,stA lr,stB lr,q0',↓gd]
  refine wpV_loop (fun m t S'=>∃i Q:Nat,m=6 - i∧i≤6∧Q≤P+1+2 * i∧t 2=.ptr S.length 0∧t 4=.ptr (S.length+1) 0∧t 6=.ptr (S1.length+1) 0∧t 7=.int .i64 i ∧
   S'=S1.set (S.length+1) (Rd bs Q)++[.cells 0 (wC b1 c1 d1 f1 w),.cells 0 (enC (.heap b1 w.caller.strs.length) (.heap c1 w.caller.wait.length) w.caller)]) 6 ⟨0,P+1,by omega,by omega,by omega,rfl,rfl,rfl,rfl,rfl⟩ ?_
  rintro m t S' ⟨i,Q,rfl,hi,hQ,t2,t4,t6,t7,rfl⟩
  refine wpV_of hDe (fun _=>false) (fun id=>if id=11 then [7,9,9,9,9,9,9,9,9] else []) (by kernel_rfl) ?_
  by_cases hi6:i < 6
  ·have hi':(i:Int) < 6:=by omega
   have hsl:=strsC_len w.caller.strs
   have hbe:=(hat Q []).1
   rw [List.append_nil] at hbe
   simp -implicitDefEqProofs (disch:=omega) only [push_cast,simprocAttr,t2,t4,t6,t7,hi',↓gd]
   refine (pickI bs (S.length+1) Q (w.caller.strs.length+1) _ (by simp) (by omega) (by omega) hbl _ (hS2b _ _)).mono ?_
   rintro r S2 ⟨⟨k,hk,rfl⟩,rfl⟩
   have hb2:=(hat (Q+1) []).1
   rw [List.append_nil] at hb2
   by_cases hkl:k < w.caller.strs.length
   ·have hkl':(k:Int) < w.caller.strs.length:=by omega
    have c0:=strsC_get hkl (c:=0) (by decide)
    have c1':=strsC_get hkl (c:=1) (by decide)
    simp only [strC,Nat.add_zero] at c0 c1'
    generalize w.caller.strs.getD k st0=s at *
    by_cases h1:s.state=1
    ·simp -implicitDefEqProofs (disch:=omega) only [push_cast,simprocAttr,t2,t4,t6,t7,stA lr,stB lr,hkl',hb2,c0,c1',h1,k0,↓gd]
     repeat refine And.intro (by omega) ?_
     exact ⟨(hne _ _ _).at_.1,fin _ _ _⟩
    ·simp -implicitDefEqProofs (disch:=omega) only [push_cast,simprocAttr,t2,t4,t6,t7,stA lr,stB lr,hkl',hb2,c0,c1',h1,k0,↓gd]
     repeat refine And.intro (by omega) ?_
     refine (pickI bs (S.length+1) (Q+1) 6 _ (by simp) (by omega) (by omega) hbl _ (hS2b _ _)).mono ?_
     rintro r S2 ⟨⟨j,hj,rfl⟩,rfl⟩
     have hb3:=(hat (Q+1+1) []).1
     rw [List.append_nil] at hb3
     by_cases hj0:j=0
     ·subst hj0
      simp -implicitDefEqProofs (disch:=omega) only [push_cast,simprocAttr,t2,t4,t6,t7,stA lr,stB lr,hkl',hb3,c0,c1',h1,k0,↓gd]
      repeat refine And.intro (by omega) ?_
      exact ⟨(hne _ _ _).at_.1,fin _ _ _⟩
     ·have hj0':¬(j:Int)=0:=by omega
      simp -implicitDefEqProofs (disch:=omega) only [push_cast,simprocAttr,t2,t4,t6,t7,stA lr,stB lr,hkl',hb3,c0,c1',h1,hj0',↓gd]
      exact ⟨6 - (i+1),by omega,i+1,Q+1+1,rfl,by omega,by omega,by simp⟩
   ·have hkl':¬(k:Int) < w.caller.strs.length:=by omega
    simp -implicitDefEqProofs (disch:=omega) only [push_cast,simprocAttr,t2,t4,t6,t7,stA lr,stB lr,hkl',↓gd]
    exact ⟨6 - (i+1),by omega,i+1,Q+1,rfl,by omega,by omega,by simp⟩
  ·have hi':¬(i:Int) < 6:=by omega
   simp -implicitDefEqProofs (disch:=omega) only [push_cast,simprocAttr,t2,t4,t6,t7,hi',↓gd]
   refine (pickI bs (S.length+1) Q 9 _ (by simp) (by omega) (by omega) hbl _ (hS2b _ _)).mono ?_
   rintro r S2 ⟨⟨j,hj,rfl⟩,rfl⟩
   simp -implicitDefEqProofs (disch:=omega) only [push_cast,simprocAttr,t2,t4,t6,t7,stA lr,stB lr,k0,↓gd]
   exact fin _ _ _
end
section
open Go
theorem three {a b c:Int} {x:Nat} (h:x < 3):∃z:Int,[V.int .i64 a,V.int .i64 b,V.int .i64 c].getD x .junk=.int .i64 z:=by
 rcases (by omega:x=0∨x=1∨x=2) with rfl | rfl | rfl <;> exact ⟨_,rfl⟩
end
section
open Go
theorem four {a b c d:Int} {x:Nat} (hx:x < 4):∃z:Int,((z=a∨z=b)∨(z=c∨z=d))∧[V.int .i64 a,V.int .i64 b,V.int .i64 c,V.int .i64 d].getD x .junk=.int .i64 z:=by
 rcases (by omega:x=0∨x=1∨x=2∨x=3) with rfl | rfl | rfl | rfl
 ·exact ⟨a,.inl (.inl rfl),rfl⟩
 ·exact ⟨b,.inl (.inr rfl),rfl⟩
 ·exact ⟨c,.inr (.inl rfl),rfl⟩
 ·exact ⟨d,.inr (.inr rfl),rfl⟩
end
section
open Go
theorem lkFields_self (a:List Fd) (ha:a.length≤2000000) (S:List Blk):VCall Tryz.prog 56 [.rows none (a.map fV),.rows none (a.map fV)] S fun r S'=>r=.bool true∧S'=S:=by
 have h:=lkFields_ok a a ha ha S
 rw [decide_eq_true rfl] at h
 exact h
end
section
open Go
theorem lkStream_self (s:St) (hb:StB s) (S:List Blk):VCall Tryz.prog 29 [stV s,stV s] S fun r S'=>r=.bool true∧S'=S:=by
 have h1:=hb.head.1
 have h2:=hb.got.1
 refine VCall.en hD Tryz.func29 Tryz.ntmps29 Tryz.results29 ?_
 simp -implicitDefEqProofs (disch:=omega) only [push_cast,simprocAttr,decide_true,Bool.and_self,↓gd]
 refine ((lkFields_self s.head h1 _).as rfl).to ?_
 simp -implicitDefEqProofs (disch:=omega) only [push_cast,simprocAttr,↓gd]
 refine ((lkFields_self s.got h2 _).as rfl).to ?_
 simp -implicitDefEqProofs (disch:=omega) only [push_cast,simprocAttr,↓gd]
 exact fin1 (.bool _) rfl
theorem lkFrames_self (l:List Fr) (hl:l.length≤1000000) {S:List Blk} {b c:Nat} (hb:S[b]?=some (.cells 4 (frmsC l))) (hc:S[c]?=some (.cells 4 (frmsC l))):VCall Tryz.prog 31 [.heap b l.length,.heap c l.length] S fun r S'=>r=.bool true∧S'=S:=by
 have hlw:=frmsC_len l
 refine VCall.ex hDe (fun _=>false) (fun id=>if id=6 then [9,9,9,9,9,9,9,9,9] else []) Tryz.func31 Tryz.ntmps31 Tryz.results31 ?_
 simp -implicitDefEqProofs (disch:=omega) only [push_cast,simprocAttr,↓gd]
 refine wpV_loop (fun m t S'=>∃i:Nat,m=l.length - i∧i≤l.length∧t 0=.heap b l.length∧t 1=.heap c l.length∧t 5=.int .i64 i∧S'=S) l.length ⟨0,by omega,by omega,rfl,rfl,rfl,rfl⟩ ?_
 rintro m t S' ⟨i,rfl,hi,h0,h1,h5,rfl⟩
 refine wpV_of hDe (fun _=>false) (fun id=>if id=6 then [9,9,9,9,9,9,9,9,9] else []) (by kernel_rfl) ?_
 simp -implicitDefEqProofs (disch:=omega) only [push_cast,simprocAttr,h0,h1,h5,↓gd]
 refine ⟨fun h=>?_,fun h=>?_⟩
 ·have hil:i < l.length:=by omega
  have hat:=frmsC_at hil
  simp -implicitDefEqProofs (disch:=omega) only [push_cast,simprocAttr,h0,h1,h5,hb,hc,hat,decide_true,Bool.and_self,↓gd]
  exact ⟨by omega,by omega,by omega,by omega,by omega,by omega,l.length - (i+1),by omega,i+1,rfl,by omega,by simp⟩
 ·exact fin0 rfl
theorem lkEnd_self {e:En} (he:EnB e) {S:List Blk} {b c d f:Nat} (h1:EnAt S b c e) (h2:EnAt S d f e):VCall Tryz.prog 10 [eV b c e,eV d f e] S fun r S'=>r=.bool true∧S'=S:=by
 have hel:=he.len
 have hwl:=he.wait
 have lb:=lt_of_some h1.1
 have lc:=lt_of_some h1.2
 have ld:=lt_of_some h2.1
 have lf:=lt_of_some h2.2
 have hb:=h1.1
 have hd:=h2.1
 have hlen:=strsC_len e.strs
 have ho:=he.out.1
 have hi:=he.inn.1
 refine VCall.ex hDe (fun _=>false) (fun id=>if id=6 then [10,10,10,10,10,10,10,10,10,10,12,12] else []) Tryz.func10 Tryz.ntmps10 Tryz.results10 ?_
 simp -implicitDefEqProofs (disch:=omega) only [push_cast,simprocAttr,decide_true,Bool.and_self,↓gd]
 refine wpV_loop (fun m t S'=>∃i:Nat,m=e.strs.length - i∧i≤e.strs.length∧t 2=.ptr S.length 0∧t 3=.ptr (S.length+1) 0∧t 5=.int .i64 i∧S'=S++[.cells 0 (enC (.heap b e.strs.length) (.heap c e.wait.length) e),.cells 0 (enC (.heap d e.strs.length) (.heap f e.wait.length) e)]) e.strs.length ⟨0,by omega,by omega,rfl,rfl,rfl,rfl⟩ ?_
 rintro m t S' ⟨i,rfl,hi',h2',h3,h5,rfl⟩
 refine wpV_of hDe (fun _=>false) (fun id=>if id=6 then [10,10,10,10,10,10,10,10,10,10,12,12] else []) (by kernel_rfl) ?_
 by_cases hil:i < e.strs.length
 ·have hil':(i:Int) < e.strs.length:=by omega
  have hat:=strsC_at hil
  simp -implicitDefEqProofs (disch:=omega) only [push_cast,simprocAttr,h2',h3,h5,hil',hb,hd,hat,↓gd]
  repeat refine And.intro (by omega) ?_
  refine ((lkStream_self (e.strs.getD i st0) (he.sts _ (getD_memS hil)) _).as (by simp [stV,strC])).to ?_
  simp -implicitDefEqProofs (disch:=omega) only [push_cast,simprocAttr,h2',h3,h5,↓gd]
  exact ⟨e.strs.length - (i+1),by omega,i+1,rfl,by omega,by simp⟩
 ·have:i=e.strs.length:=by omega
  subst this
  have hil':¬((e.strs.length:Nat):Int) < e.strs.length:=by omega
  simp -implicitDefEqProofs (disch:=omega) only [push_cast,simprocAttr,h2',h3,h5,hil',↓gd]
  refine ((lkTable_self e.out e.outM ho _).as rfl).to ?_
  simp -implicitDefEqProofs (disch:=omega) only [push_cast,simprocAttr,h2',h3,h5,↓gd]
  refine ((lkTable_self e.inn e.innM hi _).as rfl).to ?_
  simp -implicitDefEqProofs (disch:=omega) only [push_cast,simprocAttr,h2',h3,h5,↓gd]
  refine ((lkFrames_self e.wait hwl (b:=c) (c:=f) (S:=_) ?_ ?_).as rfl).to ?_
  ·rw [List.getElem?_append_left lc]; exact h1.2
  ·rw [List.getElem?_append_left lf]; exact h2.2
  simp -implicitDefEqProofs (disch:=omega) only [push_cast,simprocAttr,↓gd]
  exact fin1 (.bool _) rfl
end
section
open Go
theorem take_succ_fr {l:List Fr} {i:Nat} (h:i < l.length):l.take (i+1)=l.take i++[l.getD i fr0]:=by
 rw [List.take_add_one,List.getD_eq_getElem?_getD,List.getElem?_eq_getElem h]; rfl
theorem dat_le (id:Int):∀l:List Fr,(∀f ∈ l,f.body.length≤1000)→dat id l≤1000 * l.length
 | [],_=>by simp [dat]
 | f :: l,h=>by
  have h1:=h f (by simp)
  have h2:=dat_le id l (fun g hg=>h g (by simp [hg]))
  simp only [dat,List.length_cons]
  split <;> omega
end
section
open Go
theorem frW_lenP (f:Fr):(frW f).length=4+f.body.length:=by simp [frW]; omega
theorem Pl.b {w:Wo} (h:Pl w):WoB w:=h.all.1.b (by decide)
theorem bytes_len:∀l:List Fr,l.length≤(bytes l).length
 | []=>by simp [bytes]
 | f :: l=>by have:=bytes_len l; rw [bytes_cons,List.length_append,frW_lenP,List.length_cons]; omega
theorem ok_body {l:List Fr} (h:∀f ∈ l,frameOk f=true):(∀f ∈ l,f.body.length≤1000)∧(∀f ∈ l,f.kind=8→0 < f.body.length):=by
 constructor
 ·intro f hf
  have hok:=h f hf
  rcases frame_cases hok with k | k | k | k <;> unfold frameOk at hok <;> rw [k] at hok <;> simp at hok
  ·omega
  ·omega
  ·rw [hok.2]; simp
  ·omega
 ·intro f hf k
  have hok:=h f hf
  unfold frameOk at hok
  rw [k] at hok
  simp at hok
  omega
end
section
theorem frR_first {f:Fr} {l:List Fr} (hok:∀g ∈ f :: l,frameOk g=true):frR (bytes (f :: l))=(f,4+f.body.length,1)∧(bytes (f :: l)).drop (4+f.body.length)=bytes l:=by
 have hb:bytes (f :: l)++[]=bytes (f :: l):=List.append_nil _
 rcases frR_bytes hb hok with ⟨_,_,z⟩ | ⟨g,gs,e,q,hd⟩
 ·have h1:=z f l rfl
  have:(bytes (f :: l)).length=4+f.body.length+(bytes l).length:=by rw [bytes_cons,List.length_append,frW_lenP]
  omega
 ·cases e
  rw [List.append_nil] at hd
  exact ⟨q,hd⟩
theorem drop_cons_fr {fs:List Fr} {n:Nat} (h:n < fs.length):fs.drop n=fs.getD n fr0 :: fs.drop (n+1):=by
 rw [List.drop_eq_getElem_cons h,getD_lt fr0 h]
theorem bytes_at {fs:List Fr} (hok:∀g ∈ fs,frameOk g=true) {n:Nat} (h:n < fs.length) :
  frR (bytes (fs.drop n))=(fs.getD n fr0,4+(fs.getD n fr0).body.length,1)∧(bytes (fs.drop n)).drop (4+(fs.getD n fr0).body.length)=bytes (fs.drop (n+1))∧bytes (fs.drop n)≠[] ∧
   (bytes (fs.drop n)).length=4+(fs.getD n fr0).body.length+(bytes (fs.drop (n+1))).length:=by
 have hc:=drop_cons_fr h
 have hl:(bytes (fs.drop n)).length=4+(fs.getD n fr0).body.length+(bytes (fs.drop (n+1))).length:=by rw [hc,bytes_cons,List.length_append,frW_lenP]
 have hr:=frR_first (f:=fs.getD n fr0) (l:=fs.drop (n+1)) (fun g hg=>hok g (List.mem_of_mem_drop (hc ▸ hg)))
 rw [←hc] at hr
 exact ⟨hr.1,hr.2,fun z=>(by rw [z] at hl; simp at hl; omega),hl⟩
theorem bytes_end {fs:List Fr}:bytes (fs.drop fs.length)=[]:=by rw [List.drop_length]; rfl
theorem bytes_le {fs:List Fr} {n:Nat}:(bytes (fs.drop n)).length≤(bytes fs).length:=by
 conv=>rhs; rw [←List.take_append_drop n fs,bytes_app,List.length_append]
 omega
end
end Go.Proofs.YtdplmibomopkcaaGreat
