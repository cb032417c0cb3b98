/- A part of the proof: contracts of functions, or plain facts on which these lean. -/
import Derived.Test.YtaamlddnpamomaaGreatDoorMe35
import Derived.Test.YtaamlddnpamomaaGreatDoorMe40
namespace Go.Proofs.YtaamlddnpamomaaGreatDoor
open Go
set_option linter.unusedVariables false
set_option linter.unusedSimpArgs false
set_option maxRecDepth 100000
set_option maxHeartbeats 16000000

section
open Go
theorem WoDr.newW {S:List Blk} {b:Nat} {bs:List UInt8} {P:Nat} {w:Wo} {b1 c1 d1 f1:Nat} {S':List Blk} (h:WoDr S b bs P w b1 c1 d1 f1 S') (hb:S.length≤b):WoNew S w b1 c1 d1 f1 S' :=
 ⟨h.at_,h.hb,h.hc,h.hd,h.hf,(Upd.refl [] S).then_ h.upd (fun j hj hm=>by simp at hm; omega)⟩
theorem en0_bE:EnB en0:=⟨by simp [en0],by simp [en0],by simp [en0],⟨by simp [en0],by simp [en0]⟩,⟨by simp [en0],by simp [en0]⟩,by simp [en0]⟩
structure DrW (e:En):Prop where
 b:EnB e
 hl:HL e
theorem DrawnE.w {e:En} {wire:List UInt8} (h:DrawnE e wire):DrW e:=⟨h.b.1,h.hl⟩
theorem Drawn.w2 {w:Wo} (h:Drawn w):((∃wire,DrawnE w.caller wire)∧w.caller.strs.length≤4)∧((∃wire,DrawnE w.answerer wire)∧w.answerer.strs.length≤4):=by
 refine ⟨⟨⟨_,w,h,.inl ⟨rfl,rfl⟩⟩,?_⟩,⟨_,w,h,.inr ⟨rfl,rfl⟩⟩,?_⟩
 ·obtain ⟨l,_,_,hs⟩:=h
  have hP:=(playM_pl l).all.1.caller.sts
  generalize playM l=x at *
  have:=stsOk_len hP
  cases hs with
  | none=>exact this
  | ans=>exact this
  | up o ho=>exact this
  | table t m _ _=>exact this
  | id k _ hl _=>simpa using this
 ·obtain ⟨l,_,_,hs⟩:=h
  have hP:=(playM_pl l).all.1.answerer.sts
  generalize playM l=x at *
  have:=stsOk_len hP
  cases hs with
  | none=>exact this
  | ans=>exact this
  | up o ho=>exact this
  | table t m _ _=>exact this
  | id k _ hl _=>exact this
theorem DrawEndCall_ok (code:List UInt8) (hc:code.length≤1073741824) (S:List Blk) :
  VCall Tryz.prog 21 [.rows none (code.map u8V)] S fun r S'=>∃(e:En) (path text:List UInt8) (b1 c1:Nat),(∃wire,DrawnE e wire)∧path.length≤100∧text.length≤100∧r=.tup [eV b1 c1 e,.str path,.str text]∧EnNew S e b1 c1 S':=by
 refine VCall.ex hDe (fun _=>false) (fun id=>if id=7 then [5,2,4,4,5,8,8,8] else if id=8 then [5,2,4,4,5,8,8,8] else []) Tryz.func21 Tryz.ntmps21 Tryz.results21 ?_
 simp -implicitDefEqProofs (disch:=omega) only [push_cast,simprocAttr,↓gd]
 refine (l6Open_ok code hc _).to ?_
 simp -implicitDefEqProofs (disch:=omega) only [push_cast,simprocAttr,↓gd]
 generalize hbs:code.take 2000=bs
 have hbl:bs.length≤2000:=by rw [←hbs,List.length_take]; omega
 refine (l72World_ok bs (S.length+1) 0 (by omega) hbl _ (by simp -implicitDefEqProofs (disch:=omega) only [push_cast,simprocAttr,↓gd])).mono ?_
 rintro r S1 ⟨w,P,b1,c1,d1,f1,hw,rfl,hP,hdr⟩
 have k0:S1[S.length]?=some (.cells 0 zE):=hdr.upd.get (by simp -implicitDefEqProofs (disch:=omega) only [push_cast,simprocAttr,↓gd]) (by simp)
 have hdr:WoDr S (S.length+1) bs P w b1 c1 d1 f1 S1:=hdr.mk'
 have kr:=hdr.rd
 have lr:=lt_of_some kr
 have l0:=lt_of_some k0
 have v0:=hdr.at_.var k0
 have hB:=hw.b
 have lu:=hdr.upd.1
 simp -implicitDefEqProofs (disch:=omega) only [push_cast,simprocAttr,↓gd]
 refine (pickI bs (S.length+1) P 10 _ (by simp) (by omega) (by omega) hbl _ (by rw [List.getElem?_append_left lr]; exact kr)).mono ?_
 rintro r S2 ⟨⟨q,hq,rfl⟩,rfl⟩
 obtain ⟨hw1,hw2⟩:=hw.w2
 obtain ⟨vb,vc,vd,vf⟩:=id v0
 have hnew:∀(Q:Nat) (B:Blk) (X:List Blk),WoNew S w b1 c1 d1 f1 ((S1.set (S.length+1) (Rd bs Q)).set S.length B++X):=fun Q B X=>(((hdr.draw Q).set (j:=S.length) B (Nat.le_refl _) v0 (by omega)).app X).newW (by omega)
 have hS2b:∀B X,(S1.set (S.length+1) B++X)[S.length+1]?=some B:=fun B X=>stC lr _ _
 have fin1:∀(p t:List UInt8) (Q:Nat) (X:List Blk),p.length≤100→t.length≤100→∃r S2,Wk S (.tup [eV b1 c1 w.caller,.str p,.str t]) ((S1.set (S.length+1) (Rd bs Q)).set S.length (.cells 0 (enC (.heap b1 w.caller.strs.length) (.heap c1 w.caller.wait.length) w.caller))++X) r S2∧∃(e:En) (path text:List UInt8) (b1 c1:Nat),(∃wire,DrawnE e wire)∧path.length≤100∧text.length≤100∧r=.tup [eV b1 c1 e,.str path,.str text]∧EnNew S e b1 c1 S2 :=
  fun p t Q X h1 h2=>⟨_,_,Wk.refl _ _ _,w.caller,p,t,b1,c1,hw1.1,h1,h2,rfl,by have hN:=hnew Q (.cells 0 (enC (.heap b1 w.caller.strs.length) (.heap c1 w.caller.wait.length) w.caller)) X; exact ⟨hN.at_.caller,hN.hb,hN.hc,hN.upd⟩⟩
 have fin2:∀(p t:List UInt8) (Q:Nat) (X:List Blk),p.length≤100→t.length≤100→∃r S2,Wk S (.tup [eV d1 f1 w.answerer,.str p,.str t]) ((S1.set (S.length+1) (Rd bs Q)).set S.length (.cells 0 (enC (.heap d1 w.answerer.strs.length) (.heap f1 w.answerer.wait.length) w.answerer))++X) r S2∧∃(e:En) (path text:List UInt8) (b1 c1:Nat),(∃wire,DrawnE e wire)∧path.length≤100∧text.length≤100∧r=.tup [eV b1 c1 e,.str path,.str text]∧EnNew S e b1 c1 S2 :=
  fun p t Q X h1 h2=>⟨_,_,Wk.refl _ _ _,w.answerer,p,t,d1,f1,hw2.1,h1,h2,rfl,by have hN:=hnew Q (.cells 0 (enC (.heap d1 w.answerer.strs.length) (.heap f1 w.answerer.wait.length) w.answerer)) X; exact ⟨hN.at_.answerer,hN.hd,hN.hf,hN.upd⟩⟩
 by_cases q0:q=0
 ·subst q0
  simp -implicitDefEqProofs (disch:=omega) only [push_cast,simprocAttr,stA lr,stB lr,↓gd]
  refine (pickI bs (S.length+1) (P+1) 12 _ (by simp) (by omega) (by omega) hbl _ (hS2b _ _)).mono ?_
  rintro r S2 ⟨⟨k,hk,rfl⟩,rfl⟩
  by_cases k0':k=0
  ·subst k0'
   simp -implicitDefEqProofs (disch:=omega) only [push_cast,simprocAttr,stA lr,stB lr,↓gd]
   refine (l71Word_ok bs (S.length+1) (P+1+1) (by omega) hbl _ (hS2b _ _)).mono ?_
   rintro r S2 ⟨⟨s1,hs1,rfl⟩,P2,hP2,rfl⟩
   simp -implicitDefEqProofs (disch:=omega) only [push_cast,simprocAttr,stA lr,stB lr,↓gd]
   refine (l71Word_ok bs (S.length+1) P2 (by omega) hbl _ (hS2b _ _)).mono ?_
   rintro r S2 ⟨⟨s2,hs2,rfl⟩,P3,hP3,rfl⟩
   simp -implicitDefEqProofs (disch:=omega) only [push_cast,simprocAttr,stA lr,stB lr,k0,↓gd]
   exact fin2 s1 s2 P3 _ hs1 hs2
  ·have k0'':¬(k:Int)=0:=by omega
   simp -implicitDefEqProofs (disch:=omega) only [push_cast,simprocAttr,stA lr,stB lr,k0'',↓gd]
   refine (l72Path_ok bs (S.length+1) (P+1+1) (by omega) hbl _ (hS2b _ _)).mono ?_
   rintro r S2 ⟨⟨s1,hs1,rfl⟩,rfl⟩
   simp -implicitDefEqProofs (disch:=omega) only [push_cast,simprocAttr,stA lr,stB lr,↓gd]
   refine (l72Text_ok bs (S.length+1) (P+1+1+1) (by omega) hbl _ (hS2b _ _)).mono ?_
   rintro r S2 ⟨⟨s2,hs2,rfl⟩,P3,hP3,rfl⟩
   simp -implicitDefEqProofs (disch:=omega) only [push_cast,simprocAttr,stA lr,stB lr,k0,↓gd]
   exact fin2 s1 s2 P3 _ (by omega) (by omega)
 ·have q0':¬(q:Int)=0:=by omega
  simp -implicitDefEqProofs (disch:=omega) only [push_cast,simprocAttr,stA lr,stB lr,q0',↓gd]
  refine (pickI bs (S.length+1) (P+1) 12 _ (by simp) (by omega) (by omega) hbl _ (hS2b _ _)).mono ?_
  rintro r S2 ⟨⟨k,hk,rfl⟩,rfl⟩
  by_cases k0':k=0
  ·subst k0'
   simp -implicitDefEqProofs (disch:=omega) only [push_cast,simprocAttr,stA lr,stB lr,q0',↓gd]
   refine (l71Word_ok bs (S.length+1) (P+1+1) (by omega) hbl _ (hS2b _ _)).mono ?_
   rintro r S2 ⟨⟨s1,hs1,rfl⟩,P2,hP2,rfl⟩
   simp -implicitDefEqProofs (disch:=omega) only [push_cast,simprocAttr,stA lr,stB lr,q0',↓gd]
   refine (l71Word_ok bs (S.length+1) P2 (by omega) hbl _ (hS2b _ _)).mono ?_
   rintro r S2 ⟨⟨s2,hs2,rfl⟩,P3,hP3,rfl⟩
   simp -implicitDefEqProofs (disch:=omega) only [push_cast,simprocAttr,stA lr,stB lr,k0,q0',↓gd]
   exact fin1 s1 s2 P3 _ hs1 hs2
  ·have k0'':¬(k:Int)=0:=by omega
   simp -implicitDefEqProofs (disch:=omega) only [push_cast,simprocAttr,stA lr,stB lr,k0'',q0',↓gd]
   refine (l72Path_ok bs (S.length+1) (P+1+1) (by omega) hbl _ (hS2b _ _)).mono ?_
   rintro r S2 ⟨⟨s1,hs1,rfl⟩,rfl⟩
   simp -implicitDefEqProofs (disch:=omega) only [push_cast,simprocAttr,stA lr,stB lr,q0',↓gd]
   refine (l72Text_ok bs (S.length+1) (P+1+1+1) (by omega) hbl _ (hS2b _ _)).mono ?_
   rintro r S2 ⟨⟨s2,hs2,rfl⟩,P3,hP3,rfl⟩
   simp -implicitDefEqProofs (disch:=omega) only [push_cast,simprocAttr,stA lr,stB lr,k0,q0',↓gd]
   exact fin1 s1 s2 P3 _ (by omega) (by omega)
end
section
open Go
structure Said (e x:En) (o:List UInt8) (fs:List Fr):Prop where
 bytes:o=bytes fs
 ok:∀f ∈ fs,frameOk f=true
 len:x.strs.length=e.strs.length
 xok:endOk x=true
 again:endWriteM x=(x,[])
 bad:e.bad=true→fs=[]∧x=e
 good:e.bad=false→WrS e x (newF e)∧fs=e.wait++newF e∧x=(writeM e).1
 short:o.length≤1100000
theorem writeM_badE (e:En):(writeM e).1.bad=e.bad:=(writeM_cb e).2
theorem said {e x:En} {o:List UInt8} (hE:endOk e=true) (hl:HL e) (hx:endWriteM e=(x,o)):∃fs,Said e x o fs:=by
 have hW:=endOk_iff.1 hE
 cases hb:e.bad with
 | true =>
  have h1:endWriteM e=(e,[]):=by rw [endWriteM,if_neg (by rw [hE]; simp),if_pos hb]
  rw [h1] at hx
  cases hx
  exact ⟨[],rfl,by simp,rfl,hE,h1,fun _=>⟨rfl,rfl⟩,fun z=>(by rw [hb] at z; cases z),by simp⟩
 | false =>
  have h1:endWriteM e=writeM e:=by rw [endWriteM,if_neg (by rw [hE]; simp),if_neg (by rw [hb]; simp)]
  rw [h1] at hx
  have hs:=writeM_s hW (fun i hi=>hl.at_ hi)
  have hxw:=(writeM_w hW).mono (show 0≤60 by decide)
  have hag:=write_again hW
  have hxb:(writeM e).1.bad=false:=by rw [writeM_badE,hb]
  have hsh:(writeM e).2.length≤1100000:=by
   have:=writeM_len hW
   omega
  rw [hx] at hs hxw hag hxb hsh
  simp only at hs hxw hag hxb hsh
  have hxok:=endOk_iff.2 hxw
  refine ⟨e.wait++newF e,?_,fun f hf=>?_,hs.len,hxok,?_,fun z=>(by rw [hb] at z; cases z),fun _=>⟨hs,rfl,by rw [hx]⟩,hsh⟩
  ·have:=hs.bytes
   rwa [hx] at this
  ·rcases List.mem_append.1 hf with z | z
   ·exact hW.wait f z
   ·exact (hs.ok f z).1
  ·rw [endWriteM,if_neg (by rw [hxok]; simp),if_neg (by rw [hxb]; simp)]
   exact hag
end
section
open Go
theorem frW_lenP (f:Fr):(frW f).length=4+f.body.length:=by simp [frW]; omega
theorem Pl.b {w:Wo} (h:Pl w):WoB w:=h.all.1.b (by decide)
theorem bytes_len:∀l:List Fr,l.length≤(bytes l).length
 | []=>by simp [bytes]
 | f :: l=>by have:=bytes_len l; rw [bytes_cons,List.length_append,frW_lenP,List.length_cons]; omega
end
section
theorem frR_first {f:Fr} {l:List Fr} (hok:∀g ∈ f :: l,frameOk g=true):frR (bytes (f :: l))=(f,4+f.body.length,1)∧(bytes (f :: l)).drop (4+f.body.length)=bytes l:=by
 have hb:bytes (f :: l)++[]=bytes (f :: l):=List.append_nil _
 rcases frR_bytes hb hok with ⟨_,_,z⟩ | ⟨g,gs,e,q,hd⟩
 ·have h1:=z f l rfl
  have:(bytes (f :: l)).length=4+f.body.length+(bytes l).length:=by rw [bytes_cons,List.length_append,frW_lenP]
  omega
 ·cases e
  rw [List.append_nil] at hd
  exact ⟨q,hd⟩
theorem drop_cons_fr {fs:List Fr} {n:Nat} (h:n < fs.length):fs.drop n=fs.getD n fr0 :: fs.drop (n+1):=by
 rw [List.drop_eq_getElem_cons h,getD_lt fr0 h]
theorem bytes_at {fs:List Fr} (hok:∀g ∈ fs,frameOk g=true) {n:Nat} (h:n < fs.length) :
  frR (bytes (fs.drop n))=(fs.getD n fr0,4+(fs.getD n fr0).body.length,1)∧(bytes (fs.drop n)).drop (4+(fs.getD n fr0).body.length)=bytes (fs.drop (n+1))∧bytes (fs.drop n)≠[] ∧
   (bytes (fs.drop n)).length=4+(fs.getD n fr0).body.length+(bytes (fs.drop (n+1))).length:=by
 have hc:=drop_cons_fr h
 have hl:(bytes (fs.drop n)).length=4+(fs.getD n fr0).body.length+(bytes (fs.drop (n+1))).length:=by rw [hc,bytes_cons,List.length_append,frW_lenP]
 have hr:=frR_first (f:=fs.getD n fr0) (l:=fs.drop (n+1)) (fun g hg=>hok g (List.mem_of_mem_drop (hc ▸ hg)))
 rw [←hc] at hr
 exact ⟨hr.1,hr.2,fun z=>(by rw [z] at hl; simp at hl; omega),hl⟩
theorem bytes_end {fs:List Fr}:bytes (fs.drop fs.length)=[]:=by rw [List.drop_length]; rfl
theorem bytes_le {fs:List Fr} {n:Nat}:(bytes (fs.drop n)).length≤(bytes fs).length:=by
 conv=>rhs; rw [←List.take_append_drop n fs,bytes_app,List.length_append]
 omega
end
section
theorem saysM_last:∀(n k:Nat) (e:En),(∀j,k≤j→j < k+n→Mute e (stAt e j))→saysM (n+1) k e=sayM e (k+n)
 | 0,k,e,_=>by
  show ((sayM e k).1,(sayM e k).2++[])=sayM e k
  rw [List.append_nil]
 | n+1,k,e,h=>by
  have h0:=sayM_mute (h k (Nat.le_refl _) (by omega))
  show (let (e1,o1):=sayM e k; let (e2,o2):=saysM (n+1) (k+1) e1; (e2,o1++o2))=_
  rw [h0]
  simp only [List.nil_append]
  rw [saysM_last n (k+1) e (fun j h1 h2=>h j (by omega) (by omega))]
  rw [show k+1+n=k+(n+1) by omega]
def wordsN (e:En) (text:List UInt8):Nat:=min text.length (min 8 e.send.toNat)
theorem say_new {N:Nat} {e:En} (hW:EnW N e) {path text:List UInt8} {i:Int} (hk:atM e.strs i=none) :
  ∃h,sayM { e with strs:=e.strs++[newCall i path text] } e.strs.length =
   ({ e with out:=(headW e.out e.outM (callHead path text)).1,send:=e.send - (wordsN e text:Nat),strs:=e.strs++[h] },
    frW ⟨1,decide (text=[]),i,(headW e.out e.outM (callHead path text)).2⟩++(if wordsN e text=0 then [] else frW ⟨0,decide (wordsN e text=text.length),i,text.take (wordsN e text)⟩)) ∧
   h.id=i∧h.begun=true∧h.sent=(wordsN e text:Nat)∧h.say=text∧h.head=callHead path text∧h.state=(if e.ans && decide (wordsN e text=text.length) then 2 else 1)∧h.got=[]∧h.text=[]:=by
 have hse:=(flowOk_iff.1 hW.flow).1
 have hst:stAt { e with strs:=e.strs++[newCall i path text] } e.strs.length=newCall i path text:=by
  show (e.strs++[newCall i path text]).getD e.strs.length st0=_
  rw [getD_app,if_neg (Nat.lt_irrefl _),if_pos rfl]
 have hset:∀s,(e.strs++[newCall i path text]).set e.strs.length s=e.strs++[s]:=fun s=>by
  rw [List.set_append_right _ _ (Nat.le_refl _),Nat.sub_self]; rfl
 have hne:(newCall i path text).head≠[]:=by simp [newCall,callHead]
 unfold sayM
 simp only
 rw [hst,if_neg (by rintro (z | z | z); exact z rfl; exact hne z; cases z)]
 have hb:beginM { e with strs:=e.strs++[newCall i path text] } (newCall i path text)=({ e with strs:=e.strs++[newCall i path text],out:=(headW e.out e.outM (callHead path text)).1 },{ newCall i path text with begun:=true,said:=decide (text=[]) },frW ⟨1,decide (text=[]),i,(headW e.out e.outM (callHead path text)).2⟩):=by
  unfold beginM; rw [if_neg (by simp [newCall,newSt])]; rfl
 rw [hb]
 simp only
 have hmay:mayM { e with strs:=e.strs++[newCall i path text],out:=(headW e.out e.outM (callHead path text)).1 } { newCall i path text with begun:=true,said:=decide (text=[]) }=((wordsN e text:Nat):Int):=by
  unfold mayM wordsN
  show min ((text.length:Int) - 0) (min 8 e.send)=_
  omega
 unfold pieceM
 rw [hmay]
 by_cases h0:wordsN e text=0
 ·rw [if_neg (by rw [h0]; simp)]
  refine ⟨{ newCall i path text with begun:=true,said:=decide (text=[]),state:=if e.ans && decide (text=[]) then 2 else 1 },?_,rfl,rfl,by rw [h0]; rfl,rfl,rfl,?_,rfl,rfl⟩
  ·simp only [setSt,hset,h0]
   simp [newCall,newSt]
  ·have:(text=[])=(wordsN e text=text.length):=by
    rw [h0]
    cases text with
    | nil=>simp
    | cons y ys=>simp
   simp only [this]
 ·have hne':text≠[]:=fun z=>h0 (by unfold wordsN; rw [z]; simp)
  have hpos:(0:Int) < (wordsN e text:Nat):=by omega
  rw [if_pos ⟨by simp [hne'],hpos⟩]
  have hle:wordsN e text≤text.length:=by unfold wordsN; omega
  have hq:(((wordsN e text:Nat):Int)=(text.length:Int))=(wordsN e text=text.length):=propext ⟨fun z=>by omega,fun z=>by omega⟩
  refine ⟨{ newCall i path text with begun:=true,send:=8 - (wordsN e text:Nat),said:=decide (wordsN e text=text.length),sent:=(wordsN e text:Nat),state:=if e.ans && decide (wordsN e text=text.length) then 2 else 1 },?_,rfl,rfl,rfl,rfl,rfl,rfl,rfl,rfl⟩
  simp only [setSt,hset,h0,if_false]
  refine Prod.ext ?_ ?_
  ·simp [newCall,newSt,hq]
  ·simp [newCall,newSt,hq]
structure HeardC (path text:List UInt8) (c2:En) (b:List UInt8) (a:En) (s:St):Prop where
 nb:a.bad=false
 strs:a.strs=[s]
 get:getM s.got sPath=(path,true)
 txt:s.text=text.take (min text.length 8)
 heard:s.heard=decide (min text.length 8=text.length)
 tab:a.inn=c2.out∧a.innM=c2.outM
 short:b.length≤300
 headOk:headOk s.got=true
theorem hear_call {path text:List UInt8} (hp:wordOk path=true) (ht:wordOk text=true) :
  (callM (newEn false) path text).2.2=true∧(callM (newEn false) path text).2.1=1 ∧
  ∃s,HeardC path text (writeM (callM (newEn false) path text).1).1 (writeM (callM (newEn false) path text).1).2 (hearM (newEn true) (writeM (callM (newEn false) path text).1).2) s:=by
 have hho:headOk (callHead path text)=true:=by rw [callHead_ok ht]; exact hp
 have hc:callM (newEn false) path text=({ newEn false with strs:=[newCall 1 path text] },1,true):=by
  unfold callM
  rw [if_neg (by rintro (z | z | z | z); cases z; (simp [newEn] at z); (rw [hho] at z; cases z); (rw [ht] at z; cases z))]
  rfl
 have hJ1:=syn_new.j.call path text
 have hJ1:J (callM (newEn false) path text).1 (newEn true) [] []:=hJ1
 obtain ⟨fs,hb,hJ2⟩:=hJ1.writeUp
 have hn:atM (newEn false).strs 1=none:=rfl
 obtain ⟨h,hs,s1,s2,s3,s4,s5,s6,s7,s8⟩:=say_new (N:=0) (newEn_w false) (path:=path) (text:=text) hn
 have hwn:wordsN (newEn false) text=min text.length 8:=by
  unfold wordsN; show min text.length (min 8 (16:Int).toNat)=_; simp
 have hw:writeM (callM (newEn false) path text).1=sayM { newEn false with strs:=(newEn false).strs++[newCall 1 path text] } (newEn false).strs.length:=by
  rw [hc]
  show (let (e2,o2):=saysM 1 0 { newEn false with strs:=[newCall 1 path text] }; (e2,[]++o2))=_
  rw [saysM_last 0 0 _ (fun j _ hj=>by omega)]
  simp; rfl
 rw [hwn] at hs s3 s6
 have hlen:(writeM (callM (newEn false) path text).1).2.length≤300:=by
  rw [hw,hs]
  have h1:=headW_len (callHead path text) (newEn false).out (newEn false).outM (headOk_iff.1 hho).1 (by simp [newEn,callHead])
  have h2:(callHead path text).length=3:=rfl
  simp only [List.length_append,frW_lenE]
  rw [h2] at h1
  split
  ·simp only [List.length_nil]; omega
  ·rw [frW_lenE]; simp only [List.length_take]; omega
 have hstr:(writeM (callM (newEn false) path text).1).1.strs=[h]:=by rw [hw,hs]; rfl
 have hcw:(writeM (callM (newEn false) path text).1).1.wait=[]:=by rw [hw,hs]; rfl
 refine ⟨by rw [hc],by rw [hc],?_⟩
 generalize (writeM (callM (newEn false) path text).1).1=c2 at *
 generalize (writeM (callM (newEn false) path text).1).2=b at *
 have hJ2:J c2 (newEn true) fs []:=hJ2
 obtain ⟨gs,hJ3,hcame⟩:=J.hearsUp ((newEn true).came.length+b.length+1) (a:={ newEn true with came:=(newEn true).came++b }) [] (hJ2.cameUp (by simp [newEn]; omega)) (by rw [List.append_nil]; exact hb)
 have hinc:=hearM_inc (newEn true) b
 have hJ3:J c2 (hearM (newEn true) b) gs []:=hJ3
 have hcame:(hearM (newEn true) b).came++[]=bytes gs:=hcame
 generalize hearM (newEn true) b=a at *
 have hgs:gs=[]:=by
  have h0:=hinc.zero hJ3.A.nb
  rcases frR_bytes hcame hJ3.u.ok with ⟨_,_,z⟩ | ⟨f,gs',rfl,q,_⟩
  ·cases gs with
   | nil=>rfl
   | cons f gs' =>
    have h1:=z f gs' rfl
    have h2:=congrArg List.length hcame
    rw [bytes_cons,List.length_append,List.length_append,frW_lenE] at h2
    simp at h2
    omega
  ·rw [q] at h0; cases h0
 subst hgs
 have hat:atM c2.strs 1=some 0:=by rw [hstr,atM]; simp [s1]
 have hof:stOf c2 1=h:=by rw [stOf_some hat,stAt,hstr]; rfl
 have hrun:=hJ3.u.run 1
 rw [hcw,hof] at hrun
 have hrun:rv (stOf a 1)=sd h:=Option.some.inj hrun
 have hg:(stOf a 1).got≠[]:=by
  have:(rv (stOf a 1)).g=true:=by rw [hrun]; exact s2
  simpa [rv] using this
 have hhas:=got_has hg
 obtain ⟨k,hk⟩:=hhas
 obtain ⟨k1,k2⟩:=atM_some hk
 have hle:=hJ3.toJ0.len
 rw [hstr] at hle
 have hl1:a.strs.length=1:=by simp at hle; omega
 have hk0:k=0:=by omega
 subst hk0
 have hoa:stOf a 1=stAt a 0:=stOf_some hk
 have hstrs:a.strs=[stAt a 0]:=by
  match q:a.strs,hl1 with
  | [x],_=>simp [stAt,q]
 have hgot:(stAt a 0).got=callHead path text:=by
  have:=(hJ3.u.got 1).resolve_left hg
  rw [hoa,hof] at this
  rw [this,s5]
 rw [hoa] at hrun
 refine ⟨stAt a 0,hJ3.A.nb,hstrs,?_,?_,?_,⟨hJ3.u.tab,hJ3.u.m.symm⟩,hlen,by rw [hgot]; exact hho⟩
 ·rw [hgot]; simp [getM,callHead]
 ·have:=congrArg Rv.t hrun
  have this:(stAt a 0).text=h.say.take h.sent.toNat:=this
  rw [this,s3,s4]; simp
 ·have h1:=hJ3.C.si 1
  rw [hof] at h1
  have h2:=h1.beg s2
  have h3:(stAt a 0).heard=h.said:=congrArg Rv.h hrun
  rw [h3,h2,s3,s4]
  exact decide_eq_decide.2 ⟨fun z=>by omega,fun z=>by omega⟩
end
section
open Go
theorem endCallM_b {e:En} (he:EnB e) (p t:List UInt8):EnB (endCallM e p t).1:=by
 rw [endCallM]
 split
 ·exact en0_bE
 ·rename_i h
  have hE:endOk e=true:=by cases q:endOk e <;> simp_all
  exact (callM_w (endOk_w hE) p t).b (by decide)
end
section
open Go
theorem getD_app_right {α:Type} {l k:List α} {n:Nat} {d:α} (h:l.length≤n):(l++k).getD n d=k.getD (n - l.length) d:=by
 rw [List.getD_eq_getElem?_getD,List.getD_eq_getElem?_getD,List.getElem?_append_right h]
end
end Go.Proofs.YtaamlddnpamomaaGreatDoor
