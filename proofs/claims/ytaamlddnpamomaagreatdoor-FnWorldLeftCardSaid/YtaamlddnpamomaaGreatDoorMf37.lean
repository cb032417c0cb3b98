/- A part of the proof: contracts of functions, or plain facts on which these lean. -/
import Derived.Test.YtaamlddnpamomaaGreatDoorMf36
namespace Go.Proofs.YtaamlddnpamomaaGreatDoor
open Go
set_option linter.unusedVariables false
set_option linter.unusedSimpArgs false
set_option maxRecDepth 100000
set_option maxHeartbeats 16000000

section
structure Sid0 (e:En):Prop where
 w:EnW 36 e
 nb:e.bad=false
 si:∀i,StI (stOf e i)
 sc:e.ans=false→∀i,Has e i→StC (stOf e i)
 sa:e.ans=true→∀i,StA (stOf e i)
 more:∀i,i≠0→(stOf e i).room+mor i e.wait=8
 sum:e.room+mor 0 e.wait=16
 waits:∀f ∈ e.wait,f.kind=8∨(f.kind=3∧e.ans=false)
theorem Sid.zero {e:En} (h:Sid e):Sid0 e:=⟨h.w,h.nb,h.si,h.sc,h.sa,h.more,by rw [mor_more0]; exact h.l.sum,h.waits⟩
theorem Sid0.loc {e:En} (h:Sid0 e) (hl:Loc e):Sid e:=⟨h.w,hl,h.nb,h.si,h.sc,h.sa,h.more,h.waits⟩
theorem Sid0.stok {e:En} (h:Sid0 e) {i:Int} (hi:Has e i):stOk (stOf e i)=true:=by
 obtain ⟨k,hk⟩:=hi
 rw [stOf_some hk]
 exact h.w.st (atM_some hk).1
def bytes (l:List Fr):List UInt8:=l.flatMap frW
theorem bytes_app (l k:List Fr):bytes (l++k)=bytes l++bytes k:=by simp [bytes]
theorem bytes_cons (f:Fr) (l:List Fr):bytes (f :: l)=frW f++bytes l:=by simp [bytes]
def St.withRoom (s:St) (n:Int):St:={ s with room:=n }
section
variable {S R:En} {f:Fr} {q p:List Fr}
theorem emit {l:List Fr} (hS:Sid0 S) (d:Dir S R q p) (d':Dir R S p q) (hw:S.wait=f :: l) (hk:f.kind=8→f.stream=0∨Has S f.stream) :
  ∃r ss,roomM { S with wait:=l } f={ S with wait:=l,room:=r,strs:=ss }∧ss.map St.id=S.strs.map St.id∧(∀j,∃r',stOf { S with wait:=l,room:=r,strs:=ss } j=(stOf S j).withRoom r') ∧
   Sid0 { S with wait:=l,room:=r,strs:=ss }∧Dir { S with wait:=l,room:=r,strs:=ss } R (q++[f]) p∧Dir R { S with wait:=l,room:=r,strs:=ss } p (q++[f]):=by
 have hfk:=hS.waits f (by rw [hw]; simp)
 have hfo:=hS.w.wait f (by rw [hw]; simp)
 have hf0:f.kind≠0∧f.kind≠1:=by rcases hfk with z | z; exact ⟨by rw [z]; decide,by rw [z]; decide⟩; exact ⟨by rw [z.1]; decide,by rw [z.1]; decide⟩
 have hW0:EnW 36 { S with wait:=l }:=⟨hS.w.sts,fun g hg=>hS.w.wait g (by rw [hw]; simp [hg]),hS.w.out,hS.w.inn,hS.w.flow,hS.w.came,by have:=hS.w.len; rw [hw] at this; simp at this ⊢; omega⟩
 have hW:=(roomM_w hW0 f).1
 have hsum:=hS.sum
 rw [hw] at hsum
 have hview:∃r ss,roomM { S with wait:=l } f={ S with wait:=l,room:=r,strs:=ss }∧r=S.room+(if f.kind=8∧f.stream=0 then byteAt f.body 0 else 0:Nat)∧ss.map St.id=S.strs.map St.id∧(∀j,j≠0→stOf { S with wait:=l,room:=r,strs:=ss } j=(stOf S j).withRoom ((stOf S j).room+(if f.kind=8∧f.stream=j then byteAt f.body 0 else 0:Nat)))∧stOf { S with wait:=l,room:=r,strs:=ss } 0=stOf S 0:=by
  by_cases h8:f.kind=8
  ·by_cases h0:f.stream=0
   ·simp only [mor,h8,h0,true_and,if_true] at hsum
    refine ⟨S.room+byteAt f.body 0,S.strs,?_,by simp [h8,h0],rfl,fun j hj=>?_,rfl⟩
    ·unfold roomM
     rw [if_neg (by rw [h8]; simp),if_pos h0]
     have e1:min (S.room+byteAt f.body 0) 31=S.room+byteAt f.body 0:=by omega
     simp only [e1]
    ·rw [if_neg (by rw [h0]; exact fun z=>hj z.2.symm)]
     show stOf S j=_
     simp [St.withRoom]
   ·obtain ⟨k,hk'⟩:=(hk h8).resolve_left h0
    have gs:=stOf_some hk'
    have hid:(stAt S k).id=f.stream:=(atM_some hk').2
    have hown:=hS.more _ h0
    rw [hw] at hown
    simp only [mor,h8,true_and,if_true] at hown
    rw [gs] at hown
    have hv:=setSt_view (e:={ S with wait:=l }) (s:=(stAt S k).withRoom ((stAt S k).room+byteAt f.body 0)) hk' hid
    refine ⟨S.room,S.strs.set k ((stAt S k).withRoom ((stAt S k).room+byteAt f.body 0)),?_,by simp [h0],hv.2,fun j hj=>?_,?_⟩
    ·unfold roomM
     rw [if_neg (by rw [h8]; simp),if_neg h0]
     simp only [hk']
     have e0:stAt { S with wait:=l } k=stAt S k:=rfl
     have e1:min ((stAt S k).room+byteAt f.body 0) 31=(stAt S k).room+byteAt f.body 0:=by omega
     rw [e0,e1]
     rfl
    ·refine (hv.1 j).trans ?_
     split
     ·rename_i hji; subst hji; rw [gs,if_pos ⟨h8,rfl⟩]
     ·rename_i hji; rw [if_neg (fun z=>hji z.2.symm)]; simp [St.withRoom]; rfl
    ·refine (hv.1 0).trans ?_
     rw [if_neg (fun z=>h0 z.symm)]; rfl
  ·refine ⟨S.room,S.strs,?_,by simp [h8],rfl,fun j hj=>?_,rfl⟩
   ·unfold roomM; rw [if_pos h8]
   ·rw [if_neg (fun z=>h8 z.1)]
    show stOf S j=_
    simp [St.withRoom]
 obtain ⟨r,ss,he,hr,hids,hv,hv0⟩:=hview
 have hv':∀j,∃r',stOf { S with wait:=l,room:=r,strs:=ss } j=(stOf S j).withRoom r':=fun j=>by
  by_cases hj:j=0
  ·subst hj; exact ⟨(stOf S 0).room,hv0⟩
  ·exact ⟨_,hv j hj⟩
 rw [he] at hW
 have hdat:∀j,dat j (q++[f])=dat j q:=fun j=>by rw [dat_app,dat_none (l:=[f]) (by simp [hf0.1]),Nat.add_zero]
 refine ⟨r,ss,he,hids,hv',⟨hW,hS.nb,fun j=>?_,fun ha j hj=>?_,fun ha j=>?_,fun j hj=>?_,?_,fun g hg=>hS.waits g (by rw [hw]; simp [show g ∈ l from hg])⟩,⟨d.m,?_,fun j=>?_,fun j=>?_,?_,fun j hj=>?_,fun g hg=>?_⟩,⟨d'.m,?_,fun j=>?_,fun j=>?_,?_,fun j hj=>?_,d'.ok⟩⟩
 ·obtain ⟨s',e⟩:=hv' j
  rw [e]; exact ⟨(hS.si j).not,(hS.si j).beg,(hS.si j).head⟩
 ·obtain ⟨s',e⟩:=hv' j
  have hc:=hS.sc ha j ((Has.of_eq (e:=S) (x:={ S with wait:=l,room:=r,strs:=ss }) hids).1 hj)
  rw [e]; exact ⟨hc.head,hc.heard,hc.done⟩
 ·obtain ⟨s',e⟩:=hv' j
  have hc:=hS.sa ha j
  rw [e]; exact ⟨hc.ask,hc.asked,hc.done⟩
 ·have:=hS.more j hj
  rw [hw] at this
  simp only [mor] at this
  rw [hv j hj]
  show (stOf S j).room+((if f.kind=8∧f.stream=j then byteAt f.body 0 else 0:Nat):Int)+(mor j l:Nat)=8
  omega
 ·simp only [mor] at hsum
  show r+(mor 0 l:Nat)=16
  rw [hr]; omega
 ·show tabOn _ S.outM R.inn (q++[f]) S.out
  rw [tabOn_app]
  refine ⟨S.out,tabOn_congr (fun g hg hgk=>?_) d.tab,tabOn_skip (by simp [hf0.2])⟩
  obtain ⟨s',e⟩:=hv' g.stream
  show (stOf S g.stream).head=(stOf _ g.stream).head
  rw [e]; rfl
 ·obtain ⟨s',e⟩:=hv' j
  have:=d.run j
  rw [hw] at this
  rw [e]
  show run j (rv (stOf R j)) (q++[f]++l)=some (sd (stOf S j))
  rw [List.append_assoc]; exact this
 ·obtain ⟨s',e⟩:=hv' j
  rw [e]; exact d.got j
 ·have:=d.flow
  rw [hdat]; exact this
 ·obtain ⟨s',e⟩:=hv' j
  have:=d.own j hj
  rw [e,hdat]; exact this
 ·rcases List.mem_append.1 hg with z | z
  ·exact d.ok g z
  ·rw [List.mem_singleton.1 z]; exact hfo
 ·exact d'.tab
 ·obtain ⟨s',e⟩:=hv' j
  rw [e]; exact d'.run j
 ·obtain ⟨s',e⟩:=hv' j
  rw [e]; exact d'.got j
 ·have:=d'.flow
  show R.send+(dat 0 p:Nat)+(mor 0 (q++[f]):Nat)=r
  rw [mor_app,hr]
  simp only [mor]
  omega
 ·have:=d'.own j hj
  rw [hv j hj,mor_app]
  show _=(stOf S j).room+((if f.kind=8∧f.stream=j then byteAt f.body 0 else 0:Nat):Int)
  simp only [mor]
  omega
def St.begin (s:St):St:={ s with begun:=true,said:=decide (s.say=[]) }
def St.piece (s:St) (n:Int):St:={ s with send:=s.send - n,said:=decide (s.sent+n=s.say.length),sent:=s.sent+n }
theorem say_head {k:Nat} {i:Int} (hS:Sid0 S) (d:Dir S R q p) (d':Dir R S p q) (hw:S.wait=[]) (hat:atM S.strs i=some k) (hb:(stOf S i).begun=false) (hne:(stOf S i).head≠[]) (hst:(stOf S i).state=1) :
  ∃f ss,f.kind=1∧f.stream=i∧setSt { S with out:=(headW S.out S.outM (stOf S i).head).1 } k (stOf S i).begin={ S with out:=(headW S.out S.outM (stOf S i).head).1,strs:=ss }∧frW ⟨1,decide ((stOf S i).say=[]),i,(headW S.out S.outM (stOf S i).head).2⟩=frW f∧ss.map St.id=S.strs.map St.id ∧
   (∀j,stOf { S with out:=(headW S.out S.outM (stOf S i).head).1,strs:=ss } j=if j=i then (stOf S i).begin else stOf S j) ∧
   Sid0 { S with out:=(headW S.out S.outM (stOf S i).head).1,strs:=ss }∧Dir { S with out:=(headW S.out S.outM (stOf S i).head).1,strs:=ss } R (q++[f]) p∧Dir R { S with out:=(headW S.out S.outM (stOf S i).head).1,strs:=ss } p (q++[f]):=by
 have hhas:Has S i:=⟨k,hat⟩
 have hid:=stOf_id S i
 have hsok:=stOk_iff.1 (hS.stok hhas)
 rw [hid] at hsok
 have hh5:(stOf S i).head.length≤5:=by
  cases ha:S.ans with
  | false=>obtain ⟨path,e⟩:=(hS.sc ha i hhas).head; rw [e]; simp [callHead]
  | true=>rw [((hS.sa ha i).ask hne).2.1]; simp
 have hfields:=(headOk_iff.1 hsok.2.2.1).1
 have hlen:=headW_len (stOf S i).head S.out S.outM hfields (by have:=(tableOk_parts hS.w.out).1; omega)
 obtain ⟨hns,hn0⟩:=(hS.si i).not hb
 have hv:=setSt_view (e:={ S with out:=(headW S.out S.outM (stOf S i).head).1 }) (s:=(stOf S i).begin) hat hid
 have hW0:EnW 36 { S with out:=(headW S.out S.outM (stOf S i).head).1 }:=hS.w.withOut (tableOk_headW _ _ _ hS.w.out hfields)
 have hsk:stAt { S with out:=(headW S.out S.outM (stOf S i).head).1 } k=stOf S i:=by rw [stOf_some hat]; rfl
 have hW:=hW0.setSt (s:=(stOf S i).begin) (atM_some hat).1 (stOk_iff.2 (by rw [show (stOf S i).begin.id=i from hid]; exact hsok)) (by rw [hsk]; rfl)
 refine ⟨⟨1,decide ((stOf S i).say=[]),i,(headW S.out S.outM (stOf S i).head).2⟩,S.strs.set k (stOf S i).begin,rfl,rfl,rfl,rfl,hv.2,hv.1,⟨hW,hS.nb,fun j=>?_,fun ha j hj=>?_,fun ha j=>?_,fun j hj=>?_,hS.sum,hS.waits⟩,⟨d.m,?_,fun j=>?_,fun j=>?_,?_,fun j hj=>?_,fun g hg=>?_⟩,⟨d'.m,d'.tab,fun j=>?_,fun j=>?_,?_,fun j hj=>?_,d'.ok⟩⟩
 ·have e:=hv.1 j
  refine (show stOf _ j=_ from e) ▸ ?_
  split
  ·refine ⟨fun z=>(by cases z),fun _=>?_,fun z=>absurd z hne⟩
   show decide ((stOf S i).say=[])=decide ((stOf S i).sent=((stOf S i).say.length:Int))
   rw [hn0]
   cases (stOf S i).say with
   | nil=>rfl
   | cons y ys=>simp; omega
  ·exact hS.si j
 ·have e:=hv.1 j
  have hc:=hS.sc ha
  have hj':=(Has.of_eq (e:=S) (x:={ S with out:=(headW S.out S.outM (stOf S i).head).1,strs:=S.strs.set k (stOf S i).begin }) hv.2).1 hj
  refine (show stOf _ j=_ from e) ▸ ?_
  split
  ·exact ⟨(hc i hhas).head,(hc i hhas).heard,(hc i hhas).done⟩
  ·exact hc j hj'
 ·have e:=hv.1 j
  have hc:=hS.sa ha
  refine (show stOf _ j=_ from e) ▸ ?_
  split
  ·exact ⟨(hc i).ask,(hc i).asked,fun z=>absurd (hst.symm.trans z) (by decide)⟩
  ·exact hc j
 ·have e:=hv.1 j
  refine (show stOf _ j=_ from e) ▸ ?_
  split
  ·rename_i hji; subst hji; exact hS.more _ hj
  ·exact hS.more j hj
 ·show tabOn _ S.outM R.inn (q++[_]) (headW S.out S.outM (stOf S i).head).1
  rw [tabOn_app]
  have hh:∀j,(stOf (setSt { S with out:=(headW S.out S.outM (stOf S i).head).1 } k (stOf S i).begin) j).head=(stOf S j).head:=fun j=>by
   rw [hv.1 j]; split
   ·rename_i hji; subst hji; rfl
   ·rfl
  refine ⟨S.out,tabOn_congr (fun g hg hgk=>(hh g.stream).symm) d.tab,?_⟩
  simp only [tabOn,if_true]
  have:=hh i
  simp only [setSt] at this
  rw [this]
  exact ⟨rfl,rfl⟩
 ·have hr:=d.run j
  rw [hw,List.append_nil] at hr
  show run j (rv (stOf R j)) (q++[_]++S.wait)=some (sd (stOf (setSt { S with out:=(headW S.out S.outM (stOf S i).head).1 } k (stOf S i).begin) j))
  rw [hv.1 j,hw,List.append_nil,run_snoc hr]
  unfold adv
  split
  ·rename_i hji; rw [if_neg (fun z=>hji z.symm)]; rfl
  ·rename_i hji
   have hji:i=j:=by simpa using hji
   subst hji
   rw [if_pos rfl,if_pos ⟨hns,hb,by simp [sd,hn0]⟩,if_pos rfl]
   simp [sd,St.begin,hn0]
 ·have e:=hv.1 j
  refine (show stOf _ j=_ from e) ▸ ?_
  split
  ·rename_i hji; subst hji; exact d.got _
  ·exact d.got j
 ·have:=d.flow
  rw [dat_app]; simpa [dat] using this
 ·have:=d.own j hj
  have e:=hv.1 j
  rw [dat_app]
  refine (show stOf _ j=_ from e) ▸ ?_
  split
  ·rename_i hji; subst hji; simpa [dat,St.begin] using this
  ·simp [dat]; exact this
 ·rcases List.mem_append.1 hg with z | z
  ·exact d.ok g z
  ·rw [List.mem_singleton.1 z]
   simp [frameOk,hsok.1]; omega
 ·have e:=hv.1 j
  refine (show stOf _ j=_ from e) ▸ ?_
  split
  ·rename_i hji; subst hji; exact d'.run _
  ·exact d'.run j
 ·have e:=hv.1 j
  refine (show stOf _ j=_ from e) ▸ ?_
  split
  ·rename_i hji; subst hji; exact d'.got _
  ·exact d'.got j
 ·have:=d'.flow
  rw [mor_app]; simpa [mor] using this
 ·have:=d'.own j hj
  have e:=hv.1 j
  rw [mor_app]
  refine (show stOf _ j=_ from e) ▸ ?_
  split
  ·rename_i hji; subst hji; simpa [mor,St.begin] using this
  ·simp [mor]; exact this
theorem take_more (l:List UInt8) (a b:Nat):l.take a++(l.drop a).take b=l.take (a+b):=by rw [List.take_add]
theorem say_piece {k:Nat} {i:Int} {n:Int} (hS:Sid0 S) (d:Dir S R q p) (d':Dir R S p q) (hw:S.wait=[]) (hat:atM S.strs i=some k) (hb:(stOf S i).begun=true) (hns:(stOf S i).said=false) (hst:(stOf S i).state=1) (hn:0 < n) (h1:n≤((stOf S i).say.length:Int) - (stOf S i).sent) (h2:n≤(stOf S i).send) (h3:n≤S.send) :
  ∃f ss,f.kind=0∧f.stream=i∧setSt { S with send:=S.send - n } k ((stOf S i).piece n)={ S with send:=S.send - n,strs:=ss }∧frW ⟨0,decide ((stOf S i).sent+n=(stOf S i).say.length),i,((stOf S i).say.drop (stOf S i).sent.toNat).take n.toNat⟩=frW f∧ss.map St.id=S.strs.map St.id ∧
   (∀j,stOf { S with send:=S.send - n,strs:=ss } j=if j=i then (stOf S i).piece n else stOf S j) ∧
   Sid0 { S with send:=S.send - n,strs:=ss }∧Dir { S with send:=S.send - n,strs:=ss } R (q++[f]) p∧Dir R { S with send:=S.send - n,strs:=ss } p (q++[f]):=by
 have hhas:Has S i:=⟨k,hat⟩
 have hid:=stOf_id S i
 have hsok:=stOk_iff.1 (hS.stok hhas)
 rw [hid] at hsok
 obtain ⟨a1,a2,a3,a4,a5,a6,a7,a8⟩:=hsok
 have hg:=flowOk_iff.1 a8
 have hf:=flowOk_iff.1 hS.w.flow
 have h16:=(wordOk_iff.1 a5).2
 have hsk:stAt { S with send:=S.send - n } k=stOf S i:=by rw [stOf_some hat]; rfl
 have hv:=setSt_view (e:={ S with send:=S.send - n }) (s:=(stOf S i).piece n) hat hid
 have hW0:EnW 36 { S with send:=S.send - n }:=⟨hS.w.sts,hS.w.wait,hS.w.out,hS.w.inn,flowOk_iff.2 ⟨by simp only; omega,by simp only; omega,hf.2.2.1,hf.2.2.2⟩,hS.w.came,hS.w.len⟩
 have hW:=hW0.setSt (s:=(stOf S i).piece n) (atM_some hat).1 (stOk_iff.2 ⟨by rw [show ((stOf S i).piece n).id=i from hid]; exact a1,a2,a3,a4,a5,a6,⟨by simp only [St.piece]; omega,by simp only [St.piece]; omega⟩,flowOk_iff.2 ⟨by simp only [St.piece]; omega,by simp only [St.piece]; omega,hg.2.2.1,hg.2.2.2⟩⟩) (by rw [hsk]; rfl)
 have hbl:(((stOf S i).say.drop (stOf S i).sent.toNat).take n.toNat).length=n.toNat:=by simp; omega
 refine ⟨⟨0,decide ((stOf S i).sent+n=(stOf S i).say.length),i,((stOf S i).say.drop (stOf S i).sent.toNat).take n.toNat⟩,S.strs.set k ((stOf S i).piece n),rfl,rfl,rfl,rfl,hv.2,hv.1,⟨hW,hS.nb,fun j=>?_,fun ha j hj=>?_,fun ha j=>?_,fun j hj=>?_,hS.sum,hS.waits⟩,⟨d.m,?_,fun j=>?_,fun j=>?_,?_,fun j hj=>?_,fun g hg=>?_⟩,⟨d'.m,d'.tab,fun j=>?_,fun j=>?_,?_,fun j hj=>?_,d'.ok⟩⟩
 ·have e:=hv.1 j
  refine (show stOf _ j=_ from e) ▸ ?_
  split
  ·exact ⟨fun z=>absurd (hb.symm.trans z) (by decide),fun _=>rfl,fun z=>(by have:=(hS.si i).head z; rw [hb] at this; cases this)⟩
  ·exact hS.si j
 ·have e:=hv.1 j
  have hc:=hS.sc ha
  have hj':=(Has.of_eq (e:=S) (x:={ S with send:=S.send - n,strs:=S.strs.set k ((stOf S i).piece n) }) hv.2).1 hj
  refine (show stOf _ j=_ from e) ▸ ?_
  split
  ·exact ⟨(hc i hhas).head,(hc i hhas).heard,(hc i hhas).done⟩
  ·exact hc j hj'
 ·have e:=hv.1 j
  have hc:=hS.sa ha
  refine (show stOf _ j=_ from e) ▸ ?_
  split
  ·exact ⟨(hc i).ask,(hc i).asked,fun z=>absurd (hst.symm.trans z) (by decide)⟩
  ·exact hc j
 ·have e:=hv.1 j
  refine (show stOf _ j=_ from e) ▸ ?_
  split
  ·rename_i hji; subst hji; exact hS.more _ hj
  ·exact hS.more j hj
 ·show tabOn _ S.outM R.inn (q++[_]) S.out
  rw [tabOn_app]
  refine ⟨S.out,tabOn_congr (fun g hg hgk=>?_) d.tab,tabOn_skip (by simp)⟩
  show (stOf S g.stream).head=(stOf (setSt { S with send:=S.send - n } k ((stOf S i).piece n)) g.stream).head
  rw [hv.1]; split
  ·rename_i hji; rw [hji]; rfl
  ·rfl
 ·have hr:=d.run j
  rw [hw,List.append_nil] at hr
  show run j (rv (stOf R j)) (q++[_]++S.wait)=some (sd (stOf (setSt { S with send:=S.send - n } k ((stOf S i).piece n)) j))
  rw [hv.1 j,hw,List.append_nil,run_snoc hr]
  unfold adv
  split
  ·rename_i hji; rw [if_neg (fun z=>hji z.symm)]; rfl
  ·rename_i hji
   have hji:i=j:=by simpa using hji
   subst hji
   rw [if_neg (show ¬((0:Int)=1) by decide),if_pos rfl,if_pos ⟨hns,hb⟩,if_pos rfl]
   have e1:((stOf S i).piece n).sent.toNat=(stOf S i).sent.toNat+n.toNat:=by simp only [St.piece]; omega
   show some (⟨true,(stOf S i).say.take (stOf S i).sent.toNat++_,_⟩:Rv)=some ⟨((stOf S i).piece n).begun,(stOf S i).say.take ((stOf S i).piece n).sent.toNat,_⟩
   rw [take_more,e1,show ((stOf S i).piece n).begun=true from hb]
   rfl
 ·have e:=hv.1 j
  refine (show stOf _ j=_ from e) ▸ ?_
  split
  ·rename_i hji; subst hji; exact d.got _
  ·exact d.got j
 ·have:=d.flow
  rw [dat_app]
  simp only [dat,hbl,true_and,true_or,if_true]
  omega
 ·have:=d.own j hj
  have e:=hv.1 j
  rw [dat_app]
  refine (show stOf _ j=_ from e) ▸ ?_
  split
  ·rename_i hji; subst hji
   simp only [dat,hbl,true_and,or_true,if_true,St.piece]
   omega
  ·rename_i hji
   simp only [dat,true_and]
   rw [if_neg (by rintro (z | z); exact hj z; exact hji z.symm)]
   simp; exact this
 ·rcases List.mem_append.1 hg with z | z
  ·exact d.ok g z
  ·rw [List.mem_singleton.1 z]
   simp only [frameOk,true_or,if_true,a1,hbl,Bool.true_and,decide_eq_true_eq]
   omega
 ·have e:=hv.1 j
  refine (show stOf _ j=_ from e) ▸ ?_
  split
  ·rename_i hji; subst hji; exact d'.run _
  ·exact d'.run j
 ·have e:=hv.1 j
  refine (show stOf _ j=_ from e) ▸ ?_
  split
  ·rename_i hji; subst hji; exact d'.got _
  ·exact d'.got j
 ·have:=d'.flow
  rw [mor_app]; simpa [mor] using this
 ·have:=d'.own j hj
  have e:=hv.1 j
  rw [mor_app]
  refine (show stOf _ j=_ from e) ▸ ?_
  split
  ·rename_i hji; subst hji; simpa [mor,St.piece] using this
  ·simp [mor]; exact this
theorem say_done {k:Nat} {i:Int} (hS:Sid0 S) (d:Dir S R q p) (d':Dir R S p q) (hat:atM S.strs i=some k) (ha:S.ans=true) (hsd:(stOf S i).said=true) (hst:(stOf S i).state=1) :
  ∃ss,setSt S k ((stOf S i).withState 2)={ S with strs:=ss }∧ss.map St.id=S.strs.map St.id ∧
   (∀j,stOf { S with strs:=ss } j=if j=i then (stOf S i).withState 2 else stOf S j) ∧
   Sid0 { S with strs:=ss }∧Dir { S with strs:=ss } R q p∧Dir R { S with strs:=ss } p q:=by
 have hhas:Has S i:=⟨k,hat⟩
 have hid:=stOf_id S i
 have hsok:=stOk_iff.1 (hS.stok hhas)
 rw [hid] at hsok
 obtain ⟨a1,a2,a3⟩:=hsok
 have hsk:stAt S k=stOf S i:=by rw [stOf_some hat]
 have hv:=setSt_view (e:=S) (s:=(stOf S i).withState 2) hat hid
 have hW:=hS.w.setSt (s:=(stOf S i).withState 2) (atM_some hat).1 (stOk_iff.2 ⟨by rw [show ((stOf S i).withState 2).id=i from hid]; exact a1,⟨by simp [St.withState],by simp [St.withState]⟩,a3⟩) (by rw [hsk]; rfl)
 have hv':∀j,∃s',stOf (setSt S k ((stOf S i).withState 2)) j=(stOf S j).withState s':=fun j=>by
  rw [hv.1]; split
  ·rename_i hji; subst hji; exact ⟨2,rfl⟩
  ·exact ⟨(stOf S j).state,rfl⟩
 refine ⟨S.strs.set k ((stOf S i).withState 2),rfl,hv.2,hv.1,⟨hW,hS.nb,fun j=>?_,fun hc j hj=>?_,fun ha j=>?_,fun j hj=>?_,hS.sum,hS.waits⟩,⟨d.m,?_,fun j=>?_,fun j=>?_,d.flow,fun j hj=>?_,d.ok⟩,⟨d'.m,d'.tab,fun j=>?_,fun j=>?_,d'.flow,fun j hj=>?_,d'.ok⟩⟩
 ·obtain ⟨s',e⟩:=hv' j
  refine (show stOf _ j=_ from e) ▸ ?_
  exact ⟨(hS.si j).not,(hS.si j).beg,(hS.si j).head⟩
 ·rw [show S.ans=false from hc] at ha; cases ha
 ·have hc:=hS.sa ha
  refine (show stOf _ j=_ from hv.1 j) ▸ ?_
  split
  ·exact ⟨(hc i).ask,fun z _=>(hc i).asked z (by rw [hst]; decide),fun _=>hsd⟩
  ·exact hc j
 ·obtain ⟨s',e⟩:=hv' j
  refine (show stOf _ j=_ from e) ▸ ?_
  exact hS.more j hj
 ·refine tabOn_congr (fun g hg hgk=>?_) d.tab
  obtain ⟨s',e⟩:=hv' g.stream
  show (stOf S g.stream).head=(stOf (setSt _ k _) g.stream).head
  rw [e]; rfl
 ·obtain ⟨s',e⟩:=hv' j
  refine (show stOf _ j=_ from e) ▸ ?_
  exact d.run j
 ·obtain ⟨s',e⟩:=hv' j
  refine (show stOf _ j=_ from e) ▸ ?_
  exact d.got j
 ·obtain ⟨s',e⟩:=hv' j
  refine (show stOf _ j=_ from e) ▸ ?_
  exact d.own j hj
 ·obtain ⟨s',e⟩:=hv' j
  refine (show stOf _ j=_ from e) ▸ ?_
  exact d'.run j
 ·obtain ⟨s',e⟩:=hv' j
  refine (show stOf _ j=_ from e) ▸ ?_
  exact d'.got j
 ·obtain ⟨s',e⟩:=hv' j
  refine (show stOf _ j=_ from e) ▸ ?_
  exact d'.own j hj
end
end
section
def heads (l:List Fr):List Int:=(l.filter (fun f=>decide (f.kind=1))).map (fun f=>f.stream)
theorem heads_app (l k:List Fr):heads (l++k)=heads l++heads k:=by simp [heads]
theorem heads_no {f:Fr} (h:f.kind≠1) (l:List Fr):heads (f :: l)=heads l:=by simp [heads,h]
theorem heads_one {f:Fr} (h:f.kind=1) (l:List Fr):heads (f :: l)=f.stream :: heads l:=by simp [heads,h]
theorem mem_heads {l:List Fr} {i:Int} (h:i ∈ heads l):∃f ∈ l,f.kind=1∧f.stream=i:=by
 simp only [heads,List.mem_map,List.mem_filter,decide_eq_true_eq] at h
 obtain ⟨f,⟨h1,h2⟩,h3⟩:=h
 exact ⟨f,h1,h2,h3⟩
structure J0 (c a:En) (fu fd:List Fr):Prop where
 C:Sid0 c
 A:Sid0 a
 cans:c.ans=false
 aans:a.ans=true
 u:Dir c a fu fd
 d:Dir a c fd fu
 has:∀i,Has a i→(stOf a i).got≠[]
 kinds:∀f,f ∈ fu∨f ∈ c.wait∨f ∈ fd∨f ∈ a.wait→f.kind=8→f.stream=0∨Has a f.stream
 noReset:∀f ∈ fd,f.kind≠3
 ord:(a.strs.map St.id++heads fu).Pairwise (· < ·)
 beg:∀i j,i < j→Has c i→(stOf c j).begun=true→(stOf c i).begun=true∨(stOf c i).state≠1
 gone:∀i,((stOf a i).state=3∨∃f,(f ∈ fu∨f ∈ c.wait)∧f.kind=3∧f.stream=i)→(stOf c i).state=3
structure J (c a:En) (fu fd:List Fr):Prop extends J0 c a fu fd where
 cl:Loc c
 al:Loc a
section
variable {c a:En} {fu fd:List Fr}
theorem J0.up (h:J0 c a fu fd) {i:Int} (hi:Has a i):(stOf c i).begun=true:=h.u.gotten (h.has i hi)
theorem J0.hasUp (h:J0 c a fu fd) {i:Int} (hi:Has a i):Has c i:=begun_has (h.up hi)
theorem mem_id {e:En} {i:Int} (h:i ∈ e.strs.map St.id):Has e i:=by
 obtain ⟨s,hs,rfl⟩:=List.mem_map.1 h
 obtain ⟨k,hk,rfl⟩:=List.getElem_of_mem hs
 have:=Has.at_ hk
 rwa [stAt,getD_lt st0 hk] at this
theorem has_mem {e:En} {i:Int} (h:Has e i):i ∈ e.strs.map St.id:=by
 obtain ⟨k,hk⟩:=h
 obtain ⟨h1,h2⟩:=atM_some hk
 rw [←h2,getD_lt st0 h1]
 exact List.mem_map.2 ⟨_,List.getElem_mem h1,rfl⟩
theorem Ids.has {e x:En} {i j:Int} (h:Ids e x.strs i):Has x j↔Has e j∨j=i:=by
 rcases h with ⟨h1,h2⟩ | ⟨h1,h2⟩
 ·rw [Has.of_eq h2]
  constructor
  ·exact Or.inl
  ·rintro (z | rfl)
   ·exact z
   ·exact h1
 ·constructor
  ·intro z
   have:=has_mem z
   rw [h2,List.mem_append,List.mem_singleton] at this
   rcases this with z | z
   ·exact .inl (mem_id z)
   ·exact .inr z
  ·intro z
   refine mem_id ?_
   rw [h2,List.mem_append,List.mem_singleton]
   rcases z with z | z
   ·exact .inl (has_mem z)
   ·exact .inr z
theorem fin_state {last:Bool} {s:St}:(fin true last s).state=s.state:=by
 unfold fin
 split
 ·unfold doneM
  split
  ·rfl
  ·rfl
 ·rfl
theorem fin_three {ans last:Bool} {s:St} (h:s.state=3):(fin ans last s).state=3:=by
 unfold fin
 split
 ·unfold doneM; rw [if_pos (by rw [h]; decide)]; exact h
 ·exact h
theorem J0.gone' (h:J0 c a fu fd) {x:En} {gu:List Fr} (hx:∀i,(stOf x i).state=3→(stOf a i).state=3) (hg:∀f,f ∈ gu→f.kind=3→f ∈ fu∨f ∈ c.wait):∀i,((stOf x i).state=3∨∃f,(f ∈ gu∨f ∈ c.wait)∧f.kind=3∧f.stream=i)→(stOf c i).state=3:=by
 rintro i (z | ⟨f,z,k3,ki⟩)
 ·exact h.gone i (.inl (hx i z))
 ·refine h.gone i (.inr ⟨f,?_,k3,ki⟩)
  rcases z with z | z
  ·exact hg f z k3
  ·exact .inr z
theorem begun_fin {last:Bool} {s t:St} (hs:sd t=sd s):t.begun=s.begun:=by
 have:=congrArg Rv.g hs
 exact this
theorem J.takeUp {f:Fr} (h:J c a (f :: fu) fd):J c (frameM a f) fu fd:=by
 have hS:=h.C
 have hR:=h.A.loc h.al
 have hC:=h.C.loc h.cl
 have hfo:=h.u.ok f (by simp)
 have hkin:∀g,g ∈ fu∨g ∈ c.wait∨g ∈ fd∨g ∈ a.wait→g.kind=8→g.stream=0∨Has a g.stream:=fun g hg=>h.kinds g (by rcases hg with z | z; exact .inl (by simp [z]); exact .inr z)
 rcases frame_cases hfo with hk | hk | hk | hk
 ·obtain ⟨l,w,e,hids,hw,hv,hgot,hh,x1,x2,x3⟩:=deliver_data hR hC h.u h.d hk
  have hhas:∀j,Has { a with room:=a.room - f.body.length,wait:=a.wait++w,strs:=l } j↔Has a j:=fun j=>Has.of_eq (e:=a) (x:={ a with room:=a.room - f.body.length,wait:=a.wait++w,strs:=l }) hids
  have hst:∀i,(stOf { a with room:=a.room - f.body.length,wait:=a.wait++w,strs:=l } i).state=3→(stOf a i).state=3:=fun i hi=>by
   have hy:(stOf { a with strs:=l } i).state=3:=hi
   rw [hv] at hy
   clear hi
   split at hy
   ·rename_i hji; subst hji; rw [h.aans,fin_state] at hy; exact hy
   ·exact hy
  rw [e]
  refine ⟨⟨hS,x1.zero,h.cans,h.aans,x2,x3,fun i hi=>?_,fun g hg h8=>?_,h.noReset,?_,h.beg,h.gone' (x:=_) (gu:=fu) hst (fun g hg _=>.inl (by simp [hg]))⟩,h.cl,x1.l⟩
  ·have:=h.has i ((hhas i).1 hi)
   show (stOf { a with strs:=l } i).got≠[]
   rw [hv]; split
   ·rename_i hji; subst hji; rw [(fin_keeps _ _ _).1]; exact this
   ·exact this
  ·rw [hhas]
   have hg':(g ∈ fu∨g ∈ c.wait∨g ∈ fd∨g ∈ a.wait)∨g ∈ w:=by
    rcases hg with z | z | z | z
    ·exact .inl (.inl z)
    ·exact .inl (.inr (.inl z))
    ·exact .inl (.inr (.inr (.inl z)))
    ·rcases List.mem_append.1 z with z | z
     ·exact .inl (.inr (.inr (.inr z)))
     ·exact .inr z
   rcases hg' with z | z
   ·exact hkin g z h8
   ·rcases (hw g z).2 with q | q
    ·exact .inl q
    ·rw [q]; exact .inr (got_has hgot)
  ·have:=h.ord
   rw [heads_no (by rw [hk]; decide)] at this
   show (l.map St.id++heads fu).Pairwise (· < ·)
   rw [hids]; exact this
 ·have hord:=h.ord
  rw [heads_one hk] at hord
  have hlt:∀i ∈ a.strs.map St.id,i < f.stream:=fun i hi=>(List.pairwise_append.1 hord).2.2 i hi f.stream (by simp)
  have hgr:a.strs=[]∨(a.strs.getD (a.strs.length - 1) st0).id < f.stream:=by
   by_cases h0:a.strs=[]
   ·exact .inl h0
   ·have hp:=List.length_pos_iff.2 h0
    refine .inr (hlt _ ?_)
    rw [getD_lt st0 (by omega)]
    exact List.mem_map.2 ⟨_,List.getElem_mem _,rfl⟩
  obtain ⟨l,t,e,hids,hv,hne,x1,x2,x3⟩:=deliver_head hR hC h.u h.d hk (.inr ⟨h.aans,hgr⟩)
  have hno:¬Has a f.stream:=fun z=>absurd (hlt _ (has_mem z)) (Int.lt_irrefl _)
  have hhas:∀j,Has { a with inn:=t,strs:=l } j↔Has a j∨j=f.stream:=fun j=>Ids.has (x:={ a with inn:=t,strs:=l }) hids
  have hst:∀i,(stOf { a with inn:=t,strs:=l } i).state=3→(stOf a i).state=3:=fun i hi=>by
   rw [hv] at hi
   split at hi
   ·rename_i hji; subst hji; rw [h.aans,fin_state] at hi; exact hi
   ·exact hi
  rw [e]
  refine ⟨⟨hS,x1.zero,h.cans,h.aans,x2,x3,fun i hi=>?_,fun g hg h8=>?_,h.noReset,?_,h.beg,h.gone' (x:=_) (gu:=fu) hst (fun g hg _=>.inl (by simp [hg]))⟩,h.cl,x1.l⟩
  ·rw [hv]; split
   ·rename_i hji; subst hji; rw [(fin_keeps _ _ _).1]; exact hne
   ·rename_i hji
    exact h.has i (((hhas i).1 hi).resolve_right hji)
  ·rcases hkin g hg h8 with z | z
   ·exact .inl z
   ·exact .inr ((hhas _).2 (.inl z))
  ·rcases hids with ⟨z,_⟩ | ⟨_,z⟩
   ·exact absurd z hno
   ·show (l.map St.id++heads fu).Pairwise (· < ·)
    rw [z,List.append_assoc]; exact hord
 ·obtain ⟨l,e,hids,hv,x1,x2,x3⟩:=deliver_reset hR hC h.u h.d hk h.aans
  have hhas:∀j,Has { a with strs:=l } j↔Has a j:=fun j=>Has.of_eq (e:=a) (x:={ a with strs:=l }) hids
  rw [e]
  refine ⟨⟨hS,x1.zero,h.cans,h.aans,x2,x3,fun i hi=>?_,fun g hg h8=>?_,h.noReset,?_,h.beg,fun i hi=>?_⟩,h.cl,x1.l⟩
  ·obtain ⟨s',q,_⟩:=hv i
   rw [q]; exact h.has i ((hhas i).1 hi)
  ·rw [hhas]; exact hkin g hg h8
  ·have:=h.ord
   rw [heads_no (by rw [hk]; decide)] at this
   show (l.map St.id++heads fu).Pairwise (· < ·)
   rw [hids]; exact this
  ·rcases hi with z | ⟨g,z,k3,ki⟩
   ·obtain ⟨s',q,hs⟩:=hv i
    rw [q] at z
    rcases hs with rfl | ⟨rfl,rfl⟩
    ·exact h.gone i (.inl z)
    ·exact h.gone _ (.inr ⟨f,.inl (by simp),hk,rfl⟩)
   ·exact h.gone i (.inr ⟨g,by rcases z with z | z; exact .inl (by simp [z]); exact .inr z,k3,ki⟩)
 ·obtain ⟨l,s,e,hids,hv,x1,x2,x3⟩:=deliver_more hR hC h.u h.d hk (h.kinds f (by simp) hk)
  have hhas:∀j,Has { a with send:=s,strs:=l } j↔Has a j:=fun j=>Has.of_eq (e:=a) (x:={ a with send:=s,strs:=l }) hids
  have hst:∀i,(stOf { a with send:=s,strs:=l } i).state=3→(stOf a i).state=3:=fun i hi=>by
   obtain ⟨s',q⟩:=hv i
   have q:stOf { a with send:=s,strs:=l } i=_:=q
   rw [q] at hi; exact hi
  rw [e]
  refine ⟨⟨hS,x1.zero,h.cans,h.aans,x2,x3,fun i hi=>?_,fun g hg h8=>?_,h.noReset,?_,h.beg,h.gone' (x:=_) (gu:=fu) hst (fun g hg _=>.inl (by simp [hg]))⟩,h.cl,x1.l⟩
  ·obtain ⟨s',q⟩:=hv i
   show (stOf { a with strs:=l } i).got≠[]
   rw [q]; exact h.has i ((hhas i).1 hi)
  ·rw [hhas]; exact hkin g hg h8
  ·have:=h.ord
   rw [heads_no (by rw [hk]; decide)] at this
   show (l.map St.id++heads fu).Pairwise (· < ·)
   rw [hids]; exact this
theorem J.takeDown {f:Fr} (h:J c a fu (f :: fd)):J (frameM c f) a fu fd:=by
 have hA:=h.A.loc h.al
 have hR:=h.C.loc h.cl
 have hfo:=h.d.ok f (by simp)
 have hkin:∀g,g ∈ fu∨g ∈ c.wait∨g ∈ fd∨g ∈ a.wait→g.kind=8→g.stream=0∨Has a g.stream:=fun g hg=>h.kinds g (by rcases hg with z | z | z | z; exact .inl z; exact .inr (.inl z); exact .inr (.inr (.inl (by simp [z]))); exact .inr (.inr (.inr z)))
 have hnr:∀g ∈ fd,g.kind≠3:=fun g hg=>h.noReset g (by simp [hg])
 rcases frame_cases hfo with hk | hk | hk | hk
 ·obtain ⟨l,w,e,hids,hw,hv,hg,hh,x1,x2,x3⟩:=deliver_data hR hA h.d h.u hk
  have hhas:∀j,Has { c with room:=c.room - f.body.length,wait:=c.wait++w,strs:=l } j↔Has c j:=fun j=>Has.of_eq (e:=c) (x:={ c with room:=c.room - f.body.length,wait:=c.wait++w,strs:=l }) hids
  have ha:Has a f.stream:=begun_has (h.d.begun (by simp) rfl (.inl hk))
  have hb:∀j,(stOf { c with strs:=l } j).begun=(stOf c j).begun∧((stOf c j).state≠1→(stOf { c with strs:=l } j).state≠1):=fun j=>by
   rw [hv]; split
   ·rename_i hji; subst hji
    rw [h.cans]
    refine ⟨begun_fin (last:=f.last) ((fin_sd (s:=(stOf c f.stream).more f.body) ⟨(h.C.si _).not,(h.C.si _).beg,(h.C.si _).head⟩ (fun z=>by cases z)).1),fun z=>?_⟩
    unfold fin
    split
    ·unfold doneM; rw [if_pos (show ((stOf c f.stream).more f.body).state≠1 from z)]; exact z
    ·exact z
   ·exact ⟨rfl,id⟩
  rw [e]
  refine ⟨⟨x1.zero,h.A,h.cans,h.aans,x3,x2,h.has,fun g hg h8=>?_,hnr,h.ord,fun i j hij hi hj=>?_,fun i hi=>?_⟩,x1.l,h.al⟩
  ·have hg':(g ∈ fu∨g ∈ c.wait∨g ∈ fd∨g ∈ a.wait)∨g ∈ w:=by
    rcases hg with z | z | z | z
    ·exact .inl (.inl z)
    ·rcases List.mem_append.1 z with z | z
     ·exact .inl (.inr (.inl z))
     ·exact .inr z
    ·exact .inl (.inr (.inr (.inl z)))
    ·exact .inl (.inr (.inr (.inr z)))
   rcases hg' with z | z
   ·exact hkin g z h8
   ·rcases (hw g z).2 with q | q
    ·exact .inl q
    ·rw [q]; exact .inr ha
  ·have hj':(stOf c j).begun=true:=(hb j).1 ▸ hj
   rcases h.beg i j hij ((hhas i).1 hi) hj' with z | z
   ·exact .inl ((hb i).1.trans z)
   ·exact .inr ((hb i).2 z)
  ·have z:(stOf c i).state=3:=by
    refine h.gone i ?_
    rcases hi with z | ⟨g,z,k3,ki⟩
    ·exact .inl z
    ·refine .inr ⟨g,?_,k3,ki⟩
     rcases z with z | z
     ·exact .inl z
     ·rcases List.mem_append.1 z with z | z
      ·exact .inr z
      ·rw [(hw g z).1] at k3; cases k3
   show (stOf { c with strs:=l } i).state=3
   rw [hv]; split
   ·rename_i hji; subst hji; exact fin_three z
   ·exact z
 ·have ha:Has a f.stream:=begun_has (h.d.begun (by simp) rfl (.inr (.inl hk)))
  have hc:=h.hasUp ha
  obtain ⟨l,t,e,hids,hv,hne,x1,x2,x3⟩:=deliver_head hR hA h.d h.u hk (.inl hc)
  have hhas:∀j,Has { c with inn:=t,strs:=l } j→Has c j:=fun j z=>by
   rcases (Ids.has (x:={ c with inn:=t,strs:=l }) hids).1 z with z | z
   ·exact z
   ·rw [z]; exact hc
  have hb:∀j,(stOf { c with inn:=t,strs:=l } j).begun=(stOf c j).begun∧((stOf c j).state≠1→(stOf { c with inn:=t,strs:=l } j).state≠1):=fun j=>by
   rw [hv]; split
   ·rename_i hji; subst hji
    rw [h.cans]
    refine ⟨begun_fin (last:=f.last) ((fin_sd (s:=(stOf c f.stream).take (stOf a f.stream).head) ⟨(h.C.si _).not,(h.C.si _).beg,(h.C.si _).head⟩ (fun z=>by cases z)).1),fun z=>?_⟩
    unfold fin
    split
    ·unfold doneM; rw [if_pos (show ((stOf c f.stream).take (stOf a f.stream).head).state≠1 from z)]; exact z
    ·exact z
   ·exact ⟨rfl,id⟩
  rw [e]
  refine ⟨⟨x1.zero,h.A,h.cans,h.aans,x3,x2,h.has,hkin,hnr,h.ord,fun i j hij hi hj=>?_,fun i hi=>?_⟩,x1.l,h.al⟩
  ·have hj':(stOf c j).begun=true:=(hb j).1 ▸ hj
   rcases h.beg i j hij (hhas i hi) hj' with z | z
   ·exact .inl ((hb i).1.trans z)
   ·exact .inr ((hb i).2 z)
  ·have z:=h.gone i hi
   rw [hv]; split
   ·rename_i hji; subst hji; exact fin_three z
   ·exact z
 ·exact absurd hk (h.noReset f (by simp))
 ·obtain ⟨l,s,e,hids,hv,x1,x2,x3⟩:=deliver_more hR hA h.d h.u hk ((h.kinds f (.inr (.inr (.inl (by simp)))) hk).imp id h.hasUp)
  have hhas:∀j,Has { c with send:=s,strs:=l } j↔Has c j:=fun j=>Has.of_eq (e:=c) (x:={ c with send:=s,strs:=l }) hids
  rw [e]
  refine ⟨⟨x1.zero,h.A,h.cans,h.aans,x3,x2,h.has,hkin,hnr,h.ord,fun i j hij hi hj=>?_,fun i hi=>?_⟩,x1.l,h.al⟩
  ·obtain ⟨si,qi⟩:=hv i
   obtain ⟨sj,qj⟩:=hv j
   have qi:stOf { c with send:=s,strs:=l } i=_:=qi
   have qj:stOf { c with send:=s,strs:=l } j=_:=qj
   rw [qj] at hj
   rw [qi]
   exact h.beg i j hij ((hhas i).1 hi) hj
  ·have z:=h.gone i hi
   obtain ⟨s',q⟩:=hv i
   have q:stOf { c with send:=s,strs:=l } i=_:=q
   rw [q]; exact z
theorem J0.emitUp {f:Fr} {l:List Fr} (h:J0 c a fu fd) (hw:c.wait=f :: l):J0 (roomM { c with wait:=l } f) a (fu++[f]) fd∧(roomM { c with wait:=l } f).wait=l:=by
 have hf:f.kind≠1:=by rcases h.C.waits f (by rw [hw]; simp) with z | z; rw [z]; decide; rw [z.1]; decide
 obtain ⟨r,ss,e,hids,hv,x1,x2,x3⟩:=emit h.C h.u h.d hw (fun h8=>(h.kinds f (.inr (.inl (by rw [hw]; simp))) h8).imp id h.hasUp)
 rw [e]
 refine ⟨⟨x1,h.A,h.cans,h.aans,x2,x3,h.has,fun g hg=>h.kinds g ?_,h.noReset,?_,fun i j hij hi hj=>?_,fun i hi=>?_⟩,rfl⟩
 ·rcases hg with z | z | z
  ·rcases List.mem_append.1 z with z | z
   ·exact .inl z
   ·exact .inr (.inl (by rw [hw]; simp [List.mem_singleton.1 z]))
  ·exact .inr (.inl (by rw [hw]; simp [show g ∈ l from z]))
  ·exact .inr (.inr z)
 ·rw [heads_app,heads_no hf]; simpa [heads] using h.ord
 ·obtain ⟨si,qi⟩:=hv i
  obtain ⟨sj,qj⟩:=hv j
  rw [qj] at hj
  rw [qi]
  exact h.beg i j hij ((Has.of_eq (e:=c) (x:={ c with wait:=l,room:=r,strs:=ss }) hids).1 hi) hj
 ·obtain ⟨si,qi⟩:=hv i
  rw [qi]
  refine h.gone i ?_
  rcases hi with z | ⟨g,z,k3,ki⟩
  ·exact .inl z
  ·refine .inr ⟨g,?_,k3,ki⟩
   rcases z with z | z
   ·rcases List.mem_append.1 z with z | z
    ·exact .inl z
    ·exact .inr (by rw [hw]; simp [List.mem_singleton.1 z])
   ·exact .inr (by rw [hw]; simp [show g ∈ l from z])
theorem J0.emitDown {f:Fr} {l:List Fr} (h:J0 c a fu fd) (hw:a.wait=f :: l):J0 c (roomM { a with wait:=l } f) fu (fd++[f])∧(roomM { a with wait:=l } f).wait=l:=by
 have h8:f.kind=8:=by rcases h.A.waits f (by rw [hw]; simp) with z | z; exact z; rw [h.aans] at z; cases z.2
 obtain ⟨r,ss,e,hids,hv,x1,x2,x3⟩:=emit h.A h.d h.u hw (fun h8=>h.kinds f (.inr (.inr (.inr (by rw [hw]; simp)))) h8)
 have hhas:∀j,Has { a with wait:=l,room:=r,strs:=ss } j↔Has a j:=fun j=>Has.of_eq (e:=a) (x:={ a with wait:=l,room:=r,strs:=ss }) hids
 rw [e]
 refine ⟨⟨h.C,x1,h.cans,h.aans,x3,x2,fun i hi=>?_,fun g hg h8=>?_,fun g hg=>?_,?_,h.beg,h.gone' (fun i hi=>by obtain ⟨s',q⟩:=hv i; rw [q] at hi; exact hi) (fun g hg _=>.inl hg)⟩,rfl⟩
 ·obtain ⟨s',q⟩:=hv i
  rw [q]; exact h.has i ((hhas i).1 hi)
 ·rw [hhas]
  refine h.kinds g ?_ h8
  rcases hg with z | z | z | z
  ·exact .inl z
  ·exact .inr (.inl z)
  ·rcases List.mem_append.1 z with z | z
   ·exact .inr (.inr (.inl z))
   ·exact .inr (.inr (.inr (by rw [hw]; simp [List.mem_singleton.1 z])))
  ·exact .inr (.inr (.inr (by rw [hw]; simp [show g ∈ l from z])))
 ·rcases List.mem_append.1 hg with z | z
  ·exact h.noReset g z
  ·rw [List.mem_singleton.1 z,h8]; decide
 ·show (ss.map St.id++heads fu).Pairwise (· < ·)
  rw [hids]; exact h.ord
theorem roomM_wait (e:En) (f:Fr) (w:List Fr):roomM { e with wait:=w } f={ roomM e f with wait:=w }:=by
 unfold roomM
 split
 ·rfl
 ·split
  ·rfl
  ·simp only
   split <;> rfl
theorem waitM_wait:∀(l:List Fr) (e:En) (w:List Fr),waitM { e with wait:=w } l=({ (waitM e l).1 with wait:=w },(waitM e l).2)
 | [],e,w=>rfl
 | f :: l,e,w=>by
  simp only [waitM]
  rw [roomM_wait,waitM_wait l]
theorem J0.waitUp:∀(l:List Fr) {c a:En} {fu fd:List Fr},J0 c a fu fd→c.wait=l→J0 { (waitM c l).1 with wait:=[] } a (fu++l) fd∧(waitM c l).2=bytes l
 | [],c,a,fu,fd,h,hw=>by
  have e:({ (waitM c []).1 with wait:=[] }:En)=c:=by
   show ({ c with wait:=[] }:En)=c
   clear h; cases c; simp only at hw; subst hw; rfl
  rw [e,List.append_nil]
  exact ⟨h,rfl⟩
 | f :: l,c,a,fu,fd,h,hw=>by
  obtain ⟨h1,hw1⟩:=h.emitUp hw
  obtain ⟨h2,hb⟩:=J0.waitUp l h1 hw1
  rw [roomM_wait,waitM_wait] at h2 hb
  rw [List.append_assoc] at h2
  exact ⟨h2,by simp only [waitM]; rw [bytes_cons]; exact congrArg (frW f++·) hb⟩
theorem J0.waitDown:∀(l:List Fr) {c a:En} {fu fd:List Fr},J0 c a fu fd→a.wait=l→J0 c { (waitM a l).1 with wait:=[] } fu (fd++l)∧(waitM a l).2=bytes l
 | [],c,a,fu,fd,h,hw=>by
  have e:({ (waitM a []).1 with wait:=[] }:En)=a:=by
   show ({ a with wait:=[] }:En)=a
   clear h; cases a; simp only at hw; subst hw; rfl
  rw [e,List.append_nil]
  exact ⟨h,rfl⟩
 | f :: l,c,a,fu,fd,h,hw=>by
  obtain ⟨h1,hw1⟩:=h.emitDown hw
  obtain ⟨h2,hb⟩:=J0.waitDown l h1 hw1
  rw [roomM_wait,waitM_wait] at h2 hb
  rw [List.append_assoc] at h2
  exact ⟨h2,by simp only [waitM]; rw [bytes_cons]; exact congrArg (frW f++·) hb⟩
end
end
end Go.Proofs.YtaamlddnpamomaaGreatDoor
