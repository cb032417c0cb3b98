/- A part of the proof: contracts of functions, or plain facts on which these lean. -/
import Derived.Test.YtaamlddnpamomaaGreatDoorMf35
namespace Go.Proofs.YtaamlddnpamomaaGreatDoor
open Go
set_option linter.unusedVariables false
set_option linter.unusedSimpArgs false
set_option maxRecDepth 100000
set_option maxHeartbeats 16000000

section
def St.take (s:St) (h:List Fd):St:={ s with got:=h }
def St.more (s:St) (b:List UInt8):St:={ s with text:=s.text++b,room:=s.room - b.length }
def St.withSend (s:St) (n:Int):St:={ s with send:=n }
def St.withState (s:St) (n:Int):St:={ s with state:=n }
def fin (ans last:Bool) (s:St):St:=if last then doneM ans s else s
theorem fin_keeps (ans last:Bool) (s:St):(fin ans last s).got=s.got∧(fin ans last s).text=s.text∧(fin ans last s).heard=(last || s.heard)∧(fin ans last s).send=s.send∧(fin ans last s).room=s.room∧(fin ans last s).id=s.id:=by
 unfold fin
 cases last with
 | false=>simp
 | true =>
  simp only [if_true,Bool.true_or]
  unfold doneM
  split
  ·exact ⟨rfl,rfl,rfl,rfl,rfl,rfl⟩
  ·split
   ·exact ⟨rfl,rfl,rfl,rfl,rfl,rfl⟩
   ·exact ⟨rfl,rfl,rfl,rfl,rfl,rfl⟩
theorem sd_none {s:St} (hi:StI s) (h:s.head=[]):sd s=⟨false,[],false⟩:=by
 have h1:=hi.head h
 obtain ⟨h2,h3⟩:=hi.not h1
 simp [sd,h1,h2,h3]
theorem fin_sd {ans last:Bool} {s:St} (hi:StI s) (h:ans=true→s.head=[]):sd (fin ans last s)=sd s∧StI (fin ans last s)∧(s.head≠[]→(fin ans last s).head=s.head):=by
 unfold fin
 cases last with
 | false=>exact ⟨rfl,hi,fun _=>rfl⟩
 | true =>
  simp only [if_true]
  unfold doneM
  split
  ·exact ⟨rfl,⟨hi.not,hi.beg,hi.head⟩,fun _=>rfl⟩
  ·split
   ·rename_i h1 h2
    have h0:=h h2
    have hi':StI (askM { s with heard:=true }):=⟨fun _=>⟨rfl,rfl⟩,fun q=>(by cases q),fun _=>rfl⟩
    refine ⟨?_,hi',fun q=>absurd h0 q⟩
    rw [sd_none hi h0]
    simp [sd,askM]
   ·exact ⟨rfl,⟨hi.not,hi.beg,hi.head⟩,fun _=>rfl⟩
theorem fin_StC {last:Bool} {s:St} (h:StC s):StC (fin false last s):=by
 unfold fin
 cases last with
 | false=>exact h
 | true =>
  simp only [if_true]
  unfold doneM
  split
  ·rename_i h1
   exact ⟨h.head,fun _=>h1,fun _=>rfl⟩
  ·exact ⟨h.head,fun _ q=>absurd (show (2:Int)=1 from q) (by decide),fun _=>rfl⟩
theorem fin_StA {last:Bool} {s:St} (hi:StI s) (hs:1≤s.state∧s.state≤3) (h0:s.head=[]) (hh:s.heard=false) (hd:s.state=2→s.said=true):StA (fin true last s):=by
 have hsaid:=(hi.not (hi.head h0)).1
 have h2:s.state≠2:=fun q=>by rw [hd q] at hsaid; cases hsaid
 unfold fin
 cases last with
 | false=>exact ⟨fun q=>absurd h0 q,fun q=>(by rw [show s.heard=true from q] at hh; cases hh),hd⟩
 | true =>
  simp only [if_true]
  unfold doneM
  split
  ·rename_i h1
   refine ⟨fun q=>absurd h0 q,fun _ q=>?_,fun q=>absurd q h2⟩
   exfalso
   have h3:({ s with heard:=true }:St).state=s.state:=rfl
   rw [h3] at q
   omega
  ·rename_i h1
   exact ⟨fun _=>⟨rfl,rfl,rfl⟩,fun _ _=>by simp [askM],fun q=>absurd q h2⟩
theorem growM_view {e:En} {i:Int} (h:Has e i∨(e.ans=true∧(e.strs=[]∨(e.strs.getD (e.strs.length - 1) st0).id < i))) :
  (∀j,stOf (growM e i) j=stOf e j)∧Has (growM e i) i∧(Has e i→growM e i=e)∧(¬Has e i→growM e i={ e with strs:=e.strs++[newSt i] }):=by
 by_cases hh:Has e i
 ·obtain ⟨k,hk⟩:=hh
  have:growM e i=e:=by unfold growM; rw [if_neg (by rw [hk]; simp)]
  rw [this]
  exact ⟨fun _=>rfl,⟨k,hk⟩,fun _=>rfl,fun q=>absurd ⟨k,hk⟩ q⟩
 ·have hn:atM e.strs i=none:=by
   cases q:atM e.strs i with
   | none=>rfl
   | some k=>exact absurd ⟨k,q⟩ hh
  have hc:=h.resolve_left hh
  have:growM e i={ e with strs:=e.strs++[newSt i] }:=by unfold growM; rw [if_pos ⟨hn,hc⟩]
  rw [this]
  refine ⟨fun j=>?_,?_,fun q=>absurd q hh,fun _=>rfl⟩
  ·rw [app_view (newSt i) rfl hh]
   split
   ·rename_i e1; subst e1; rw [stOf_none hh]
   ·rfl
  ·exact ⟨e.strs.length,by show atM (e.strs++[newSt i]) i=_; rw [atM_snoc,hn]; simp [newSt]⟩
def Ids (e:En) (l:List St) (i:Int):Prop:=(Has e i∧l.map St.id=e.strs.map St.id)∨(¬Has e i∧l.map St.id=e.strs.map St.id++[i])
theorem headFM_view {e:En} {f:Fr} {t h:List Fd} (hr:headR f.body.length e.inn e.innM f.body 0=some (t,h)) (hne:h≠[]) (hh:(stOf e f.stream).heard=false) (hg:(stOf e f.stream).got=[])
  (hgr:Has e f.stream∨(e.ans=true∧(e.strs=[]∨(e.strs.getD (e.strs.length - 1) st0).id < f.stream))) :
  ∃l,headFM e f={ e with inn:=t,strs:=l }∧(∀j,stOf { e with inn:=t,strs:=l } j=if j=f.stream then fin e.ans f.last ((stOf e f.stream).take h) else stOf e j)∧Ids e l f.stream:=by
 obtain ⟨g1,⟨k,g2⟩,g3,g4⟩:=growM_view hgr
 have gk:=atM_some g2
 have gs:stAt (growM e f.stream) k=stOf e f.stream:=by rw [←g1,stOf_some g2]
 have gf:∃l0,growM e f.stream={ e with strs:=l0 }∧Ids e l0 f.stream:=by
  by_cases q:Has e f.stream
  ·exact ⟨e.strs,g3 q,.inl ⟨q,rfl⟩⟩
  ·exact ⟨_,g4 q,.inr ⟨q,by simp [newSt]⟩⟩
 obtain ⟨l0,gf,hids⟩:=gf
 have hx:headFM e f=setSt { growM e f.stream with inn:=t } k (fin e.ans f.last ((stOf e f.stream).take h)):=by
  unfold headFM
  simp only [hr,g2]
  rw [if_neg (by rw [gs]; rintro (q | q | q); (rw [hh] at q; cases q); exact q hg; exact hne q),gs]
  rfl
 have hv:=setSt_view (e:={ growM e f.stream with inn:=t }) (s:=fin e.ans f.last ((stOf e f.stream).take h)) (show atM ({ growM e f.stream with inn:=t }:En).strs f.stream=some k from g2) ((fin_keeps _ _ _).2.2.2.2.2.trans (stOf_id e f.stream))
 refine ⟨l0.set k (fin e.ans f.last ((stOf e f.stream).take h)),?_,fun j=>?_,?_⟩
 ·rw [hx,gf]; rfl
 ·have:=hv.1 j
  rw [gf] at this
  refine this.trans ?_
  split
  ·rfl
  ·rw [←g1 j,gf]; rfl
 ·have:=hv.2
  rw [gf] at this
  unfold Ids
  rw [show (l0.set k (fin e.ans f.last ((stOf e f.stream).take h))).map St.id=l0.map St.id from this]
  exact hids
theorem dataM_view {e:En} {f:Fr} (hk:Has e f.stream) (hh:(stOf e f.stream).heard=false) (hg:(stOf e f.stream).got≠[]) (h1:(f.body.length:Int)≤e.room) (h2:(f.body.length:Int)≤(stOf e f.stream).room) (hw:wordOk ((stOf e f.stream).text++f.body)=true) :
  ∃l,dataM e f={ e with room:=e.room - f.body.length,wait:=if f.body=[] then e.wait else e.wait++[⟨8,false,0,[by8 f.body.length]⟩,⟨8,false,f.stream,[by8 f.body.length]⟩],strs:=l } ∧
   (∀j,stOf { e with strs:=l } j=if j=f.stream then fin e.ans f.last ((stOf e f.stream).more f.body) else stOf e j)∧l.map St.id=e.strs.map St.id:=by
 obtain ⟨k,hk⟩:=hk
 have gs:=stOf_some hk
 have hid:(stAt e k).id=f.stream:=(atM_some hk).2
 rw [gs] at hh hg h2 hw ⊢
 have hv:=setSt_view (e:=e) (s:=fin e.ans f.last ((stAt e k).more f.body)) hk ((fin_keeps _ _ _).2.2.2.2.2.trans hid)
 refine ⟨e.strs.set k (fin e.ans f.last ((stAt e k).more f.body)),?_,hv.1,hv.2⟩
 unfold dataM
 simp only [hk]
 rw [if_neg (by rintro (q | q | q | q | q); (rw [hh] at q; cases q); exact hg q; omega; omega; (rw [hw] at q; cases q)),←hid]
 rfl
theorem moreM_view {e:En} {f:Fr} (h0:f.stream≠0) (hk:Has e f.stream) (h2:(stOf e f.stream).send+byteAt f.body 0≤31) (hb:e.bad=false) :
  ∃l,moreM e f={ e with strs:=l }∧(∀j,stOf { e with strs:=l } j=if j=f.stream then ((stOf e f.stream).withSend ((stOf e f.stream).send+byteAt f.body 0)) else stOf e j)∧l.map St.id=e.strs.map St.id:=by
 obtain ⟨k,hk⟩:=hk
 have gs:=stOf_some hk
 have hid:(stAt e k).id=f.stream:=(atM_some hk).2
 rw [gs] at h2 ⊢
 have hv:=setSt_view (e:=e) (s:=((stAt e k).withSend ((stAt e k).send+byteAt f.body 0))) hk hid
 refine ⟨e.strs.set k ((stAt e k).withSend ((stAt e k).send+byteAt f.body 0)),?_,hv.1,hv.2⟩
 unfold moreM
 rw [if_neg h0]
 simp only [hk]
 have e1:min ((stAt e k).send+byteAt f.body 0) 31=(stAt e k).send+byteAt f.body 0:=by omega
 have e2:decide ((stAt e k).send+byteAt f.body 0 > 31)=false:=by simp; omega
 rw [e1,e2,Bool.or_false]
 rfl
theorem more0_view {e:En} {f:Fr} (h0:f.stream=0) (h2:e.send+byteAt f.body 0≤31) (hb:e.bad=false):moreM e f={ e with send:=e.send+byteAt f.body 0 }:=by
 unfold moreM
 rw [if_pos h0]
 have e1:min (e.send+byteAt f.body 0) 31=e.send+byteAt f.body 0:=by omega
 have e2:decide (e.send+byteAt f.body 0 > 31)=false:=by simp; omega
 rw [e1,e2,Bool.or_false]
theorem resetM_view {e:En} {f:Fr} (hf:f.kind=3) (hk:Has e f.stream) (ha:e.ans=true) :
  ∃l,frameM e f={ e with strs:=l }∧(∀j,stOf { e with strs:=l } j=if j=f.stream then ((stOf e f.stream).withState 3) else stOf e j)∧l.map St.id=e.strs.map St.id:=by
 obtain ⟨k,hk⟩:=hk
 have gs:=stOf_some hk
 have hid:(stAt e k).id=f.stream:=(atM_some hk).2
 rw [gs]
 have hv:=setSt_view (e:=e) (s:=((stAt e k).withState 3)) hk hid
 refine ⟨e.strs.set k ((stAt e k).withState 3),?_,hv.1,hv.2⟩
 unfold frameM
 rw [if_neg (by rw [hf]; decide),if_neg (by rw [hf]; decide),if_neg (by rw [hf]; decide)]
 simp only [hk]
 rw [if_neg (by rw [ha]; simp)]
 rfl
structure Sid (e:En):Prop where
 w:EnW 36 e
 l:Loc e
 nb:e.bad=false
 si:∀i,StI (stOf e i)
 sc:e.ans=false→∀i,Has e i→StC (stOf e i)
 sa:e.ans=true→∀i,StA (stOf e i)
 more:∀i,i≠0→(stOf e i).room+mor i e.wait=8
 waits:∀f ∈ e.wait,f.kind=8∨(f.kind=3∧e.ans=false)
theorem Sid.state {e:En} (h:Sid e) (i:Int):1≤(stOf e i).state∧(stOf e i).state≤3:=by
 by_cases q:Has e i
 ·obtain ⟨k,hk⟩:=q
  rw [stOf_some hk]
  exact (stOk_iff.1 (h.w.st (atM_some hk).1)).2.1
 ·rw [stOf_none q]; exact ⟨by simp [newSt],by simp [newSt]⟩
theorem Sid.stok {e:En} (h:Sid e) {i:Int} (hi:Has e i):stOk (stOf e i)=true:=by
 obtain ⟨k,hk⟩:=hi
 rw [stOf_some hk]
 exact h.w.st (atM_some hk).1
theorem begun_has {e:En} {i:Int} (h:(stOf e i).begun=true):Has e i:=by
 by_cases q:Has e i
 ·exact q
 ·rw [stOf_none q] at h; cases h
theorem got_has {e:En} {i:Int} (h:(stOf e i).got≠[]):Has e i:=by
 by_cases q:Has e i
 ·exact q
 ·rw [stOf_none q] at h; exact absurd rfl h
theorem run_cons {i:Int} {r z:Rv} {f:Fr} {l:List Fr} (h:run i r (f :: l)=some z):∃x,adv i r f=some x∧run i x l=some z:=by
 simp only [run] at h
 cases q:adv i r f with
 | none=>rw [q] at h; cases h
 | some x=>rw [q] at h; exact ⟨x,rfl,h⟩
theorem adv_other {i:Int} {r x:Rv} {f:Fr} (hs:f.stream≠i) (h:adv i r f=some x):x=r:=by
 unfold adv at h; rw [if_pos hs] at h; cases h; rfl
theorem adv_head {r x:Rv} {f:Fr} (hk:f.kind=1) (h:adv f.stream r f=some x):r.h=false∧r.g=false∧x=⟨true,r.t,f.last⟩:=by
 unfold adv at h
 rw [if_neg (by simp),if_pos hk] at h
 split at h
 ·rename_i q; cases h; exact ⟨q.1,q.2.1,rfl⟩
 ·cases h
theorem adv_data {r x:Rv} {f:Fr} (hk:f.kind=0) (h:adv f.stream r f=some x):r.h=false∧r.g=true∧x=⟨true,r.t++f.body,f.last⟩:=by
 unfold adv at h
 rw [if_neg (by simp),if_neg (by rw [hk]; decide),if_pos hk] at h
 split at h
 ·rename_i q; cases h; exact ⟨q.1,q.2,rfl⟩
 ·cases h
theorem adv_reset {r x:Rv} {f:Fr} (hk:f.kind=3) (h:adv f.stream r f=some x):r.g=true∧x=r:=by
 unfold adv at h
 rw [if_neg (by simp),if_neg (by rw [hk]; decide),if_neg (by rw [hk]; decide),if_pos hk] at h
 split at h
 ·rename_i q; cases h; exact ⟨q,rfl⟩
 ·cases h
theorem adv_more {i:Int} {r x:Rv} {f:Fr} (hk:f.kind=8) (h:adv i r f=some x):x=r:=by
 unfold adv at h
 split at h
 ·cases h; rfl
 ·rw [if_neg (by rw [hk]; decide),if_neg (by rw [hk]; decide),if_neg (by rw [hk]; decide)] at h; cases h; rfl
theorem Dir.begun {S R:En} {q p:List Fr} (d:Dir S R q p) {i:Int} {f:Fr} (hf:f ∈ q++S.wait) (hs:f.stream=i) (hk:f.kind=0∨f.kind=1∨f.kind=3):(stOf S i).begun=true :=
 (run_keeps (d.run i)).2.2.2.1 f hf hs hk
theorem Dir.gotten {S R:En} {q p:List Fr} (d:Dir S R q p) {i:Int} (h:(stOf R i).got≠[]):(stOf S i).begun=true :=
 (run_keeps (d.run i)).1 (by simp [rv,h])
theorem frame_cases {f:Fr} (h:frameOk f=true):f.kind=0∨f.kind=1∨f.kind=3∨f.kind=8:=by
 unfold frameOk at h
 split at h
 ·rename_i q; rcases q with q | q; exact .inl q; exact .inr (.inl q)
 ·split at h
  ·rename_i q; exact .inr (.inr (.inl q))
  ·split at h
   ·rename_i q; exact .inr (.inr (.inr q))
   ·cases h
section
variable {S R:En} {f:Fr} {q p:List Fr}
theorem deliver_head (hR:Sid R) (hS:Sid S) (d:Dir S R (f :: q) p) (d':Dir R S p (f :: q)) (hk:f.kind=1) (hgr:Has R f.stream∨(R.ans=true∧(R.strs=[]∨(R.strs.getD (R.strs.length - 1) st0).id < f.stream))) :
  ∃l t,frameM R f={ R with inn:=t,strs:=l }∧Ids R l f.stream∧(∀j,stOf { R with inn:=t,strs:=l } j=if j=f.stream then fin R.ans f.last ((stOf R f.stream).take (stOf S f.stream).head) else stOf R j)∧(stOf S f.stream).head≠[] ∧
   Sid { R with inn:=t,strs:=l }∧Dir S { R with inn:=t,strs:=l } q p∧Dir { R with inn:=t,strs:=l } S p q:=by
 obtain ⟨x,hx,hrun⟩:=run_cons (d.run f.stream)
 obtain ⟨hh,hg,rfl⟩:=adv_head hk hx
 have hh:(stOf R f.stream).heard=false:=hh
 have hg:(stOf R f.stream).got=[]:=by simpa [rv] using hg
 have hb:(stOf S f.stream).begun=true:=d.begun (by simp) rfl (.inr (.inl hk))
 have hne:(stOf S f.stream).head≠[]:=fun z=>by rw [(hS.si _).head z] at hb; cases hb
 have hok:=(stOk_iff.1 (hS.stok (begun_has hb))).2.2.1
 have htab:=d.tab
 simp only [tabOn] at htab
 rw [if_pos hk,d.m] at htab
 obtain ⟨hbody,htab⟩:=htab
 have hr:=head_back hR.w.inn hok
 unfold hrM at hr
 split at hr
 case isFalse=>cases hr
 rw [←hbody] at hr
 obtain ⟨l,he,hv,hids⟩:=headFM_view hr hne hh hg hgr
 have hfe:frameM R f={ R with inn:=(headW R.inn R.innM (stOf S f.stream).head).1,strs:=l }:=by unfold frameM; rw [if_pos hk]; exact he
 have hfo:=d.ok f (by simp)
 have hL:=frameM_loc hR.l hR.w hfo
 have hW:=hL.w (frameM_w hR.w hfo)
 rw [hfe] at hL hW
 have H:R.ans=true→(stOf R f.stream).head=[]:=fun ha=>by
  cases hq:(stOf R f.stream).head with
  | nil=>rfl
  | cons y ys =>
   have:=((hR.sa ha f.stream).ask (by rw [hq]; simp)).1
   rw [hh] at this; cases this
 have hi1:StI ((stOf R f.stream).take (stOf S f.stream).head):=⟨(hR.si _).not,(hR.si _).beg,(hR.si _).head⟩
 obtain ⟨s1,s2,s3⟩:=fin_sd (last:=f.last) hi1 H
 obtain ⟨k1,k2,k3,k4,k5,k6⟩:=fin_keeps R.ans f.last ((stOf R f.stream).take (stOf S f.stream).head)
 refine ⟨l,_,hfe,hids,hv,hne,⟨hW,hL,hR.nb,fun j=>?_,fun ha j hj=>?_,fun ha j=>?_,fun j hj=>?_,hR.waits⟩,⟨d.m,?_,fun j=>?_,fun j=>?_,?_,fun j hj=>?_,fun g hg=>d.ok g (by simp [hg])⟩,⟨d'.m,?_,fun j=>?_,fun j=>?_,?_,fun j hj=>?_,d'.ok⟩⟩
 ·rw [hv]; split
  ·exact s2
  ·exact hR.si j
 ·rw [hv]; split
  ·have hR':Has R f.stream:=hgr.resolve_right (fun z=>by rw [show R.ans=false from ha] at z; cases z.1)
   have hc:=hR.sc ha f.stream hR'
   rw [show R.ans=false from ha]
   exact fin_StC ⟨hc.head,hc.heard,hc.done⟩
  ·rename_i hji
   refine hR.sc ha j ?_
   rcases hids with ⟨_,z⟩ | ⟨z,_⟩
   ·exact (Has.of_eq (e:=R) (x:={ R with inn:=_,strs:=l }) z).1 hj
   ·exact absurd (hgr.resolve_right (fun z=>by rw [show R.ans=false from ha] at z; cases z.1)) z
 ·rw [hv]; split
  ·rw [show R.ans=true from ha]
   exact fin_StA hi1 (hR.state f.stream) (H ha) hh (hR.sa ha f.stream).done
  ·exact hR.sa ha j
 ·rw [hv]; split
  ·rename_i hji; subst hji; rw [k5]; exact hR.more _ hj
  ·exact hR.more j hj
 ·rw [d.m]; exact htab
 ·rw [hv]; split
  ·rename_i hji; subst hji
   have:rv (fin R.ans f.last ((stOf R f.stream).take (stOf S f.stream).head))=⟨true,(rv (stOf R f.stream)).t,f.last⟩:=by
    unfold rv
    rw [k1,k2,k3]
    simp [St.take,hh,hne]
   rw [this]; exact hrun
  ·rename_i hji
   obtain ⟨y,hy,hrun'⟩:=run_cons (d.run j)
   rw [adv_other (fun z=>hji z.symm) hy] at hrun'
   exact hrun'
 ·rw [hv]; split
  ·rename_i hji; subst hji; rw [k1]; exact .inr rfl
  ·exact d.got j
 ·have:=d.flow
  simp only [dat] at this
  rw [if_neg (by rw [hk]; simp)] at this
  simpa using this
 ·have:=d.own j hj
  simp only [dat] at this
  rw [if_neg (by rw [hk]; simp)] at this
  rw [hv]; split
  ·rename_i hji; subst hji; rw [k5]; simpa [St.take] using this
  ·simpa using this
 ·refine tabOn_congr (fun g hg hgk=>?_) d'.tab
  show (stOf R g.stream).head=(stOf _ g.stream).head
  rw [hv]; split
  ·rename_i hji
   rw [hji]
   have hb':=d'.begun (i:=f.stream) (f:=g) (by simp [hg]) hji (.inr (.inl hgk))
   exact (s3 (fun z=>by rw [(hR.si _).head z] at hb'; cases hb')).symm
  ·rfl
 ·rw [hv]; split
  ·rename_i hji; subst hji; rw [s1]; exact d'.run f.stream
  ·exact d'.run j
 ·rw [hv]; split
  ·rename_i hji; subst hji
   rcases d'.got f.stream with z | z
   ·exact .inl z
   ·by_cases h0:(stOf R f.stream).head=[]
    ·rw [h0] at z; exact .inl z
    ·rw [s3 h0]; exact .inr z
  ·exact d'.got j
 ·have:=d'.flow
  simp only [mor] at this
  rw [if_neg (by rw [hk]; simp)] at this
  simpa using this
 ·have:=d'.own j hj
  simp only [mor] at this
  rw [if_neg (by rw [hk]; simp)] at this
  rw [hv]; split
  ·rename_i hji; subst hji; rw [k4]; simpa [St.take,St.more] using this
  ·simpa using this
theorem wordOk_front {a b:List UInt8} (h:wordOk (a++b)=true):wordOk a=true:=by
 rw [wordOk_iff] at h ⊢
 exact ⟨fun c hc=>h.1 c (by simp [hc]),by have:=h.2; rw [List.length_append] at this; omega⟩
theorem wordOk_take {w:List UInt8} (n:Nat) (h:wordOk w=true):wordOk (w.take n)=true:=wordOk_front (b:=w.drop n) (by rw [List.take_append_drop]; exact h)
theorem mem_dat {i:Int}:∀{l:List Fr} {f:Fr},f ∈ l→f.kind=0→(i=0∨f.stream=i)→f.body.length≤dat i l
 | g :: l,f,hf,hk,hi=>by
  simp only [dat]
  rcases List.mem_cons.1 hf with rfl | hf
  ·rw [if_pos ⟨hk,hi⟩]; omega
  ·have:=mem_dat hf hk hi; omega
theorem strm_ne {f:Fr} (h:frameOk f=true) (hk:f.kind=0∨f.kind=1∨f.kind=3):strmOk f.stream=true:=by
 unfold frameOk at h
 rcases hk with hk | hk | hk <;> rw [hk] at h <;> simp at h
 ·exact h.1
 ·exact h.1
 ·exact h.1.1
theorem strm_pos {i:Int} (h:strmOk i=true):i≠0:=by
 rcases strmOk_cases h with rfl | rfl | rfl | rfl <;> decide
theorem deliver_data (hR:Sid R) (hS:Sid S) (d:Dir S R (f :: q) p) (d':Dir R S p (f :: q)) (hk:f.kind=0) :
  ∃l w,frameM R f={ R with room:=R.room - f.body.length,wait:=R.wait++w,strs:=l }∧l.map St.id=R.strs.map St.id∧(∀g ∈ w,g.kind=8∧(g.stream=0∨g.stream=f.stream))∧(∀j,stOf { R with strs:=l } j=if j=f.stream then fin R.ans f.last ((stOf R f.stream).more f.body) else stOf R j)∧(stOf R f.stream).got≠[]∧(stOf R f.stream).heard=false ∧
   Sid { R with room:=R.room - f.body.length,wait:=R.wait++w,strs:=l }∧Dir S { R with room:=R.room - f.body.length,wait:=R.wait++w,strs:=l } q p∧Dir { R with room:=R.room - f.body.length,wait:=R.wait++w,strs:=l } S p q:=by
 obtain ⟨x,hx,hrun⟩:=run_cons (d.run f.stream)
 obtain ⟨hh,hg,rfl⟩:=adv_data hk hx
 have hh:(stOf R f.stream).heard=false:=hh
 have hg:(stOf R f.stream).got≠[]:=by simpa [rv] using hg
 have hfo:=d.ok f (by simp)
 have hso:=strm_ne hfo (.inl hk)
 have hi0:=strm_pos hso
 have hhas:=got_has hg
 have hb:(stOf S f.stream).begun=true:=d.begun (by simp) rfl (.inl hk)
 have hsok:=stOk_iff.1 (hS.stok (begun_has hb))
 have hS0:=(flowOk_iff.1 hS.w.flow).1
 have hs0:=(flowOk_iff.1 hsok.2.2.2.2.2.2.2).1
 have h1:(f.body.length:Int)≤R.room:=by
  have:=d.flow
  have h2:=mem_dat (i:=0) (l:=f :: q) (f:=f) (by simp) hk (.inl rfl)
  omega
 have h2:(f.body.length:Int)≤(stOf R f.stream).room:=by
  have:=d.own _ hi0
  have h2:=mem_dat (i:=f.stream) (l:=f :: q) (f:=f) (by simp) hk (.inr rfl)
  omega
 have hw:wordOk ((stOf R f.stream).text++f.body)=true:=by
  obtain ⟨u,hu⟩:=(run_keeps hrun).2.2.1
  have h3:((stOf S f.stream).say.take (stOf S f.stream).sent.toNat)=((stOf R f.stream).text++f.body)++u:=hu
  refine wordOk_front (b:=u) ?_
  rw [←h3]
  exact wordOk_take _ hsok.2.2.2.2.1
 obtain ⟨l,he,hv,hids⟩:=dataM_view hhas hh hg h1 h2 hw
 have hL:=frameM_loc hR.l hR.w hfo
 have hW:=hL.w (frameM_w hR.w hfo)
 have hfe:frameM R f={ R with room:=R.room - f.body.length,wait:=R.wait++(if f.body=[] then [] else [⟨8,false,0,[by8 f.body.length]⟩,⟨8,false,f.stream,[by8 f.body.length]⟩]),strs:=l }:=by
  unfold frameM; rw [if_neg (by rw [hk]; decide),if_pos hk,he]
  congr 1
  split <;> simp
 rw [hfe] at hL hW
 have hw8:∀g ∈ (if f.body=[] then [] else [⟨8,false,0,[by8 f.body.length]⟩,⟨8,false,f.stream,[by8 f.body.length]⟩]:List Fr),g.kind=8∧(g.stream=0∨g.stream=f.stream):=by
  intro g hg
  split at hg
  ·cases hg
  ·simp only [List.mem_cons,List.not_mem_nil,or_false] at hg
   rcases hg with rfl | rfl
   ·exact ⟨rfl,.inl rfl⟩
   ·exact ⟨rfl,.inr rfl⟩
 have hwm:∀j:Int,j≠0→mor j (if f.body=[] then [] else [⟨8,false,0,[by8 f.body.length]⟩,⟨8,false,f.stream,[by8 f.body.length]⟩]:List Fr)=if j=f.stream then f.body.length else 0:=by
  intro j hj
  have h31:f.body.length≤31:=by have:=(flowOk_iff.1 hR.w.flow).2.2.2; omega
  by_cases hne:f.body=[]
  ·rw [if_pos hne,hne]; simp [mor]
  ·rw [if_neg hne]
   have e1:byteAt [by8 f.body.length] 0=f.body.length:=by8_toNat (by omega)
   simp only [mor,e1,true_and]
   rw [if_neg (fun z=>hj z.symm)]
   by_cases q:j=f.stream
   ·rw [if_pos q.symm,if_pos q]; omega
   ·rw [if_neg (fun z=>q z.symm),if_neg q]
 generalize hwd:(if f.body=[] then [] else [⟨8,false,0,[by8 f.body.length]⟩,⟨8,false,f.stream,[by8 f.body.length]⟩]:List Fr)=w at *
 have H:R.ans=true→(stOf R f.stream).head=[]:=fun ha=>by
  cases hq:(stOf R f.stream).head with
  | nil=>rfl
  | cons y ys =>
   have:=((hR.sa ha f.stream).ask (by rw [hq]; simp)).1
   rw [hh] at this; cases this
 have hi1:StI ((stOf R f.stream).more f.body):=⟨(hR.si _).not,(hR.si _).beg,(hR.si _).head⟩
 obtain ⟨s1,s2,s3⟩:=fin_sd (last:=f.last) hi1 H
 obtain ⟨k1,k2,k3,k4,k5,k6⟩:=fin_keeps R.ans f.last ((stOf R f.stream).more f.body)
 have hv':∀j,stOf { R with room:=R.room - f.body.length,wait:=R.wait++w,strs:=l } j=_:=hv
 refine ⟨l,w,hfe,hids,hw8,hv,hg,hh,⟨hW,hL,hR.nb,fun j=>?_,fun ha j hj=>?_,fun ha j=>?_,fun j hj=>?_,fun g hg=>?_⟩,⟨d.m,?_,fun j=>?_,fun j=>?_,?_,fun j hj=>?_,fun g hg=>d.ok g (by simp [hg])⟩,⟨d'.m,?_,fun j=>?_,fun j=>?_,?_,fun j hj=>?_,d'.ok⟩⟩
 ·rw [hv']; split
  ·exact s2
  ·exact hR.si j
 ·have hj':Has R j:=(Has.of_eq (e:=R) (x:={ R with room:=R.room - f.body.length,wait:=R.wait++w,strs:=l }) hids).1 hj
  rw [hv']; split
  ·have hc:=hR.sc ha f.stream hhas
   rw [show R.ans=false from ha]
   exact fin_StC ⟨hc.head,hc.heard,hc.done⟩
  ·exact hR.sc ha j hj'
 ·rw [hv']; split
  ·rw [show R.ans=true from ha]
   exact fin_StA hi1 (hR.state f.stream) (H ha) hh (hR.sa ha f.stream).done
  ·exact hR.sa ha j
 ·have:=hR.more j hj
  show (stOf _ j).room+(mor j (R.wait++w):Nat)=8
  rw [mor_app,hwm j hj,hv']; split
  ·rename_i hji; subst hji; rw [k5]; simp only [St.more]; omega
  ·simpa using this
 ·rcases List.mem_append.1 hg with z | z
  ·exact hR.waits g z
  ·exact .inl (hw8 g z).1
 ·have htab:=d.tab
  simp only [tabOn] at htab
  rw [if_neg (by rw [hk]; decide)] at htab
  exact htab
 ·rw [hv']; split
  ·rename_i hji; subst hji
   have:rv (fin R.ans f.last ((stOf R f.stream).more f.body))=⟨true,(rv (stOf R f.stream)).t++f.body,f.last⟩:=by
    unfold rv
    rw [k1,k2,k3]
    simp [St.more,hh,hg]
   rw [this]; exact hrun
  ·rename_i hji
   obtain ⟨y,hy,hrun'⟩:=run_cons (d.run j)
   rw [adv_other (fun z=>hji z.symm) hy] at hrun'
   exact hrun'
 ·rw [hv']; split
  ·rename_i hji; subst hji; rw [k1]; exact d.got f.stream
  ·exact d.got j
 ·have:=d.flow
  simp only [dat,hk,true_and,true_or,if_true] at this
  show S.send+(dat 0 q:Nat)+(mor 0 p:Nat)=R.room - f.body.length
  omega
 ·have:=d.own j hj
  simp only [dat] at this
  rw [hv']; split
  ·rename_i hji; subst hji
   simp only [hk,true_and,or_true,if_true] at this
   rw [k5]; simp only [St.more]; omega
  ·rename_i hji
   rw [if_neg (by rintro ⟨_,z | z⟩; exact hj z; exact hji z.symm)] at this
   simpa using this
 ·refine tabOn_congr (fun g hg hgk=>?_) d'.tab
  show (stOf R g.stream).head=(stOf _ g.stream).head
  rw [hv']; split
  ·rename_i hji
   rw [hji]
   have hb':=d'.begun (i:=f.stream) (f:=g) (by simp [hg]) hji (.inr (.inl hgk))
   exact (s3 (fun z=>by rw [(hR.si _).head z] at hb'; cases hb')).symm
  ·rfl
 ·have hsd:sd (stOf { R with room:=R.room - f.body.length,wait:=R.wait++w,strs:=l } j)=sd (stOf R j):=by
   rw [hv']; split
   ·rename_i hji; subst hji; rw [s1]; rfl
   ·rfl
  rw [hsd]
  show run j (rv (stOf S j)) (p++(R.wait++w))=_
  rw [←List.append_assoc,run_app,d'.run j]
  exact run_skip (fun g hg=>(hw8 g hg).1)
 ·rw [hv']; split
  ·rename_i hji; subst hji
   rcases d'.got f.stream with z | z
   ·exact .inl z
   ·by_cases h0:(stOf R f.stream).head=[]
    ·rw [h0] at z; exact .inl z
    ·rw [s3 h0]; exact .inr z
  ·exact d'.got j
 ·have:=d'.flow
  simp only [mor] at this
  rw [if_neg (by rw [hk]; simp)] at this
  simpa using this
 ·have:=d'.own j hj
  simp only [mor] at this
  rw [if_neg (by rw [hk]; simp)] at this
  rw [hv']; split
  ·rename_i hji; subst hji; rw [k4]; simpa [St.take,St.more] using this
  ·simpa using this
theorem deliver_more (hR:Sid R) (hS:Sid S) (d:Dir S R (f :: q) p) (d':Dir R S p (f :: q)) (hk:f.kind=8) (hhas:f.stream=0∨Has R f.stream) :
  ∃l s,frameM R f={ R with send:=s,strs:=l }∧l.map St.id=R.strs.map St.id∧(∀j,∃s',stOf { R with strs:=l } j=(stOf R j).withSend s') ∧
   Sid { R with send:=s,strs:=l }∧Dir S { R with send:=s,strs:=l } q p∧Dir { R with send:=s,strs:=l } S p q:=by
 have hfo:=d.ok f (by simp)
 have hL:=frameM_loc hR.l hR.w hfo
 have hW:=hL.w (frameM_w hR.w hfo)
 have hfm:frameM R f=moreM R f:=by unfold frameM; rw [if_neg (by rw [hk]; decide),if_neg (by rw [hk]; decide),if_pos hk]
 have hrunq:∀j,run j (rv (stOf R j)) (q++S.wait)=some (sd (stOf S j)):=fun j=>by
  obtain ⟨y,hy,hrun'⟩:=run_cons (d.run j)
  rw [adv_more hk hy] at hrun'
  exact hrun'
 have htabq:tabOn (fun i=>(stOf S i).head) S.outM R.inn q S.out:=by
  have htab:=d.tab
  simp only [tabOn] at htab
  rw [if_neg (by rw [hk]; decide)] at htab
  exact htab
 have hdat:∀j,dat j (f :: q)=dat j q:=fun j=>by simp only [dat]; rw [if_neg (by rw [hk]; simp),Nat.zero_add]
 have hview:∃l s,moreM R f={ R with send:=s,strs:=l }∧s=R.send+(if f.stream=0 then byteAt f.body 0 else 0:Nat)∧l.map St.id=R.strs.map St.id∧(∀j,j≠0→stOf { R with strs:=l } j=(stOf R j).withSend ((stOf R j).send+(if f.stream=j then byteAt f.body 0 else 0:Nat)))∧(stOf { R with strs:=l } 0=stOf R 0):=by
  have hS0:=(flowOk_iff.1 hS.w.flow)
  by_cases h0:f.stream=0
  ·have h2:R.send+byteAt f.body 0≤31:=by
    have:=d'.flow
    simp only [mor] at this
    rw [if_pos ⟨hk,h0⟩] at this
    omega
   refine ⟨R.strs,_,more0_view h0 h2 hR.nb,by rw [if_pos h0],rfl,fun j hj=>?_,rfl⟩
   rw [if_neg (by rw [h0]; exact fun z=>hj z.symm)]
   show stOf R j=_
   simp [St.withSend]
  ·have hhas:=hhas.resolve_left h0
   have h2:(stOf R f.stream).send+byteAt f.body 0≤31:=by
    have:=d'.own _ h0
    simp only [mor,hk,true_and,if_true] at this
    have h8:=hS.more _ h0
    omega
   obtain ⟨l,he,hv,hids⟩:=moreM_view h0 hhas h2 hR.nb
   refine ⟨l,R.send,he,by rw [if_neg h0]; simp,hids,fun j hj=>?_,?_⟩
   ·rw [hv]; split
    ·rename_i hji; subst hji; rw [if_pos rfl]
    ·rename_i hji; rw [if_neg (fun z=>hji z.symm)]; simp [St.withSend]
   ·rw [hv,if_neg (fun z=>h0 z.symm)]
 obtain ⟨l,s,he,hse,hids,hv,hv0⟩:=hview
 rw [hfm,he] at hL hW
 have hv':∀j,∃s',stOf { R with send:=s,strs:=l } j=(stOf R j).withSend s':=fun j=>by
  by_cases hj:j=0
  ·subst hj; exact ⟨(stOf R 0).send,hv0⟩
  ·exact ⟨_,hv j hj⟩
 refine ⟨l,s,by rw [hfm,he],hids,hv',⟨hW,hL,hR.nb,fun j=>?_,fun ha j hj=>?_,fun ha j=>?_,fun j hj=>?_,hR.waits⟩,⟨d.m,htabq,fun j=>?_,fun j=>?_,?_,fun j hj=>?_,fun g hg=>d.ok g (by simp [hg])⟩,⟨d'.m,?_,fun j=>?_,fun j=>?_,?_,fun j hj=>?_,d'.ok⟩⟩
 ·obtain ⟨s',e⟩:=hv' j
  rw [e]; exact ⟨(hR.si j).not,(hR.si j).beg,(hR.si j).head⟩
 ·obtain ⟨s',e⟩:=hv' j
  have hc:=hR.sc ha j ((Has.of_eq (e:=R) (x:={ R with send:=s,strs:=l }) hids).1 hj)
  rw [e]; exact ⟨hc.head,hc.heard,hc.done⟩
 ·obtain ⟨s',e⟩:=hv' j
  have hc:=hR.sa ha j
  rw [e]; exact ⟨hc.ask,hc.asked,hc.done⟩
 ·obtain ⟨s',e⟩:=hv' j
  rw [e]; exact hR.more j hj
 ·obtain ⟨s',e⟩:=hv' j
  rw [e]; exact hrunq j
 ·obtain ⟨s',e⟩:=hv' j
  rw [e]; exact d.got j
 ·have:=d.flow
  rw [hdat] at this
  exact this
 ·have:=d.own j hj
  rw [hdat] at this
  obtain ⟨s',e⟩:=hv' j
  rw [e]; exact this
 ·refine tabOn_congr (fun g hg hgk=>?_) d'.tab
  obtain ⟨s',e⟩:=hv' g.stream
  show (stOf R g.stream).head=(stOf _ g.stream).head
  rw [e]; rfl
 ·obtain ⟨s',e⟩:=hv' j
  rw [e]; exact d'.run j
 ·obtain ⟨s',e⟩:=hv' j
  rw [e]; exact d'.got j
 ·have:=d'.flow
  simp only [mor,hk,true_and] at this
  show s+(dat 0 p:Nat)+(mor 0 q:Nat)=S.room
  rw [hse]
  by_cases h0:f.stream=0
  ·simp only [h0,if_true] at this ⊢; omega
  ·simp only [h0,if_false] at this ⊢; omega
 ·have:=d'.own j hj
  simp only [mor,hk,true_and] at this
  have e:stOf { R with send:=s,strs:=l } j=_:=hv j hj
  rw [e]
  show (stOf R j).send+((if f.stream=j then byteAt f.body 0 else 0:Nat):Int)+_+_=_
  split at this <;> rename_i hq <;> simp only [hq,if_true,if_false] <;> omega
theorem deliver_reset (hR:Sid R) (hS:Sid S) (d:Dir S R (f :: q) p) (d':Dir R S p (f :: q)) (hk:f.kind=3) (ha:R.ans=true) :
  ∃l,frameM R f={ R with strs:=l }∧l.map St.id=R.strs.map St.id∧(∀j,∃s',stOf { R with strs:=l } j=(stOf R j).withState s'∧(s'=(stOf R j).state∨(s'=3∧j=f.stream))) ∧
   Sid { R with strs:=l }∧Dir S { R with strs:=l } q p∧Dir { R with strs:=l } S p q:=by
 have hfo:=d.ok f (by simp)
 obtain ⟨x,hx,hrun⟩:=run_cons (d.run f.stream)
 obtain ⟨hg,rfl⟩:=adv_reset hk hx
 have hg:(stOf R f.stream).got≠[]:=by simpa [rv] using hg
 have hhas:=got_has hg
 obtain ⟨l,he,hv,hids⟩:=resetM_view hk hhas ha
 have hL:=frameM_loc hR.l hR.w hfo
 have hW:=hL.w (frameM_w hR.w hfo)
 rw [he] at hL hW
 have hv':∀j,∃s',stOf { R with strs:=l } j=(stOf R j).withState s'∧(s'=(stOf R j).state∨(s'=3∧j=f.stream)):=fun j=>by
  rw [hv]; split
  ·rename_i hji; subst hji; exact ⟨3,rfl,.inr ⟨rfl,rfl⟩⟩
  ·exact ⟨(stOf R j).state,rfl,.inl rfl⟩
 have hrunq:∀j,run j (rv (stOf R j)) (q++S.wait)=some (sd (stOf S j)):=fun j=>by
  by_cases hji:j=f.stream
  ·subst hji; exact hrun
  ·obtain ⟨y,hy,hrun'⟩:=run_cons (d.run j)
   rw [adv_other (fun z=>hji z.symm) hy] at hrun'
   exact hrun'
 refine ⟨l,he,hids,hv',⟨hW,hL,hR.nb,fun j=>?_,fun ha' j hj=>?_,fun ha j=>?_,fun j hj=>?_,hR.waits⟩,⟨d.m,?_,fun j=>?_,fun j=>?_,?_,fun j hj=>?_,fun g hg=>d.ok g (by simp [hg])⟩,⟨d'.m,?_,fun j=>?_,fun j=>?_,?_,fun j hj=>?_,d'.ok⟩⟩
 ·obtain ⟨s',e,_⟩:=hv' j
  rw [e]; exact ⟨(hR.si j).not,(hR.si j).beg,(hR.si j).head⟩
 ·rw [show R.ans=false from ha'] at ha; cases ha
 ·obtain ⟨s',e,hs⟩:=hv' j
  have hc:=hR.sa ha j
  rw [e]
  refine ⟨hc.ask,fun h1 h3=>?_,fun h2=>?_⟩
  ·rcases hs with rfl | ⟨rfl,_⟩
   ·exact hc.asked h1 h3
   ·exact absurd rfl h3
  ·rcases hs with rfl | ⟨rfl,_⟩
   ·exact hc.done h2
   ·exact absurd (show (3:Int)=2 from h2) (by decide)
 ·obtain ⟨s',e,_⟩:=hv' j
  rw [e]; exact hR.more j hj
 ·have htab:=d.tab
  simp only [tabOn] at htab
  rw [if_neg (by rw [hk]; decide)] at htab
  exact htab
 ·obtain ⟨s',e,_⟩:=hv' j
  rw [e]; exact hrunq j
 ·obtain ⟨s',e,_⟩:=hv' j
  rw [e]; exact d.got j
 ·have:=d.flow
  simp only [dat] at this
  rw [if_neg (by rw [hk]; simp)] at this
  simpa using this
 ·have:=d.own j hj
  simp only [dat] at this
  rw [if_neg (by rw [hk]; simp)] at this
  obtain ⟨s',e,_⟩:=hv' j
  rw [e]; simpa [St.withState] using this
 ·refine tabOn_congr (fun g hg hgk=>?_) d'.tab
  obtain ⟨s',e,_⟩:=hv' g.stream
  show (stOf R g.stream).head=(stOf _ g.stream).head
  rw [e]; rfl
 ·obtain ⟨s',e,_⟩:=hv' j
  rw [e]; exact d'.run j
 ·obtain ⟨s',e,_⟩:=hv' j
  rw [e]; exact d'.got j
 ·have:=d'.flow
  simp only [mor] at this
  rw [if_neg (by rw [hk]; simp)] at this
  simpa using this
 ·have:=d'.own j hj
  simp only [mor] at this
  rw [if_neg (by rw [hk]; simp)] at this
  obtain ⟨s',e,_⟩:=hv' j
  rw [e]; simpa [St.withState] using this
end
end
end Go.Proofs.YtaamlddnpamomaaGreatDoor
