/- A part of the proof: contracts of functions, or plain facts on which these lean. -/
import Derived.Test.YtaamlddnpamomaaGreatDoorMe27
import Derived.Test.YtaamlddnpamomaaGreatDoorMe28
import Derived.Test.YtaamlddnpamomaaGreatDoorMe33
import Derived.Test.YtaamlddnpamomaaGreatDoorMe35
import Derived.Test.YtaamlddnpamomaaGreatDoorMe39
namespace Go.Proofs.YtaamlddnpamomaaGreatDoor
open Go
set_option linter.unusedVariables false
set_option linter.unusedSimpArgs false
set_option maxRecDepth 100000
set_option maxHeartbeats 16000000

section
def sayF (e:En) (k:Nat):List Fr:=if (stAt e k).state≠1∨(stAt e k).head=[]∨(stAt e k).said=true then [] else (beg1 e k).2++(pie1 (beg1 e k).1 k).2
def saysF:Nat→Nat→En→List Fr
 | 0,_,_=>[]
 | n+1,k,e=>sayF e k++saysF n (k+1) (sayM e k).1
def newF (e:En):List Fr:=saysF e.strs.length 0 { (waitM e e.wait).1 with wait:=[] }
theorem sayM_bytes {e:En} {k:Nat} (hk:k < e.strs.length):(sayM e k).2=bytes (sayF e k):=by
 unfold sayF
 by_cases hm:(stAt e k).state≠1∨(stAt e k).head=[]∨(stAt e k).said=true
 ·have q:sayM e k=(e,[]):=by unfold sayM; simp only; rw [if_pos hm]
  rw [q,if_pos hm]; rfl
 ·rw [sayM_steps hk hm,if_neg hm,bytes_app]
theorem saysM_bytes {N:Nat}:∀(n k:Nat) (e:En),EnW N e→k+n≤e.strs.length→(saysM n k e).2=bytes (saysF n k e)
 | 0,k,e,_,_=>rfl
 | n+1,k,e,hw,hk=>by
  obtain ⟨r1,r2⟩:=sayM_w hw (k:=k) (by omega)
  have:=saysM_bytes n (k+1) (sayM e k).1 r1 (by omega)
  show (sayM e k).2++(saysM n (k+1) (sayM e k).1).2=bytes (sayF e k++saysF n (k+1) (sayM e k).1)
  rw [bytes_app,sayM_bytes (by omega),this]
theorem waitM_bytes:∀(l:List Fr) (e:En),(waitM e l).2=bytes l
 | [],e=>rfl
 | f :: l,e=>by
  show frW f++(waitM (roomM e f) l).2=_
  rw [waitM_bytes l,bytes_cons]
theorem writeM_bytes {N:Nat} {e:En} (h:EnW N e):(writeM e).2=bytes (e.wait++newF e):=by
 obtain ⟨w1,w2,w3⟩:=waitM_w e.wait e h
 have:=saysM_bytes e.strs.length 0 { (waitM e e.wait).1 with wait:=[] } w1.noWait (by simp [w2])
 show (waitM e e.wait).2++(saysM e.strs.length 0 { (waitM e e.wait).1 with wait:=[] }).2=_
 rw [waitM_bytes,this,bytes_app]; rfl
structure SayS (e:En) (k:Nat) (x:En) (fs:List Fr):Prop where
 wait:x.wait=e.wait
 len:x.strs.length=e.strs.length
 other:∀j,j≠k→stAt x j=stAt e j
 id:(stAt x k).id=(stAt e k).id
 say:(stAt x k).say=(stAt e k).say
 head:(stAt x k).head=(stAt e k).head
 got:(stAt x k).got=(stAt e k).got∧(stAt x k).text=(stAt e k).text∧(stAt x k).room=(stAt e k).room
 ok:∀f ∈ fs,frameOk f=true
 stream:∀f ∈ fs,f.stream=(stAt e k).id
 kinds:∀f ∈ fs,f.kind=0∨f.kind=1
 data:∀f ∈ fs,f.kind=0→f.body=((stAt e k).say.drop (stAt e k).sent.toNat).take f.body.length∧(stAt x k).sent=(stAt e k).sent+f.body.length∧f.last=decide ((stAt e k).sent+f.body.length=(stAt e k).say.length)∧0 < f.body.length
 sent:(stAt x k).sent=(stAt e k).sent+(dat 0 fs:Nat)
 send:(stAt x k).send=(stAt e k).send - (dat 0 fs:Nat)
 all:x.send=e.send - (dat 0 fs:Nat)
 low:0≤(stAt x k).send∧0≤x.send∧(stAt x k).sent≤(stAt x k).say.length
 gone:(stAt e k).state≠1→fs=[]
theorem sayM_s {N:Nat} {e:En} {k:Nat} (hW:EnW N e) (hk:k < e.strs.length) (hh:(stAt e k).head.length≤3):SayS e k (sayM e k).1 (sayF e k):=by
 obtain ⟨w1,w2,w3,w4⟩:=sayM_keeps e k
 have hs:=stOk_iff.1 (hW.st hk)
 obtain ⟨a1,a2,a3,a4,a5,a6,a7,a8⟩:=hs
 have hg:=flowOk_iff.1 a8
 have hf:=flowOk_iff.1 hW.flow
 have h16:=(wordOk_iff.1 a5).2
 by_cases hm:(stAt e k).state≠1∨(stAt e k).head=[]∨(stAt e k).said=true
 ·have q:sayM e k=(e,[]):=by unfold sayM; simp only; rw [if_pos hm]
  have q2:sayF e k=[]:=by unfold sayF; rw [if_pos hm]
  rw [q,q2]
  exact ⟨rfl,rfl,fun _ _=>rfl,rfl,rfl,rfl,⟨rfl,rfl,rfl⟩,by simp,by simp,by simp,by simp,by simp [dat],by simp [dat],by simp [dat],⟨hg.1,hf.1,a7.2⟩,fun _=>rfl⟩
 ·have hst:(stAt e k).state=1:=by simpa using fun q=>hm (.inl q)
  have q2:sayF e k=(beg1 e k).2++(pie1 (beg1 e k).1 k).2:=by unfold sayF; rw [if_neg hm]
  have hl:=headW_len (stAt e k).head e.out e.outM (headOk_iff.1 a3).1 (by have:=(tableOk_parts hW.out).1; omega)
  have hb:∃x fs,(beg1 e k).1=x∧(beg1 e k).2=fs∧k < x.strs.length∧x.send=e.send∧(stAt x k).say=(stAt e k).say∧(stAt x k).sent=(stAt e k).sent∧(stAt x k).send=(stAt e k).send∧(stAt x k).id=(stAt e k).id∧(stAt x k).head=(stAt e k).head∧((stAt x k).got=(stAt e k).got∧(stAt x k).text=(stAt e k).text∧(stAt x k).room=(stAt e k).room)∧(∀f ∈ fs,f.kind=1∧f.stream=(stAt e k).id∧frameOk f=true):=by
   unfold beg1
   by_cases hbg:(stAt e k).begun=true
   ·rw [if_pos hbg]; exact ⟨e,[],rfl,rfl,hk,rfl,rfl,rfl,rfl,rfl,rfl,⟨rfl,rfl,rfl⟩,by simp⟩
   ·rw [if_neg hbg]
    have hx:k < ({ e with out:=(headW e.out e.outM (stAt e k).head).1 }:En).strs.length:=hk
    refine ⟨_,_,rfl,rfl,by simpa [setSt] using hk,rfl,?_,?_,?_,?_,?_,?_,?_⟩
    all_goals try simp only [stAt_set hx]
    ·rfl
    ·rfl
    ·rfl
    ·rfl
    ·rfl
    ·exact ⟨rfl,rfl,rfl⟩
    ·intro f hf
     rw [List.mem_singleton.1 hf]
     refine ⟨rfl,rfl,?_⟩
     simp [frameOk,a1]; omega
  obtain ⟨x,fs,hx,hfs,hkx,x1,x2,x3,x4,x5,x6,x7,x8⟩:=hb
  have hp:∃y gs n,(pie1 x k).1=y∧(pie1 x k).2=gs∧k < y.strs.length∧0≤n∧n≤((stAt e k).say.length:Int) - (stAt e k).sent∧n≤(stAt e k).send∧n≤e.send∧y.send=e.send - n∧(stAt y k).say=(stAt e k).say∧(stAt y k).sent=(stAt e k).sent+n∧(stAt y k).send=(stAt e k).send - n∧(stAt y k).id=(stAt e k).id∧(stAt y k).head=(stAt e k).head∧((stAt y k).got=(stAt e k).got∧(stAt y k).text=(stAt e k).text∧(stAt y k).room=(stAt e k).room) ∧
    ((gs=[]∧n=0)∨(0 < n∧gs=[⟨0,decide ((stAt e k).sent+n=(stAt e k).say.length),(stAt e k).id,((stAt e k).say.drop (stAt e k).sent.toNat).take n.toNat⟩])):=by
   unfold pie1
   by_cases hc:(stAt x k).said=false∧0 < mayM x (stAt x k)
   ·rw [if_pos hc]
    obtain ⟨m1,m2,m3⟩:=mayM_le x (stAt x k)
    have hkx':k < ({ x with send:=x.send - mayM x (stAt x k) }:En).strs.length:=hkx
    refine ⟨_,_,mayM x (stAt x k),rfl,rfl,by simpa [setSt] using hkx,by omega,by rw [x2,x3] at m1; exact m1,by rw [x4] at m2; exact m2,by rw [x1] at m3; exact m3,by show x.send - _=_; rw [x1],?_,?_,?_,?_,?_,?_,.inr ⟨hc.2,by rw [x2,x3,x5]⟩⟩
    all_goals simp only [stAt_set hkx']
    ·exact x2
    ·show (stAt x k).sent+_=_; rw [x3]
    ·show (stAt x k).send - _=_; rw [x4]
    ·exact x5
    ·exact x6
    ·exact x7
   ·rw [if_neg hc]
    exact ⟨x,[],0,rfl,rfl,hkx,Int.le_refl _,by omega,by omega,by omega,by rw [x1]; omega,x2,by rw [x3]; omega,by rw [x4]; omega,x5,x6,x7,.inl ⟨rfl,rfl⟩⟩
  obtain ⟨y,gs,n,hy,hgs,hky,n0,n1,n2,n3,y1,y2,y3,y4,y5,y6,y7,y8⟩:=hp
  have hd:∀z:En,k < z.strs.length→(don1 z k).send=z.send∧(stAt (don1 z k) k).say=(stAt z k).say∧(stAt (don1 z k) k).sent=(stAt z k).sent∧(stAt (don1 z k) k).send=(stAt z k).send∧(stAt (don1 z k) k).id=(stAt z k).id∧(stAt (don1 z k) k).head=(stAt z k).head∧((stAt (don1 z k) k).got=(stAt z k).got∧(stAt (don1 z k) k).text=(stAt z k).text∧(stAt (don1 z k) k).room=(stAt z k).room):=fun z hz=>by
   unfold don1
   split
   ·rw [stAt_set hz]; exact ⟨rfl,rfl,rfl,rfl,rfl,rfl,rfl,rfl,rfl⟩
   ·exact ⟨rfl,rfl,rfl,rfl,rfl,rfl,rfl,rfl,rfl⟩
  have e1:(sayM e k).1=don1 y k:=by rw [sayM_steps hk hm,hx,hy]
  have e2:sayF e k=fs++gs:=by rw [q2,hfs,hx,hgs]
  obtain ⟨d1,d2,d3,d4,d5,d6,d7,d8,d9⟩:=hd y hky
  have hdf:dat 0 fs=0:=dat_none (fun f hf=>by rw [(x8 f hf).1]; decide)
  have hbl:(((stAt e k).say.drop (stAt e k).sent.toNat).take n.toNat).length=n.toNat:=by simp; omega
  have hdn:((dat 0 (fs++gs):Nat):Int)=n:=by
   rw [dat_app,hdf]
   rcases y8 with ⟨z1,z2⟩ | ⟨z1,z2⟩
   ·rw [z1,z2]; rfl
   ·rw [z2]; simp only [dat,true_and,true_or,if_true,hbl]; omega
  have hmem:∀f ∈ gs,0 < n∧f=⟨0,decide ((stAt e k).sent+n=(stAt e k).say.length),(stAt e k).id,((stAt e k).say.drop (stAt e k).sent.toNat).take n.toNat⟩:=fun f hf=>by
   rcases y8 with ⟨z1,z2⟩ | ⟨z1,z2⟩
   ·rw [z1] at hf; cases hf
   ·rw [z2] at hf; exact ⟨z1,List.mem_singleton.1 hf⟩
  refine ⟨w1,w3,w4,?_,?_,?_,?_,fun f hf=>?_,fun f hf=>?_,fun f hf=>?_,fun f hf hk0=>?_,?_,?_,?_,?_,fun z=>absurd hst z⟩
  ·rw [e1,d5,y5]
  ·rw [e1,d2,y2]
  ·rw [e1,d6,y6]
  ·rw [e1,d7,d8,d9]; exact y7
  ·rw [e2] at hf
   rcases List.mem_append.1 hf with z | z
   ·exact (x8 f z).2.2
   ·obtain ⟨z1,z2⟩:=hmem f z
    rw [z2]
    simp only [frameOk,true_or,if_true,a1,hbl,Bool.true_and,decide_eq_true_eq]
    omega
  ·rw [e2] at hf
   rcases List.mem_append.1 hf with z | z
   ·exact (x8 f z).2.1
   ·rw [(hmem f z).2]
  ·rw [e2] at hf
   rcases List.mem_append.1 hf with z | z
   ·exact .inr (x8 f z).1
   ·rw [(hmem f z).2]; exact .inl rfl
  ·rw [e2] at hf
   rcases List.mem_append.1 hf with z | z
   ·rw [(x8 f z).1] at hk0; cases hk0
   ·obtain ⟨z1,z2⟩:=hmem f z
    have hbl':(f.body.length:Int)=n:=by rw [z2]; simp only [hbl]; omega
    refine ⟨?_,by rw [e1,d3,y3,hbl'],?_,by omega⟩
    ·have:f.body.length=n.toNat:=by omega
     rw [this,z2]
    ·rw [hbl',z2]
  ·rw [e1,e2,hdn,d3,y3]
  ·rw [e1,e2,hdn,d4,y4]
  ·rw [e1,e2,hdn,d1,y1]
  ·rw [e1,d4,d1,d3,d2,y4,y1,y3,y2]
   omega
theorem dat_one {id:Int} (h0:id≠0):∀{l:List Fr},(∀f ∈ l,f.stream=id)→dat id l=dat 0 l
 | [],_=>rfl
 | f :: l,h=>by
  have h1:=h f (by simp)
  have h2:=dat_one h0 (l:=l) (fun g hg=>h g (by simp [hg]))
  simp only [dat,h1,or_true,true_or,h2]
theorem dat_off {id:Int} (h0:id≠0):∀{l:List Fr},(∀f ∈ l,f.stream≠id)→dat id l=0
 | [],_=>rfl
 | f :: l,h=>by
  have h1:=h f (by simp)
  simp only [dat]
  rw [if_neg (by rintro ⟨_,z | z⟩; exact h0 z; exact h1 z),dat_off h0 (fun g hg=>h g (by simp [hg]))]
structure SaysS (e:En) (k n:Nat) (x:En) (fs:List Fr):Prop where
 wait:x.wait=e.wait
 len:x.strs.length=e.strs.length
 out:∀i,i < k∨k+n≤i→stAt x i=stAt e i
 id:∀i,(stAt x i).id=(stAt e i).id
 say:∀i,(stAt x i).say=(stAt e i).say
 ok:∀f ∈ fs,frameOk f=true∧(f.kind=0∨f.kind=1)
 of:∀f ∈ fs,∃i,k≤i∧i < k+n∧f.stream=(stAt e i).id∧(stAt e i).state=1
 data:∀f ∈ fs,f.kind=0→∀i,i < e.strs.length→f.stream=(stAt e i).id→f.body=((stAt e i).say.drop (stAt e i).sent.toNat).take f.body.length∧(stAt x i).sent=(stAt e i).sent+f.body.length∧f.last=decide ((stAt e i).sent+f.body.length=(stAt e i).say.length)∧(stAt e i).sent+f.body.length≤(stAt e i).say.length
 own:∀i,i < e.strs.length→(stAt x i).sent=(stAt e i).sent+(dat (stAt e i).id fs:Nat)∧(stAt x i).send=(stAt e i).send - (dat (stAt e i).id fs:Nat)∧0≤(stAt x i).send
 all:x.send=e.send - (dat 0 fs:Nat)
 low:0≤x.send
theorem EnW.inj {N:Nat} {e:En} (h:EnW N e) {i j:Nat} (hi:i < e.strs.length) (hj:j < e.strs.length) (hij:(stAt e i).id=(stAt e j).id):i=j:=by
 rcases Nat.lt_trichotomy i j with z | z | z
 ·have:=h.ids z hj; omega
 ·exact z
 ·have:=h.ids z hi; omega
theorem saysM_s {N:Nat}:∀(n k:Nat) (e:En),EnW N e→k+n≤e.strs.length→(∀i,i < e.strs.length→(stAt e i).head.length≤3)→SaysS e k n (saysM n k e).1 (saysF n k e)
 | 0,k,e,hW,_,_=>⟨rfl,rfl,fun _ _=>rfl,fun _=>rfl,fun _=>rfl,by simp [saysF],by simp [saysF],by simp [saysF],fun i hi=>⟨by simp [saysF,saysM,dat],by simp [saysF,saysM,dat],(flowOk_iff.1 (stOk_iff.1 (hW.st hi)).2.2.2.2.2.2.2).1⟩,by simp [saysF,saysM,dat],(flowOk_iff.1 hW.flow).1⟩
 | n+1,k,e,hW,hk,hh=>by
  have hkl:k < e.strs.length:=by omega
  obtain ⟨r1,r2⟩:=sayM_w hW hkl
  have s:=sayM_s hW hkl (hh k hkl)
  have hid:∀i,(stAt (sayM e k).1 i).id=(stAt e i).id:=fun i=>by
   by_cases q:i=k
   ·rw [q]; exact s.id
   ·rw [s.other i q]
  have hst:∀i,i≠k→stAt (sayM e k).1 i=stAt e i:=s.other
  have t:=saysM_s n (k+1) (sayM e k).1 r1 (by omega) (fun i hi=>by
   by_cases q:i=k
   ·rw [q,s.head]; exact hh k hkl
   ·rw [s.other i q]; exact hh i (by omega))
  have hx:(saysM (n+1) k e).1=(saysM n (k+1) (sayM e k).1).1:=rfl
  have hf:saysF (n+1) k e=sayF e k++saysF n (k+1) (sayM e k).1:=rfl
  rw [hx,hf]
  generalize (saysM n (k+1) (sayM e k).1).1=x at *
  generalize saysF n (k+1) (sayM e k).1=gs at *
  generalize (sayM e k).1=e1 at *
  generalize sayF e k=fs at *
  have hid0:∀i,i < e.strs.length→(stAt e i).id≠0:=fun i hi=>strm_pos (stOk_iff.1 (hW.st hi)).1
  have hgs:∀i,i < e.strs.length→i < k+1→dat (stAt e i).id gs=0:=fun i hi hik=>dat_off (hid0 i hi) (fun f hfm q=>by
   obtain ⟨j,j1,j2,j3,_⟩:=t.of f hfm
   rw [hid] at j3
   have:=hW.inj hi (by omega) (q.symm.trans j3)
   omega)
  have hfs:∀i,i < e.strs.length→i≠k→dat (stAt e i).id fs=0:=fun i hi hik=>dat_off (hid0 i hi) (fun f hfm q=>by
   rw [s.stream f hfm] at q
   exact hik (hW.inj hi hkl q.symm))
  have hfk:dat (stAt e k).id fs=dat 0 fs:=dat_one (hid0 k hkl) s.stream
  refine ⟨t.wait.trans s.wait,t.len.trans s.len,fun i hi=>?_,fun i=>(t.id i).trans (hid i),fun i=>?_,fun f hfm=>?_,fun f hfm=>?_,fun f hfm hk0 i hi hfi=>?_,fun i hi=>?_,?_,t.low⟩
  ·rw [t.out i (by omega),s.other i (by omega)]
  ·rw [t.say]
   by_cases q:i=k
   ·rw [q,s.say]
   ·rw [s.other i q]
  ·rcases List.mem_append.1 hfm with z | z
   ·exact ⟨s.ok f z,s.kinds f z⟩
   ·exact t.ok f z
  ·rcases List.mem_append.1 hfm with z | z
   ·refine ⟨k,Nat.le_refl _,by omega,s.stream f z,?_⟩
    by_cases q:(stAt e k).state=1
    ·exact q
    ·rw [s.gone q] at z; cases z
   ·obtain ⟨j,j1,j2,j3,j4⟩:=t.of f z
    rw [hst j (by omega)] at j3 j4
    exact ⟨j,by omega,by omega,j3,j4⟩
  ·rcases List.mem_append.1 hfm with z | z
   ·have:i=k:=hW.inj hi hkl (hfi.symm.trans (s.stream f z))
    subst this
    obtain ⟨d1,d2,d3,d4⟩:=s.data f z hk0
    refine ⟨d1,?_,d3,?_⟩
    ·rw [t.out i (by omega)]; exact d2
    ·have:=s.low.2.2; rw [d2,s.say] at this; exact this
   ·obtain ⟨j,j1,j2,j3,j4⟩:=t.of f z
    have hji:i=j:=hW.inj hi (by omega) (hfi.symm.trans (j3.trans (hid j)))
    have:=t.data f z hk0 i (by rw [s.len]; exact hi) (by rw [hid]; exact hfi)
    rw [hst i (by omega)] at this
    exact this
  ·have ti:=t.own i (by rw [s.len]; exact hi)
   rw [hid] at ti
   by_cases q:i=k
   ·subst q
    rw [dat_app,hfk,hgs i hi (by omega)]
    rw [hgs i hi (by omega)] at ti
    have e1':=s.sent; have e2':=s.send
    refine ⟨by rw [ti.1,e1']; omega,by rw [ti.2.1,e2']; omega,ti.2.2⟩
   ·rw [dat_app,hfs i hi q]
    rw [hst i q] at ti
    exact ⟨by rw [ti.1]; omega,by rw [ti.2.1]; omega,ti.2.2⟩
  ·rw [dat_app,t.all,s.all]; omega
structure WrS (e x:En) (fs:List Fr):Prop where
 bytes:(writeM e).2=bytes (e.wait++fs)
 wait:x.wait=[]
 len:x.strs.length=e.strs.length
 ok:∀f ∈ fs,frameOk f=true∧(f.kind=0∨f.kind=1)
 of:∀f ∈ fs,∃i,i < e.strs.length∧f.stream=(stAt e i).id∧(stAt e i).state=1
 data:∀f ∈ fs,f.kind=0→∀i,i < e.strs.length→f.stream=(stAt e i).id→f.body=((stAt e i).say.drop (stAt e i).sent.toNat).take f.body.length∧(stAt x i).sent=(stAt e i).sent+f.body.length∧f.last=decide ((stAt e i).sent+f.body.length=(stAt e i).say.length)∧(stAt e i).sent+f.body.length≤(stAt e i).say.length
 own:∀i,i < e.strs.length→((dat (stAt e i).id fs:Nat):Int)≤(stAt e i).send
 all:x.send=e.send - (dat 0 fs:Nat)
 low:0≤x.send
theorem roomM_at (e:En) (f:Fr) (i:Nat):∃r,stAt (roomM e f) i=(stAt e i).withRoom r:=by
 unfold roomM
 split
 ·exact ⟨(stAt e i).room,rfl⟩
 ·split
  ·exact ⟨(stAt e i).room,rfl⟩
  ·split
   ·exact ⟨(stAt e i).room,rfl⟩
   ·rename_i k hk
    by_cases q:i=k
    ·subst q; rw [stAt_set (atM_some hk).1]; exact ⟨_,rfl⟩
    ·refine ⟨(stAt e i).room,?_⟩
     show (e.strs.set k _).getD i st0=_
     rw [getD_set st0 _ (atM_some hk).1,if_neg q]; rfl
theorem roomM_send (e:En) (f:Fr):(roomM e f).send=e.send:=by
 unfold roomM; split
 ·rfl
 ·split
  ·rfl
  ·split <;> rfl
theorem waitM_at:∀(l:List Fr) (e:En) (i:Nat),∃r,stAt (waitM e l).1 i=(stAt e i).withRoom r
 | [],e,i=>⟨(stAt e i).room,rfl⟩
 | f :: l,e,i=>by
  obtain ⟨r,h⟩:=roomM_at e f i
  obtain ⟨r',h'⟩:=waitM_at l (roomM e f) i
  exact ⟨r',by rw [show (waitM e (f :: l)).1=(waitM (roomM e f) l).1 from rfl,h',h]; rfl⟩
theorem waitM_send:∀(l:List Fr) (e:En),(waitM e l).1.send=e.send
 | [],e=>rfl
 | f :: l,e=>(waitM_send l _).trans (roomM_send e f)
theorem writeM_s {N:Nat} {e:En} (h:EnW N e) (hh:∀i,i < e.strs.length→(stAt e i).head.length≤3):WrS e (writeM e).1 (newF e):=by
 obtain ⟨w1,w2,w3⟩:=waitM_w e.wait e h
 have hat:∀i,∃r,stAt { (waitM e e.wait).1 with wait:=[] } i=(stAt e i).withRoom r:=fun i=>waitM_at e.wait e i
 have hs:=saysM_s e.strs.length 0 { (waitM e e.wait).1 with wait:=[] } w1.noWait (by simp [w2]) (fun i hi=>by
  obtain ⟨r,q⟩:=hat i
  rw [q]; exact hh i (by simpa [w2] using hi))
 have hsend:({ (waitM e e.wait).1 with wait:=[] }:En).send=e.send:=waitM_send e.wait e
 have hlen:({ (waitM e e.wait).1 with wait:=[] }:En).strs.length=e.strs.length:=w2
 have hx:(writeM e).1=(saysM e.strs.length 0 { (waitM e e.wait).1 with wait:=[] }).1:=rfl
 have hn:newF e=saysF e.strs.length 0 { (waitM e e.wait).1 with wait:=[] }:=rfl
 have hb:=writeM_bytes h
 rw [hx]
 rw [hn] at hb ⊢
 refine ⟨hb,hs.wait,hs.len.trans hlen,hs.ok,fun f hf=>?_,fun f hf hk i hi hfi=>?_,fun i hi=>?_,by rw [hs.all,hsend],hs.low⟩
 ·obtain ⟨i,i1,i2,i3,i4⟩:=hs.of f hf
  obtain ⟨r,q⟩:=hat i
  rw [q] at i3 i4
  exact ⟨i,by omega,i3,i4⟩
 ·obtain ⟨r,q⟩:=hat i
  have:=hs.data f hf hk i (by omega) (by rw [q]; exact hfi)
  rw [q] at this
  exact this
 ·obtain ⟨r,q⟩:=hat i
  have:=hs.own i (by omega)
  rw [q] at this
  have h1:(stAt (saysM e.strs.length 0 { (waitM e e.wait).1 with wait:=[] }).1 i).send=(stAt e i).send - _:=this.2.1
  have h2:=this.2.2
  rw [h1] at h2
  have h3:0≤(stAt e i).send - ((dat (stAt e i).id (saysF e.strs.length 0 { (waitM e e.wait).1 with wait:=[] }):Nat):Int):=h2
  omega
end
section
theorem byteAt_app {b q:List UInt8} {i:Nat} (h:i < b.length):byteAt (b++q) i=byteAt b i:=by
 unfold byteAt
 rw [List.getD_eq_getElem?_getD,List.getD_eq_getElem?_getD,List.getElem?_append_left h]
theorem frR_app {b q:List UInt8} (h:(frR b).2.2≠0):frR (b++q)=frR b:=by
 unfold frR at h ⊢
 by_cases h4:b.length < 4
 ·rw [if_pos h4] at h; exact absurd rfl h
 ·rw [if_neg h4] at h
  have h4':¬(b++q).length < 4:=by rw [List.length_append]; omega
  rw [if_neg h4,if_neg h4',byteAt_app (by omega),byteAt_app (by omega),byteAt_app (by omega),byteAt_app (by omega)]
  by_cases h2:byteAt b 0 > 200∨byteAt b 2 > 1
  ·rw [if_pos h2,if_pos h2]
  ·rw [if_neg h2] at h
   rw [if_neg h2,if_neg h2]
   by_cases h3:b.length < 4+byteAt b 0
   ·rw [if_pos h3] at h; exact absurd rfl h
   ·rw [if_neg h3,if_neg (show ¬(b++q).length < 4+byteAt b 0 by rw [List.length_append]; omega)]
    have:((b++q).drop 4).take (byteAt b 0)=(b.drop 4).take (byteAt b 0):=by
     rw [List.drop_append_of_le_length (by omega),List.take_append_of_le_length (by rw [List.length_drop]; omega)]
    rw [this]
theorem frameM_with (e:En) (f:Fr) (x:List UInt8):frameM { e with came:=x } f={ frameM e f with came:=x }:=by
 have hg:growM { e with came:=x } f.stream={ growM e f.stream with came:=x }:=by unfold growM; simp only; split <;> rfl
 unfold frameM
 split
 ·unfold headFM
  rw [hg]
  simp only
  split
  ·rename_i t hd k hr hk
   have e1:stAt { growM e f.stream with came:=x } k=stAt (growM e f.stream) k:=rfl
   rw [e1]
   split
   ·rfl
   ·rfl
  ·rfl
 ·split
  ·unfold dataM
   simp only
   split
   ·rfl
   ·rename_i k hk
    have e1:stAt { e with came:=x } k=stAt e k:=rfl
    simp only [e1]
    split <;> rfl
  ·split
   ·unfold moreM
    simp only
    split
    ·rfl
    ·split <;> rfl
   ·simp only
    split
    ·rfl
    ·rename_i k hk
     split <;> rfl
theorem hearsM_even:∀(n m:Nat) (e:En),e.came.length < n→e.came.length < m→(∀e f,(frameM e f).came=e.came)→hearsM n e=hearsM m e
 | 0,m,e,h1,h2,hf=>by omega
 | n+1,0,e,h1,h2,hf=>by omega
 | n+1,m+1,e,h1,h2,hf=>by
  rw [hearsM,hearsM]
  split
  ·rfl
  ·simp only
   split
   ·rfl
   ·split
    ·rfl
    ·rename_i g1 g2
     obtain ⟨r1,r2,r3,r4⟩:=frR_some (b:=e.came) (by omega)
     have hl:(frameM { e with came:=e.came.drop (frR e.came).2.1 } (frR e.came).1).came.length=e.came.length - (frR e.came).2.1:=by rw [hf]; simp
     exact hearsM_even n m _ (by omega) (by omega) hf
theorem hearsM_app:∀(n:Nat) (e:En) (q:List UInt8),e.came.length < n→∀m,(e.came++q).length < m →
  ((hearsM n e).bad=true→(hearsM m { e with came:=e.came++q }).bad=true) ∧
  ((hearsM n e).bad=false→∀m',((hearsM n e).came++q).length < m'→hearsM m { e with came:=e.came++q }=hearsM m' { hearsM n e with came:=(hearsM n e).came++q })
 | 0,e,q,h,_,_=>absurd h (Nat.not_lt_zero _)
 | n+1,e,q,h,0,hm=>absurd hm (Nat.not_lt_zero _)
 | n+1,e,q,h,m+1,hm=>by
  by_cases hb:e.bad=true
  ·have e1:hearsM (n+1) e=e:=by unfold hearsM; rw [if_pos hb]
   have e2:hearsM (m+1) { e with came:=e.came++q }={ e with came:=e.came++q }:=by unfold hearsM; rw [if_pos hb]
   rw [e1,e2]
   exact ⟨fun _=>hb,fun z=>by rw [hb] at z; cases z⟩
  ·by_cases h0:(frR e.came).2.2=0
   ·have e1:hearsM (n+1) e=e:=by
     unfold hearsM; rw [if_neg hb]; simp only; rw [if_neg (by omega),if_pos h0]
    rw [e1]
    exact ⟨fun z=>absurd z hb,fun _ m' hm'=>hearsM_even (m+1) m' _ hm hm' frameM_came⟩
   ·have ha:=frR_app (q:=q) h0
    by_cases hlt:(frR e.came).2.2 < 0
    ·have e1:hearsM (n+1) e=badM e:=by
      unfold hearsM; rw [if_neg hb]; simp only; rw [if_pos hlt]
     have e2:hearsM (m+1) { e with came:=e.came++q }=badM { e with came:=e.came++q }:=by
      unfold hearsM; rw [if_neg hb]; simp only; rw [ha,if_pos hlt]
     rw [e1,e2]
     exact ⟨fun _=>rfl,fun z=>by cases z⟩
    ·obtain ⟨g1,g2,g3,g4⟩:=frR_some (b:=e.came) (by omega)
     have e1:hearsM (n+1) e=hearsM n (frameM { e with came:=e.came.drop (frR e.came).2.1 } (frR e.came).1):=by
      conv=>lhs; unfold hearsM
      rw [if_neg hb]; simp only; rw [if_neg hlt,if_neg h0]
     have e2:hearsM (m+1) { e with came:=e.came++q }=hearsM m (frameM { e with came:=e.came.drop (frR e.came).2.1++q } (frR e.came).1):=by
      conv=>lhs; unfold hearsM
      rw [if_neg hb]; simp only; rw [ha,if_neg hlt,if_neg h0,List.drop_append_of_le_length g3]
     rw [e1,e2]
     have e3:frameM { e with came:=e.came.drop (frR e.came).2.1++q } (frR e.came).1={ frameM { e with came:=e.came.drop (frR e.came).2.1 } (frR e.came).1 with came:=(frameM { e with came:=e.came.drop (frR e.came).2.1 } (frR e.came).1).came++q }:=by
      rw [frameM_came]
      rw [frameM_with e (frR e.came).1 (e.came.drop (frR e.came).2.1++q),frameM_with e (frR e.came).1 (e.came.drop (frR e.came).2.1)]
     rw [e3]
     refine hearsM_app n _ q ?_ m ?_
     ·rw [frameM_came]; simp only [List.length_drop]; omega
     ·rw [frameM_came]; simp only [List.length_append,List.length_drop] at hm ⊢; omega
theorem hearM_parts (e:En) (b1 b2:List UInt8) :
  ((hearM e b1).bad=true→(hearM e (b1++b2)).bad=true)∧((hearM e b1).bad=false→hearM (hearM e b1) b2=hearM e (b1++b2)):=by
 have h:=hearsM_app (e.came.length+b1.length+1) { e with came:=e.came++b1 } b2 (by simp) (e.came.length+(b1++b2).length+1) (by simp only [List.length_append]; omega)
 have e1:hearM e (b1++b2)=hearsM (e.came.length+(b1++b2).length+1) { e with came:=(e.came++b1)++b2 }:=by unfold hearM; rw [List.append_assoc]
 rw [e1]
 refine ⟨h.1,fun z=>?_⟩
 exact (h.2 z ((hearM e b1).came.length+b2.length+1) (by show ((hearM e b1).came++b2).length < _; simp)).symm
theorem hearsM_short:∀(n:Nat) (e:En),(hearsM n e).came.length≤e.came.length
 | 0,e=>Nat.le_refl _
 | n+1,e=>by
  unfold hearsM
  split
  ·exact Nat.le_refl _
  ·simp only
   split
   ·exact Nat.le_refl _
   ·split
    ·exact Nat.le_refl _
    ·have h1:=hearsM_short n (frameM { e with came:=e.came.drop (frR e.came).2.1 } (frR e.came).1)
     rw [frameM_came] at h1
     simp only [List.length_drop] at h1
     omega
theorem hearM_short (e:En) (b:List UInt8):(hearM e b).came.length≤e.came.length+b.length:=by
 have:=hearsM_short (e.came.length+b.length+1) { e with came:=e.came++b }
 simp only [List.length_append] at this
 exact this
end
section
def texts:List St→Nat
 | []=>0
 | s :: l=>s.text.length+texts l
theorem texts_set:∀(l:List St) (k:Nat) (s:St),k < l.length→texts (l.set k s)+(l.getD k st0).text.length=texts l+s.text.length
 | [],k,s,h=>by simp at h
 | a :: l,0,s,_=>by simp [texts]; omega
 | a :: l,k+1,s,h=>by
  have:=texts_set l k s (by simpa using h)
  simp only [List.set_cons_succ,texts,List.getD_cons_succ]; omega
theorem texts_app:∀l k:List St,texts (l++k)=texts l+texts k
 | [],k=>by simp [texts]
 | s :: l,k=>by simp only [List.cons_append,texts,texts_app l k]; omega
def more1:List Fr→Nat
 | []=>0
 | f :: l=>(if f.stream=0 then 0 else byteAt f.body 0)+more1 l
theorem more1_app:∀l k:List Fr,more1 (l++k)=more1 l+more1 k
 | [],k=>by simp [more1]
 | f :: l,k=>by simp only [List.cons_append,more1,more1_app l k]; omega
structure HeardR (e x:En) (w:List Fr) (n:Nat):Prop where
 wait:x.wait=e.wait++w
 kinds:∀f ∈ w,f.kind=8∧0 < f.body.length
 all:more0 w=n
 own:more1 w=n
 room:x.room=e.room - n
 text:texts x.strs=texts e.strs+n
theorem HeardR.none {e x:En} (h1:x.wait=e.wait) (h2:x.room=e.room) (h3:texts x.strs=texts e.strs):HeardR e x [] 0 :=
 ⟨by simp [h1],by simp,rfl,rfl,by simp [h2],by simp [h3]⟩
theorem HeardR.trans {e x y:En} {w v:List Fr} {n m:Nat} (h:HeardR e x w n) (k:HeardR x y v m):HeardR e y (w++v) (n+m) :=
 ⟨by rw [k.wait,h.wait,List.append_assoc],fun f hf=>by rcases List.mem_append.1 hf with z | z; exact h.kinds f z; exact k.kinds f z,
  by rw [more0_app,h.all,k.all],by rw [more1_app,h.own,k.own],by rw [k.room,h.room]; omega,by rw [k.text,h.text]; omega⟩
theorem doneM_text (ans:Bool) (s:St):(doneM ans s).text=s.text:=by
 unfold doneM; split
 ·rfl
 ·split <;> rfl
theorem texts_same {e:En} {k:Nat} {s:St} (hk:k < e.strs.length) (h:s.text=(stAt e k).text):texts (setSt e k s).strs=texts e.strs:=by
 have:=texts_set e.strs k s hk
 have h':s.text=(e.strs.getD k st0).text:=h
 rw [←h'] at this
 show texts (e.strs.set k s)=_
 omega
theorem frameM_r {N:Nat} {e:En} (hw:EnW N e) {f:Fr} (hf:frameOk f=true):∃w n,HeardR e (frameM e f) w n:=by
 have hg:(growM e f.stream).wait=e.wait∧(growM e f.stream).room=e.room∧texts (growM e f.stream).strs=texts e.strs:=by
  unfold growM; split
  ·exact ⟨rfl,rfl,by simp [texts_app,texts,newSt]⟩
  ·exact ⟨rfl,rfl,rfl⟩
 unfold frameM
 split
 ·refine ⟨[],0,?_⟩
  unfold headFM
  simp only
  split
  ·rename_i t hd k hr hk
   split
   ·exact .none hg.1 hg.2.1 hg.2.2
   ·refine .none hg.1 hg.2.1 ?_
    refine (texts_same (e:={ growM e f.stream with inn:=t }) (atM_some hk).1 ?_).trans hg.2.2
    split
    ·rw [doneM_text]; rfl
    ·rfl
  ·exact .none hg.1 hg.2.1 hg.2.2
 ·split
  ·unfold dataM
   split
   ·exact ⟨[],0,.none rfl rfl rfl⟩
   ·rename_i k hk
    obtain ⟨h1,h2⟩:=atM_some hk
    simp only
    split
    ·exact ⟨[],0,.none rfl rfl rfl⟩
    ·rename_i hc
     have c1:¬(f.body.length:Int) > e.room:=fun q=>hc (.inr (.inr (.inl q)))
     have hfl:=flowOk_iff.1 hw.flow
     have hb:byteAt [by8 f.body.length] 0=f.body.length:=by8_toNat (by omega)
     have hid:=strm_pos (stOk_iff.1 (hw.st h1)).1
     have htx:∀(y:En) (s:St),y.strs=e.strs→s.text=(stAt e k).text++f.body→texts (setSt y k s).strs=texts e.strs+f.body.length:=fun y s hy hs=>by
      have:=texts_set e.strs k s h1
      rw [hs,List.length_append] at this
      show texts (y.strs.set k s)=_
      rw [hy]
      have e1:(e.strs.getD k st0).text=(stAt e k).text:=rfl
      rw [e1] at this
      omega
     have hlast:(if f.last then doneM e.ans { stAt e k with text:=(stAt e k).text++f.body,room:=(stAt e k).room - f.body.length } else { stAt e k with text:=(stAt e k).text++f.body,room:=(stAt e k).room - f.body.length }).text=(stAt e k).text++f.body:=by
      split
      ·rw [doneM_text]
      ·rfl
     by_cases hne:f.body=[]
     ·rw [if_pos hne]
      refine ⟨[],0,.none rfl ?_ ?_⟩
      ·show e.room - (f.body.length:Int)=e.room; rw [hne]; simp
      ·refine (htx _ _ rfl hlast).trans ?_
       rw [hne]; simp
     ·rw [if_neg hne]
      have hpos:=List.length_pos_iff.2 hne
      refine ⟨[⟨8,false,0,[by8 f.body.length]⟩,⟨8,false,(stAt e k).id,[by8 f.body.length]⟩],f.body.length,⟨rfl,fun g hg=>?_,?_,?_,rfl,htx _ _ rfl hlast⟩⟩
      ·simp only [List.mem_cons,List.not_mem_nil,or_false] at hg
       rcases hg with rfl | rfl
       ·exact ⟨rfl,by simp⟩
       ·exact ⟨rfl,by simp⟩
      ·simp [more0,hb,hid]
      ·simp [more1,hb,hid]
  ·split
   ·refine ⟨[],0,?_⟩
    unfold moreM
    split
    ·exact .none rfl rfl rfl
    ·split
     ·exact .none rfl rfl rfl
     ·rename_i k hk
      exact .none rfl rfl (texts_same (e:={ e with bad:=_ }) (atM_some hk).1 rfl)
   ·refine ⟨[],0,?_⟩
    split
    ·exact .none rfl rfl rfl
    ·rename_i k hk
     split
     ·exact .none rfl rfl rfl
     ·exact .none rfl rfl (texts_same (atM_some hk).1 rfl)
theorem hearsM_r:∀(n N:Nat) (e:En),EnW N e→∃w m,HeardR e (hearsM n e) w m
 | 0,N,e,_=>⟨[],0,.none rfl rfl rfl⟩
 | n+1,N,e,hw=>by
  unfold hearsM
  split
  ·exact ⟨[],0,.none rfl rfl rfl⟩
  ·simp only
   split
   ·exact ⟨[],0,.none rfl rfl rfl⟩
   ·split
    ·exact ⟨[],0,.none rfl rfl rfl⟩
    ·rename_i h1 h2
     obtain ⟨g1,g2,g3,g4⟩:=frR_some (b:=e.came) (by omega)
     have hc:=hw.withCame (c:=e.came.drop (frR e.came).2.1) (by have:=hw.came; rw [List.length_drop]; omega)
     obtain ⟨w,m,h⟩:=frameM_r hc g1
     obtain ⟨v,k,h'⟩:=hearsM_r n (N+2) _ (frameM_w hc g1)
     have h0:HeardR e { e with came:=e.came.drop (frR e.came).2.1 } [] 0:=.none rfl rfl rfl
     exact ⟨_,_,(h0.trans h).trans h'⟩
theorem hearM_r {N:Nat} {e:En} (hw:EnW N e) {b:List UInt8} (hb:e.came.length+b.length≤600):∃w m,HeardR e (hearM e b) w m:=by
 obtain ⟨w,m,h⟩:=hearsM_r (e.came.length+b.length+1) N { e with came:=e.came++b } (hw.withCame (by rw [List.length_append]; omega))
 exact ⟨w,m,⟨h.wait,h.kinds,h.all,h.own,h.room,h.text⟩⟩
theorem hear_one {e:En} (hb:e.bad=false) (hc:e.came=[]) {f:Fr} (hf:frameOk f=true):hearM e (frW f)=frameM e f:=by
 have hcame:e.came++frW f=bytes [f]:=by rw [hc,bytes_one]; rfl
 unfold hearM
 conv=>lhs; unfold hearsM
 rw [if_neg (by rw [hb]; decide)]
 simp only
 rcases frR_bytes (came:=e.came++frW f) (rest:=[]) (fs:=[f]) (by rw [List.append_nil]; exact hcame) (fun g hg=>by rw [List.mem_singleton.1 hg]; exact hf) with ⟨_,_,z⟩ | ⟨g,gs,e1,q,hd⟩
 ·have h1:=z f [] rfl
  have h2:=congrArg List.length hcame
  rw [bytes_one,frW_lenE] at h2
  omega
 ·cases e1
  rw [q,if_neg (show ¬((1:Int) < 0) by decide),if_neg (show ¬((1:Int)=0) by decide)]
  simp only
  rw [List.append_nil] at hd
  have e2:({ e with came:=(e.came++frW f).drop (4+f.body.length) }:En)={ e with came:=[] }:=by rw [hd]; rfl
  rw [e2]
  have e3:({ e with came:=[] }:En)=e:=by cases e; simp only at hc; subst hc; rfl
  rw [e3]
  have h0:(frameM e f).came=[]:=by rw [frameM_came,hc]
  generalize frameM e f=x at h0
  have:∀n,hearsM n x=x:=fun n=>by
   cases n with
   | zero=>rfl
   | succ n =>
    unfold hearsM
    split
    ·rfl
    ·simp only [h0]
     rw [if_neg (by decide),if_pos (by rfl)]
  exact this _
def HL (e:En):Prop:=∀s ∈ e.strs,s.head.length≤3
theorem HL.at_ {e:En} (h:HL e) {i:Nat} (hi:i < e.strs.length):(stAt e i).head.length≤3:=by
 rw [stAt,getD_lt st0 hi]; exact h _ (List.getElem_mem hi)
theorem HL.set {e:En} (h:HL e) {k:Nat} {s:St} (hs:s.head.length≤3):HL (setSt e k s):=fun t ht=>by
 rcases List.mem_or_eq_of_mem_set ht with z | z
 ·exact h t z
 ·rw [z]; exact hs
theorem doneM_hl (ans:Bool) {s:St} (h:s.head.length≤3):(doneM ans s).head.length≤3:=by
 unfold doneM; split
 ·exact h
 ·split
  ·simp [askM]
  ·exact h
theorem frameM_hl {e:En} (h:HL e) (f:Fr):HL (frameM e f):=by
 have hg:HL (growM e f.stream):=by
  unfold growM; split
  ·intro s hs
   rcases List.mem_append.1 hs with z | z
   ·exact h s z
   ·rw [List.mem_singleton.1 z]; simp [newSt]
  ·exact h
 unfold frameM
 split
 ·unfold headFM
  simp only
  split
  ·rename_i t hd k hr hk
   split
   ·exact hg
   ·refine HL.set (e:={ growM e f.stream with inn:=t }) hg ?_
    have:=hg.at_ (atM_some hk).1
    split
    ·exact doneM_hl _ this
    ·exact this
  ·exact hg
 ·split
  ·unfold dataM
   split
   ·exact h
   ·rename_i k hk
    simp only
    split
    ·exact h
    ·refine HL.set (e:={ e with room:=_,wait:=_ }) h ?_
     have:=h.at_ (atM_some hk).1
     split
     ·exact doneM_hl _ this
     ·exact this
  ·split
   ·unfold moreM
    split
    ·exact h
    ·split
     ·exact h
     ·rename_i k hk
      exact HL.set (e:={ e with bad:=_ }) h (h.at_ (atM_some hk).1)
   ·split
    ·exact h
    ·rename_i k hk
     split
     ·exact h
     ·exact HL.set h (h.at_ (atM_some hk).1)
theorem hearsM_hl:∀(n:Nat) (e:En),HL e→HL (hearsM n e)
 | 0,e,h=>h
 | n+1,e,h=>by
  unfold hearsM
  split
  ·exact h
  ·simp only
   split
   ·exact h
   ·split
    ·exact h
    ·exact hearsM_hl n _ (frameM_hl (e:={ e with came:=e.came.drop (frR e.came).2.1 }) h _)
theorem hearWM_hl {e:En} (h:HL e) (b:List UInt8):HL (hearWM e b):=by
 unfold hearWM
 split
 ·exact h
 ·exact hearsM_hl _ { e with came:=e.came++b } h
theorem Sid0.hl {e:En} (h:Sid0 e):HL e:=fun s hs=>by
 obtain ⟨k,hk,rfl⟩:=List.getElem_of_mem hs
 have:=head_short h hk
 rwa [stAt,getD_lt st0 hk] at this
theorem gone_silent {N:Nat} {e x:En} {fs:List Fr} (hW:EnW N e) (h:WrS e x fs) {k:Nat} (hk:k < e.strs.length) (h3:(stAt e k).state≠1):∀f ∈ fs,f.stream≠(stAt e k).id:=fun f hf q=>by
 obtain ⟨i,i1,i2,i3⟩:=h.of f hf
 have:=hW.inj i1 hk (i2.symm.trans q)
 subst this
 exact h3 i3
end
section
theorem Drawn.hl {w:Wo} (h:Drawn w):HL w.caller∧HL w.answerer:=by
 obtain ⟨l,_,_,hs⟩:=h
 have h:=playM_pl l
 generalize playM l=x at *
 obtain ⟨fu,fd,hy⟩:=h.syn
 have h1:=hy.j.C.hl
 have h2:=hy.j.A.hl
 cases hs with
 | none=>exact ⟨h1,h2⟩
 | ans=>exact ⟨h1,h2⟩
 | up o ho=>exact ⟨h1,h2⟩
 | table t m _ _=>exact ⟨h1,h2⟩
 | id k _ hl _ =>
  refine ⟨fun s hs=>?_,h2⟩
  rcases List.mem_or_eq_of_mem_set hs with z | z
  ·exact h1 s z
  ·rw [z]
   show (x.caller.strs.getD 0 st0).head.length≤3
   match q:x.caller.strs with
   | []=>simp [st0]
   | y :: ys=>exact h1 y (by rw [q]; simp)
theorem DrawnE.hl {e:En} {wire:List UInt8} (h:DrawnE e wire):HL e:=by
 obtain ⟨w,hw,⟨rfl,_⟩ | ⟨rfl,_⟩⟩:=h
 ·exact hw.hl.1
 ·exact hw.hl.2
structure EnL (e:En):Prop where
 w:EnW 36 e
 loc:Loc e
 inc:Inc e
 hl:HL e
theorem DrawnE.l {e:En} {wire:List UInt8} (h:DrawnE e wire) (hok:endOk e=true):EnL e:=by
 obtain ⟨h1,h2⟩:=h.loc
 exact ⟨h1.w (endOk_iff.1 hok),h1,h2,h.hl⟩
theorem EnL.hear {e:En} (h:EnL e) (b:List UInt8):EnL (hearWM e b):=by
 have h1:=hearWM_loc h.w h.loc b
 exact ⟨h1.w (hearWM_w (h.w.mono (show 36≤642 by decide)) (Nat.le_refl _) b).1,h1,hearWM_inc h.inc b,hearWM_hl h.hl b⟩
theorem EnL.ok {e:En} (h:EnL e):endOk e=true:=endOk_iff.2 (h.w.mono (by decide))
theorem hear_parts {e:En} (h:EnL e) {b:List UInt8} {k:Nat} (hb:e.bad=false) (h300:e.came.length+b.length≤300) (hw:e.wait.length≤4) (h150:b.length≤150) :
  ((endHearM e b).bad=true→(endHearM (endHearM e (b.take k)) (b.drop k)).bad=true)∧((endHearM e b).bad=false→endHearM (endHearM e (b.take k)) (b.drop k)=endHearM e b):=by
 have e1:∀q:List UInt8,q.length≤150→e.came.length+q.length≤300→endHearM e q=hearM e q:=fun q h1 h2=>by
  rw [endHearM,if_neg (by rw [h.ok]; rintro (z | z); cases z; omega),hearWM,if_neg]
  rintro (z | z | z)
  ·rw [hb] at z; cases z
  ·omega
  ·omega
 have ht:(b.take k).length≤b.length:=by rw [List.length_take]; omega
 have hx:=h.hear (b.take k)
 have hy:hearWM e (b.take k)=hearM e (b.take k):=by
  rw [hearWM,if_neg]
  rintro (z | z | z)
  ·rw [hb] at z; cases z
  ·omega
  ·omega
 rw [hy] at hx
 rw [e1 b h150 h300,e1 _ (by omega) (by omega)]
 obtain ⟨p1,p2⟩:=hearM_parts e (b.take k) (b.drop k)
 rw [List.take_append_drop] at p1 p2
 have hs:=hearM_short e (b.take k)
 have hlen:(b.take k).length+(b.drop k).length=b.length:=by rw [←List.length_append,List.take_append_drop]
 cases hxb:(hearM e (b.take k)).bad with
 | true =>
  have hz:endHearM (hearM e (b.take k)) (b.drop k)=hearM e (b.take k):=by
   rw [endHearM,if_neg (by rw [hx.ok]; rintro (z | z); cases z; omega),hearWM,if_pos (.inl hxb)]
  rw [hz]
  exact ⟨fun _=>hxb,fun z=>by rw [p1 hxb] at z; cases z⟩
 | false =>
  have hz:endHearM (hearM e (b.take k)) (b.drop k)=hearM e b:=by
   rw [endHearM,if_neg (by rw [hx.ok]; rintro (z | z); cases z; omega),hearWM,if_neg]
   ·exact p2 hxb
   ·rintro (z | z | z)
    ·rw [hxb] at z; cases z
    ·omega
    ·have:=hx.w.len; omega
  rw [hz]
  exact ⟨id,fun _=>rfl⟩
end
section
open Go
theorem take_succ_fr {l:List Fr} {i:Nat} (h:i < l.length):l.take (i+1)=l.take i++[l.getD i fr0]:=by
 rw [List.take_add_one,List.getD_eq_getElem?_getD,List.getElem?_eq_getElem h]; rfl
end
section
theorem endHearM_one {e:En} (hok:endOk e=true) (hb:e.bad=false) (hc:e.came=[]) (hw:e.wait.length≤40) {f:Fr} (hf:frameOk f=true) (hl:(frW f).length≤300):endHearM e (frW f)=frameM e f:=by
 rw [endHearM,if_neg (by rw [hok]; rintro (z | z); cases z; omega),hearWM,if_neg]
 ·exact hear_one hb hc hf
 ·rintro (z | z | z)
  ·rw [hb] at z; cases z
  ·rw [hc] at z; simp at z; omega
  ·omega
theorem hear_more {e:En} (hok:endOk e=true) (hb:e.bad=false) (hc:e.came=[]) (hw:e.wait.length≤40) {n:Nat} (hn:1≤n∧n≤31) :
  frameOk ⟨8,false,0,[by8 n]⟩=true∧((e.send+n > 31→(endHearM e (frW ⟨8,false,0,[by8 n]⟩)).bad=true)∧(e.send+n≤31→endHearM e (frW ⟨8,false,0,[by8 n]⟩)={ e with send:=e.send+n })):=by
 have hf:frameOk ⟨8,false,0,[by8 n]⟩=true:=more_ok (.inl rfl) hn
 have hby:byteAt [by8 n] 0=n:=by8_toNat (by omega)
 refine ⟨hf,?_⟩
 rw [endHearM_one hok hb hc hw hf (by simp [frW])]
 have hm:frameM e ⟨8,false,0,[by8 n]⟩={ e with send:=min (e.send+n) 31,bad:=e.bad || decide (e.send+n > 31) }:=by
  unfold frameM
  rw [if_neg (show ¬((8:Int)=1) by decide),if_neg (show ¬((8:Int)=0) by decide),if_pos rfl]
  unfold moreM
  rw [if_pos rfl]
  simp only [hby]
 rw [hm]
 refine ⟨fun z=>?_,fun z=>?_⟩
 ·simp [z]
 ·have e1:min (e.send+(n:Int)) 31=e.send+n:=by omega
  have e2:decide (e.send+(n:Int) > 31)=false:=by simp; omega
  rw [e1,e2,Bool.or_false]
theorem hear_reset {e:En} (hok:endOk e=true) (hb:e.bad=false) (hc:e.came=[]) (hw:e.wait.length≤40) (hs:0 < e.strs.length) :
  frameOk ⟨3,false,(stAt e (e.strs.length - 1)).id,[]⟩=true ∧
  endHearM e (frW ⟨3,false,(stAt e (e.strs.length - 1)).id,[]⟩)=if e.ans=false then badM e else setSt e (e.strs.length - 1) { stAt e (e.strs.length - 1) with state:=3 }:=by
 have hW:=endOk_iff.1 hok
 have hk:e.strs.length - 1 < e.strs.length:=by omega
 have hf:frameOk ⟨3,false,(stAt e (e.strs.length - 1)).id,[]⟩=true:=reset_ok (stOk_iff.1 (hW.st hk)).1
 refine ⟨hf,?_⟩
 rw [endHearM_one hok hb hc hw hf (by simp [frW])]
 unfold frameM
 rw [if_neg (show ¬((3:Int)=1) by decide),if_neg (show ¬((3:Int)=0) by decide),if_neg (show ¬((3:Int)=8) by decide)]
 simp only [hW.at_ hk]
def headX:List UInt8:=(headW [] 64 [⟨[107,105,110,100],[116,101,120,116],false⟩]).2
def frA:List UInt8:=frW ⟨1,false,3,headX⟩
def frL:List UInt8:=frW ⟨1,true,3,headX⟩
def frT:List UInt8:=frW ⟨0,false,3,[97]⟩
def frE:List UInt8:=frW ⟨1,false,1,headX⟩
theorem twice:(endHearM (newEn true) frA).bad=false∧(endHearM (newEn true) (frA++frA)).bad=true∧(endHearM (newEn true) frT).bad=true∧(endHearM (newEn true) (frL++frT)).bad=true∧(endHearM (newEn true) (frA++frE)).bad=true∧(endHearM (newEn true) (frA++frT)).bad=false∧(endHearM (newEn false) frA).bad=true:=by decide +kernel
def sAH:List UInt8:=[97,98,99,100,101,102,103,104]
def frO (k:Nat):List UInt8:=frW ⟨0,false,1,sAH.take k⟩
def frP (k:Nat):List UInt8:=frW ⟨0,false,1,sAH.drop k⟩
def winE (k:Nat):En:=endHearM (newEn true) (frE++frO k++frP k)
theorem window:∀k,k < 9→(winE k).bad=false∧(winE k).strs.length=1∧((winE k).strs.getD 0 st0).text=sAH∧(endHearM (winE k) (frW ⟨0,false,1,[105]⟩)).bad=true∧endOk (winE k)=true∧(frE++frO k++frP k).length≤300:=by decide +kernel
end
section
open Go
theorem sEndCall_ok {e:En} (he:EnB e) (path text:List UInt8) (hp:path.length≤2000000) (ht:text.length≤2000000) {S:List Blk} {b c:Nat} (h:EnAt S b c e):VCall Tryz.prog 22 [eV b c e,.str path,.str text] S fun r S' =>
  ∃v,r=.tup [v,.int .i64 (endCallM e path text).2.1,.bool (endCallM e path text).2.2]∧RNew S (endCallM e path text).1 v S':=by
 have hok:=fun X=>sEndOk_at he (h.app X)
 have hcp:=fun X=>l21Copy_ok he (h.app X)
 refine VCall.en hDe Tryz.func22 Tryz.ntmps22 Tryz.results22 ?_
 simp -implicitDefEqProofs (disch:=omega) only [push_cast,simprocAttr,↓gd]
 refine ((hok _).as (by simp [eV,enV,enC])).to ?_
 cases hE:endOk e
 ·rw [endCallM,if_pos hE]
  simp -implicitDefEqProofs (disch:=omega) only [push_cast,simprocAttr,↓gd]
  exact RNew.zeroT (by simp [Plain])
 have hW:=endOk_w hE
 rw [endCallM,if_neg (by rw [hE]; simp)]
 simp -implicitDefEqProofs (disch:=omega) only [push_cast,simprocAttr,↓gd]
 refine ((hcp _).as (by simp [eV,enV,enC])).mono ?_
 rintro r S' ⟨b',c',rfl,hn⟩
 have k0:S'[S.length+1]?=some (.cells 0 zE):=hn.upd.get (by simp -implicitDefEqProofs (disch:=omega) only [push_cast,simprocAttr,↓gd]) (by simp)
 have l0:=lt_of_some k0
 have hbb:=hn.hb; have hcc:=hn.hc
 simp at hbb hcc
 simp -implicitDefEqProofs (disch:=omega) only [push_cast,simprocAttr,↓gd]
 refine ((l21Call_ok hW (by decide) path text hp ht hn.at_).as (by simp [eV,enV,enC])).mono ?_
 rintro r S2 ⟨v,rfl,⟨b2,c2,rfl,hto⟩,_⟩
 have k0':=hto.upd.get k0 (by simp; omega)
 have l0':=lt_of_some k0'
 have hn2:=(hn.to hto).app
 generalize callM e path text=y at *
 obtain ⟨y,o,z⟩:=y
 simp -implicitDefEqProofs (disch:=omega) only [push_cast,simprocAttr,k0',↓gd]
 exact ⟨_,_,Wk.refl _ _ _,_,rfl,b2,c2,rfl,hn2.set (j:=S.length+1) _ (by omega) (cells_ne hto.at_.1 k0' (by decide)) (cells_ne hto.at_.2 k0' (by decide))⟩
end
end Go.Proofs.YtaamlddnpamomaaGreatDoor
