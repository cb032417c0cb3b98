/- A part of the proof: contracts of functions, or plain facts on which these lean. -/
import Derived.Test.YtdplmibomopkcaaGreatDoorPa28
import Derived.Test.YtdplmibomopkcaaGreatDoorPa33
import Derived.Test.YtdplmibomopkcaaGreatDoorPa34
import Derived.Test.YtdplmibomopkcaaGreatDoorPa39
namespace Go.Proofs.YtdplmibomopkcaaGreatDoor
open Go
set_option linter.unusedVariables false
set_option linter.unusedSimpArgs false
set_option maxRecDepth 100000
set_option maxHeartbeats 16000000

section
def sayF (e:En) (k:Nat):List Fr:=if (stAt e k).state≠1∨(stAt e k).head=[]∨(stAt e k).said=true then [] else (beg1 e k).2++(pie1 (beg1 e k).1 k).2
def saysF:Nat→Nat→En→List Fr
 | 0,_,_=>[]
 | n+1,k,e=>sayF e k++saysF n (k+1) (sayM e k).1
def newF (e:En):List Fr:=saysF e.strs.length 0 { (waitM e e.wait).1 with wait:=[] }
theorem sayM_bytes {e:En} {k:Nat} (hk:k < e.strs.length):(sayM e k).2=bytes (sayF e k):=by
 unfold sayF
 by_cases hm:(stAt e k).state≠1∨(stAt e k).head=[]∨(stAt e k).said=true
 ·have q:sayM e k=(e,[]):=by unfold sayM; simp only; rw [if_pos hm]
  rw [q,if_pos hm]; rfl
 ·rw [sayM_steps hk hm,if_neg hm,bytes_app]
theorem saysM_bytes {N:Nat}:∀(n k:Nat) (e:En),EnW N e→k+n≤e.strs.length→(saysM n k e).2=bytes (saysF n k e)
 | 0,k,e,_,_=>rfl
 | n+1,k,e,hw,hk=>by
  obtain ⟨r1,r2⟩:=sayM_w hw (k:=k) (by omega)
  have:=saysM_bytes n (k+1) (sayM e k).1 r1 (by omega)
  show (sayM e k).2++(saysM n (k+1) (sayM e k).1).2=bytes (sayF e k++saysF n (k+1) (sayM e k).1)
  rw [bytes_app,sayM_bytes (by omega),this]
theorem waitM_bytes:∀(l:List Fr) (e:En),(waitM e l).2=bytes l
 | [],e=>rfl
 | f :: l,e=>by
  show frW f++(waitM (roomM e f) l).2=_
  rw [waitM_bytes l,bytes_cons]
theorem writeM_bytes {N:Nat} {e:En} (h:EnW N e):(writeM e).2=bytes (e.wait++newF e):=by
 obtain ⟨w1,w2,w3⟩:=waitM_w e.wait e h
 have:=saysM_bytes e.strs.length 0 { (waitM e e.wait).1 with wait:=[] } w1.noWait (by simp [w2])
 show (waitM e e.wait).2++(saysM e.strs.length 0 { (waitM e e.wait).1 with wait:=[] }).2=_
 rw [waitM_bytes,this,bytes_app]; rfl
structure SayS (e:En) (k:Nat) (x:En) (fs:List Fr):Prop where
 wait:x.wait=e.wait
 len:x.strs.length=e.strs.length
 other:∀j,j≠k→stAt x j=stAt e j
 id:(stAt x k).id=(stAt e k).id
 say:(stAt x k).say=(stAt e k).say
 head:(stAt x k).head=(stAt e k).head
 got:(stAt x k).got=(stAt e k).got∧(stAt x k).text=(stAt e k).text∧(stAt x k).room=(stAt e k).room
 ok:∀f ∈ fs,frameOk f=true
 stream:∀f ∈ fs,f.stream=(stAt e k).id
 kinds:∀f ∈ fs,f.kind=0∨f.kind=1
 data:∀f ∈ fs,f.kind=0→f.body=((stAt e k).say.drop (stAt e k).sent.toNat).take f.body.length∧(stAt x k).sent=(stAt e k).sent+f.body.length∧f.last=decide ((stAt e k).sent+f.body.length=(stAt e k).say.length)∧0 < f.body.length
 sent:(stAt x k).sent=(stAt e k).sent+(dat 0 fs:Nat)
 send:(stAt x k).send=(stAt e k).send - (dat 0 fs:Nat)
 all:x.send=e.send - (dat 0 fs:Nat)
 low:0≤(stAt x k).send∧0≤x.send∧(stAt x k).sent≤(stAt x k).say.length
 gone:(stAt e k).state≠1→fs=[]
theorem sayM_s {N:Nat} {e:En} {k:Nat} (hW:EnW N e) (hk:k < e.strs.length) (hh:(stAt e k).head.length≤3):SayS e k (sayM e k).1 (sayF e k):=by
 obtain ⟨w1,w2,w3,w4⟩:=sayM_keeps e k
 have hs:=stOk_iff.1 (hW.st hk)
 obtain ⟨a1,a2,a3,a4,a5,a6,a7,a8⟩:=hs
 have hg:=flowOk_iff.1 a8
 have hf:=flowOk_iff.1 hW.flow
 have h16:=(wordOk_iff.1 a5).2
 by_cases hm:(stAt e k).state≠1∨(stAt e k).head=[]∨(stAt e k).said=true
 ·have q:sayM e k=(e,[]):=by unfold sayM; simp only; rw [if_pos hm]
  have q2:sayF e k=[]:=by unfold sayF; rw [if_pos hm]
  rw [q,q2]
  exact ⟨rfl,rfl,fun _ _=>rfl,rfl,rfl,rfl,⟨rfl,rfl,rfl⟩,by simp,by simp,by simp,by simp,by simp [dat],by simp [dat],by simp [dat],⟨hg.1,hf.1,a7.2⟩,fun _=>rfl⟩
 ·have hst:(stAt e k).state=1:=by simpa using fun q=>hm (.inl q)
  have q2:sayF e k=(beg1 e k).2++(pie1 (beg1 e k).1 k).2:=by unfold sayF; rw [if_neg hm]
  have hl:=headW_len (stAt e k).head e.out e.outM (headOk_iff.1 a3).1 (by have:=(tableOk_parts hW.out).1; omega)
  have hb:∃x fs,(beg1 e k).1=x∧(beg1 e k).2=fs∧k < x.strs.length∧x.send=e.send∧(stAt x k).say=(stAt e k).say∧(stAt x k).sent=(stAt e k).sent∧(stAt x k).send=(stAt e k).send∧(stAt x k).id=(stAt e k).id∧(stAt x k).head=(stAt e k).head∧((stAt x k).got=(stAt e k).got∧(stAt x k).text=(stAt e k).text∧(stAt x k).room=(stAt e k).room)∧(∀f ∈ fs,f.kind=1∧f.stream=(stAt e k).id∧frameOk f=true):=by
   unfold beg1
   by_cases hbg:(stAt e k).begun=true
   ·rw [if_pos hbg]; exact ⟨e,[],rfl,rfl,hk,rfl,rfl,rfl,rfl,rfl,rfl,⟨rfl,rfl,rfl⟩,by simp⟩
   ·rw [if_neg hbg]
    have hx:k < ({ e with out:=(headW e.out e.outM (stAt e k).head).1 }:En).strs.length:=hk
    refine ⟨_,_,rfl,rfl,by simpa [setSt] using hk,rfl,?_,?_,?_,?_,?_,?_,?_⟩
    all_goals try simp only [stAt_set hx]
    ·rfl
    ·rfl
    ·rfl
    ·rfl
    ·rfl
    ·exact ⟨rfl,rfl,rfl⟩
    ·intro f hf
     rw [List.mem_singleton.1 hf]
     refine ⟨rfl,rfl,?_⟩
     simp [frameOk,a1]; omega
  obtain ⟨x,fs,hx,hfs,hkx,x1,x2,x3,x4,x5,x6,x7,x8⟩:=hb
  have hp:∃y gs n,(pie1 x k).1=y∧(pie1 x k).2=gs∧k < y.strs.length∧0≤n∧n≤((stAt e k).say.length:Int) - (stAt e k).sent∧n≤(stAt e k).send∧n≤e.send∧y.send=e.send - n∧(stAt y k).say=(stAt e k).say∧(stAt y k).sent=(stAt e k).sent+n∧(stAt y k).send=(stAt e k).send - n∧(stAt y k).id=(stAt e k).id∧(stAt y k).head=(stAt e k).head∧((stAt y k).got=(stAt e k).got∧(stAt y k).text=(stAt e k).text∧(stAt y k).room=(stAt e k).room) ∧
    ((gs=[]∧n=0)∨(0 < n∧gs=[⟨0,decide ((stAt e k).sent+n=(stAt e k).say.length),(stAt e k).id,((stAt e k).say.drop (stAt e k).sent.toNat).take n.toNat⟩])):=by
   unfold pie1
   by_cases hc:(stAt x k).said=false∧0 < mayM x (stAt x k)
   ·rw [if_pos hc]
    obtain ⟨m1,m2,m3⟩:=mayM_le x (stAt x k)
    have hkx':k < ({ x with send:=x.send - mayM x (stAt x k) }:En).strs.length:=hkx
    refine ⟨_,_,mayM x (stAt x k),rfl,rfl,by simpa [setSt] using hkx,by omega,by rw [x2,x3] at m1; exact m1,by rw [x4] at m2; exact m2,by rw [x1] at m3; exact m3,by show x.send - _=_; rw [x1],?_,?_,?_,?_,?_,?_,.inr ⟨hc.2,by rw [x2,x3,x5]⟩⟩
    all_goals simp only [stAt_set hkx']
    ·exact x2
    ·show (stAt x k).sent+_=_; rw [x3]
    ·show (stAt x k).send - _=_; rw [x4]
    ·exact x5
    ·exact x6
    ·exact x7
   ·rw [if_neg hc]
    exact ⟨x,[],0,rfl,rfl,hkx,Int.le_refl _,by omega,by omega,by omega,by rw [x1]; omega,x2,by rw [x3]; omega,by rw [x4]; omega,x5,x6,x7,.inl ⟨rfl,rfl⟩⟩
  obtain ⟨y,gs,n,hy,hgs,hky,n0,n1,n2,n3,y1,y2,y3,y4,y5,y6,y7,y8⟩:=hp
  have hd:∀z:En,k < z.strs.length→(don1 z k).send=z.send∧(stAt (don1 z k) k).say=(stAt z k).say∧(stAt (don1 z k) k).sent=(stAt z k).sent∧(stAt (don1 z k) k).send=(stAt z k).send∧(stAt (don1 z k) k).id=(stAt z k).id∧(stAt (don1 z k) k).head=(stAt z k).head∧((stAt (don1 z k) k).got=(stAt z k).got∧(stAt (don1 z k) k).text=(stAt z k).text∧(stAt (don1 z k) k).room=(stAt z k).room):=fun z hz=>by
   unfold don1
   split
   ·rw [stAt_set hz]; exact ⟨rfl,rfl,rfl,rfl,rfl,rfl,rfl,rfl,rfl⟩
   ·exact ⟨rfl,rfl,rfl,rfl,rfl,rfl,rfl,rfl,rfl⟩
  have e1:(sayM e k).1=don1 y k:=by rw [sayM_steps hk hm,hx,hy]
  have e2:sayF e k=fs++gs:=by rw [q2,hfs,hx,hgs]
  obtain ⟨d1,d2,d3,d4,d5,d6,d7,d8,d9⟩:=hd y hky
  have hdf:dat 0 fs=0:=dat_none (fun f hf=>by rw [(x8 f hf).1]; decide)
  have hbl:(((stAt e k).say.drop (stAt e k).sent.toNat).take n.toNat).length=n.toNat:=by simp; omega
  have hdn:((dat 0 (fs++gs):Nat):Int)=n:=by
   rw [dat_app,hdf]
   rcases y8 with ⟨z1,z2⟩ | ⟨z1,z2⟩
   ·rw [z1,z2]; rfl
   ·rw [z2]; simp only [dat,true_and,true_or,if_true,hbl]; omega
  have hmem:∀f ∈ gs,0 < n∧f=⟨0,decide ((stAt e k).sent+n=(stAt e k).say.length),(stAt e k).id,((stAt e k).say.drop (stAt e k).sent.toNat).take n.toNat⟩:=fun f hf=>by
   rcases y8 with ⟨z1,z2⟩ | ⟨z1,z2⟩
   ·rw [z1] at hf; cases hf
   ·rw [z2] at hf; exact ⟨z1,List.mem_singleton.1 hf⟩
  refine ⟨w1,w3,w4,?_,?_,?_,?_,fun f hf=>?_,fun f hf=>?_,fun f hf=>?_,fun f hf hk0=>?_,?_,?_,?_,?_,fun z=>absurd hst z⟩
  ·rw [e1,d5,y5]
  ·rw [e1,d2,y2]
  ·rw [e1,d6,y6]
  ·rw [e1,d7,d8,d9]; exact y7
  ·rw [e2] at hf
   rcases List.mem_append.1 hf with z | z
   ·exact (x8 f z).2.2
   ·obtain ⟨z1,z2⟩:=hmem f z
    rw [z2]
    simp only [frameOk,true_or,if_true,a1,hbl,Bool.true_and,decide_eq_true_eq]
    omega
  ·rw [e2] at hf
   rcases List.mem_append.1 hf with z | z
   ·exact (x8 f z).2.1
   ·rw [(hmem f z).2]
  ·rw [e2] at hf
   rcases List.mem_append.1 hf with z | z
   ·exact .inr (x8 f z).1
   ·rw [(hmem f z).2]; exact .inl rfl
  ·rw [e2] at hf
   rcases List.mem_append.1 hf with z | z
   ·rw [(x8 f z).1] at hk0; cases hk0
   ·obtain ⟨z1,z2⟩:=hmem f z
    have hbl':(f.body.length:Int)=n:=by rw [z2]; simp only [hbl]; omega
    refine ⟨?_,by rw [e1,d3,y3,hbl'],?_,by omega⟩
    ·have:f.body.length=n.toNat:=by omega
     rw [this,z2]
    ·rw [hbl',z2]
  ·rw [e1,e2,hdn,d3,y3]
  ·rw [e1,e2,hdn,d4,y4]
  ·rw [e1,e2,hdn,d1,y1]
  ·rw [e1,d4,d1,d3,d2,y4,y1,y3,y2]
   omega
theorem dat_one {id:Int} (h0:id≠0):∀{l:List Fr},(∀f ∈ l,f.stream=id)→dat id l=dat 0 l
 | [],_=>rfl
 | f :: l,h=>by
  have h1:=h f (by simp)
  have h2:=dat_one h0 (l:=l) (fun g hg=>h g (by simp [hg]))
  simp only [dat,h1,or_true,true_or,h2]
theorem dat_off {id:Int} (h0:id≠0):∀{l:List Fr},(∀f ∈ l,f.stream≠id)→dat id l=0
 | [],_=>rfl
 | f :: l,h=>by
  have h1:=h f (by simp)
  simp only [dat]
  rw [if_neg (by rintro ⟨_,z | z⟩; exact h0 z; exact h1 z),dat_off h0 (fun g hg=>h g (by simp [hg]))]
structure SaysS (e:En) (k n:Nat) (x:En) (fs:List Fr):Prop where
 wait:x.wait=e.wait
 len:x.strs.length=e.strs.length
 out:∀i,i < k∨k+n≤i→stAt x i=stAt e i
 id:∀i,(stAt x i).id=(stAt e i).id
 say:∀i,(stAt x i).say=(stAt e i).say
 ok:∀f ∈ fs,frameOk f=true∧(f.kind=0∨f.kind=1)
 of:∀f ∈ fs,∃i,k≤i∧i < k+n∧f.stream=(stAt e i).id∧(stAt e i).state=1
 data:∀f ∈ fs,f.kind=0→∀i,i < e.strs.length→f.stream=(stAt e i).id→f.body=((stAt e i).say.drop (stAt e i).sent.toNat).take f.body.length∧(stAt x i).sent=(stAt e i).sent+f.body.length∧f.last=decide ((stAt e i).sent+f.body.length=(stAt e i).say.length)∧(stAt e i).sent+f.body.length≤(stAt e i).say.length
 own:∀i,i < e.strs.length→(stAt x i).sent=(stAt e i).sent+(dat (stAt e i).id fs:Nat)∧(stAt x i).send=(stAt e i).send - (dat (stAt e i).id fs:Nat)∧0≤(stAt x i).send
 all:x.send=e.send - (dat 0 fs:Nat)
 low:0≤x.send
theorem EnW.inj {N:Nat} {e:En} (h:EnW N e) {i j:Nat} (hi:i < e.strs.length) (hj:j < e.strs.length) (hij:(stAt e i).id=(stAt e j).id):i=j:=by
 rcases Nat.lt_trichotomy i j with z | z | z
 ·have:=h.ids z hj; omega
 ·exact z
 ·have:=h.ids z hi; omega
theorem saysM_s {N:Nat}:∀(n k:Nat) (e:En),EnW N e→k+n≤e.strs.length→(∀i,i < e.strs.length→(stAt e i).head.length≤3)→SaysS e k n (saysM n k e).1 (saysF n k e)
 | 0,k,e,hW,_,_=>⟨rfl,rfl,fun _ _=>rfl,fun _=>rfl,fun _=>rfl,by simp [saysF],by simp [saysF],by simp [saysF],fun i hi=>⟨by simp [saysF,saysM,dat],by simp [saysF,saysM,dat],(flowOk_iff.1 (stOk_iff.1 (hW.st hi)).2.2.2.2.2.2.2).1⟩,by simp [saysF,saysM,dat],(flowOk_iff.1 hW.flow).1⟩
 | n+1,k,e,hW,hk,hh=>by
  have hkl:k < e.strs.length:=by omega
  obtain ⟨r1,r2⟩:=sayM_w hW hkl
  have s:=sayM_s hW hkl (hh k hkl)
  have hid:∀i,(stAt (sayM e k).1 i).id=(stAt e i).id:=fun i=>by
   by_cases q:i=k
   ·rw [q]; exact s.id
   ·rw [s.other i q]
  have hst:∀i,i≠k→stAt (sayM e k).1 i=stAt e i:=s.other
  have t:=saysM_s n (k+1) (sayM e k).1 r1 (by omega) (fun i hi=>by
   by_cases q:i=k
   ·rw [q,s.head]; exact hh k hkl
   ·rw [s.other i q]; exact hh i (by omega))
  have hx:(saysM (n+1) k e).1=(saysM n (k+1) (sayM e k).1).1:=rfl
  have hf:saysF (n+1) k e=sayF e k++saysF n (k+1) (sayM e k).1:=rfl
  rw [hx,hf]
  generalize (saysM n (k+1) (sayM e k).1).1=x at *
  generalize saysF n (k+1) (sayM e k).1=gs at *
  generalize (sayM e k).1=e1 at *
  generalize sayF e k=fs at *
  have hid0:∀i,i < e.strs.length→(stAt e i).id≠0:=fun i hi=>strm_pos (stOk_iff.1 (hW.st hi)).1
  have hgs:∀i,i < e.strs.length→i < k+1→dat (stAt e i).id gs=0:=fun i hi hik=>dat_off (hid0 i hi) (fun f hfm q=>by
   obtain ⟨j,j1,j2,j3,_⟩:=t.of f hfm
   rw [hid] at j3
   have:=hW.inj hi (by omega) (q.symm.trans j3)
   omega)
  have hfs:∀i,i < e.strs.length→i≠k→dat (stAt e i).id fs=0:=fun i hi hik=>dat_off (hid0 i hi) (fun f hfm q=>by
   rw [s.stream f hfm] at q
   exact hik (hW.inj hi hkl q.symm))
  have hfk:dat (stAt e k).id fs=dat 0 fs:=dat_one (hid0 k hkl) s.stream
  refine ⟨t.wait.trans s.wait,t.len.trans s.len,fun i hi=>?_,fun i=>(t.id i).trans (hid i),fun i=>?_,fun f hfm=>?_,fun f hfm=>?_,fun f hfm hk0 i hi hfi=>?_,fun i hi=>?_,?_,t.low⟩
  ·rw [t.out i (by omega),s.other i (by omega)]
  ·rw [t.say]
   by_cases q:i=k
   ·rw [q,s.say]
   ·rw [s.other i q]
  ·rcases List.mem_append.1 hfm with z | z
   ·exact ⟨s.ok f z,s.kinds f z⟩
   ·exact t.ok f z
  ·rcases List.mem_append.1 hfm with z | z
   ·refine ⟨k,Nat.le_refl _,by omega,s.stream f z,?_⟩
    by_cases q:(stAt e k).state=1
    ·exact q
    ·rw [s.gone q] at z; cases z
   ·obtain ⟨j,j1,j2,j3,j4⟩:=t.of f z
    rw [hst j (by omega)] at j3 j4
    exact ⟨j,by omega,by omega,j3,j4⟩
  ·rcases List.mem_append.1 hfm with z | z
   ·have:i=k:=hW.inj hi hkl (hfi.symm.trans (s.stream f z))
    subst this
    obtain ⟨d1,d2,d3,d4⟩:=s.data f z hk0
    refine ⟨d1,?_,d3,?_⟩
    ·rw [t.out i (by omega)]; exact d2
    ·have:=s.low.2.2; rw [d2,s.say] at this; exact this
   ·obtain ⟨j,j1,j2,j3,j4⟩:=t.of f z
    have hji:i=j:=hW.inj hi (by omega) (hfi.symm.trans (j3.trans (hid j)))
    have:=t.data f z hk0 i (by rw [s.len]; exact hi) (by rw [hid]; exact hfi)
    rw [hst i (by omega)] at this
    exact this
  ·have ti:=t.own i (by rw [s.len]; exact hi)
   rw [hid] at ti
   by_cases q:i=k
   ·subst q
    rw [dat_app,hfk,hgs i hi (by omega)]
    rw [hgs i hi (by omega)] at ti
    have e1':=s.sent; have e2':=s.send
    refine ⟨by rw [ti.1,e1']; omega,by rw [ti.2.1,e2']; omega,ti.2.2⟩
   ·rw [dat_app,hfs i hi q]
    rw [hst i q] at ti
    exact ⟨by rw [ti.1]; omega,by rw [ti.2.1]; omega,ti.2.2⟩
  ·rw [dat_app,t.all,s.all]; omega
structure WrS (e x:En) (fs:List Fr):Prop where
 bytes:(writeM e).2=bytes (e.wait++fs)
 wait:x.wait=[]
 len:x.strs.length=e.strs.length
 ok:∀f ∈ fs,frameOk f=true∧(f.kind=0∨f.kind=1)
 of:∀f ∈ fs,∃i,i < e.strs.length∧f.stream=(stAt e i).id∧(stAt e i).state=1
 data:∀f ∈ fs,f.kind=0→∀i,i < e.strs.length→f.stream=(stAt e i).id→f.body=((stAt e i).say.drop (stAt e i).sent.toNat).take f.body.length∧(stAt x i).sent=(stAt e i).sent+f.body.length∧f.last=decide ((stAt e i).sent+f.body.length=(stAt e i).say.length)∧(stAt e i).sent+f.body.length≤(stAt e i).say.length
 own:∀i,i < e.strs.length→((dat (stAt e i).id fs:Nat):Int)≤(stAt e i).send
 all:x.send=e.send - (dat 0 fs:Nat)
 low:0≤x.send
theorem roomM_at (e:En) (f:Fr) (i:Nat):∃r,stAt (roomM e f) i=(stAt e i).withRoom r:=by
 unfold roomM
 split
 ·exact ⟨(stAt e i).room,rfl⟩
 ·split
  ·exact ⟨(stAt e i).room,rfl⟩
  ·split
   ·exact ⟨(stAt e i).room,rfl⟩
   ·rename_i k hk
    by_cases q:i=k
    ·subst q; rw [stAt_set (atM_some hk).1]; exact ⟨_,rfl⟩
    ·refine ⟨(stAt e i).room,?_⟩
     show (e.strs.set k _).getD i st0=_
     rw [getD_set st0 _ (atM_some hk).1,if_neg q]; rfl
theorem roomM_send (e:En) (f:Fr):(roomM e f).send=e.send:=by
 unfold roomM; split
 ·rfl
 ·split
  ·rfl
  ·split <;> rfl
theorem waitM_at:∀(l:List Fr) (e:En) (i:Nat),∃r,stAt (waitM e l).1 i=(stAt e i).withRoom r
 | [],e,i=>⟨(stAt e i).room,rfl⟩
 | f :: l,e,i=>by
  obtain ⟨r,h⟩:=roomM_at e f i
  obtain ⟨r',h'⟩:=waitM_at l (roomM e f) i
  exact ⟨r',by rw [show (waitM e (f :: l)).1=(waitM (roomM e f) l).1 from rfl,h',h]; rfl⟩
theorem waitM_send:∀(l:List Fr) (e:En),(waitM e l).1.send=e.send
 | [],e=>rfl
 | f :: l,e=>(waitM_send l _).trans (roomM_send e f)
theorem writeM_s {N:Nat} {e:En} (h:EnW N e) (hh:∀i,i < e.strs.length→(stAt e i).head.length≤3):WrS e (writeM e).1 (newF e):=by
 obtain ⟨w1,w2,w3⟩:=waitM_w e.wait e h
 have hat:∀i,∃r,stAt { (waitM e e.wait).1 with wait:=[] } i=(stAt e i).withRoom r:=fun i=>waitM_at e.wait e i
 have hs:=saysM_s e.strs.length 0 { (waitM e e.wait).1 with wait:=[] } w1.noWait (by simp [w2]) (fun i hi=>by
  obtain ⟨r,q⟩:=hat i
  rw [q]; exact hh i (by simpa [w2] using hi))
 have hsend:({ (waitM e e.wait).1 with wait:=[] }:En).send=e.send:=waitM_send e.wait e
 have hlen:({ (waitM e e.wait).1 with wait:=[] }:En).strs.length=e.strs.length:=w2
 have hx:(writeM e).1=(saysM e.strs.length 0 { (waitM e e.wait).1 with wait:=[] }).1:=rfl
 have hn:newF e=saysF e.strs.length 0 { (waitM e e.wait).1 with wait:=[] }:=rfl
 have hb:=writeM_bytes h
 rw [hx]
 rw [hn] at hb ⊢
 refine ⟨hb,hs.wait,hs.len.trans hlen,hs.ok,fun f hf=>?_,fun f hf hk i hi hfi=>?_,fun i hi=>?_,by rw [hs.all,hsend],hs.low⟩
 ·obtain ⟨i,i1,i2,i3,i4⟩:=hs.of f hf
  obtain ⟨r,q⟩:=hat i
  rw [q] at i3 i4
  exact ⟨i,by omega,i3,i4⟩
 ·obtain ⟨r,q⟩:=hat i
  have:=hs.data f hf hk i (by omega) (by rw [q]; exact hfi)
  rw [q] at this
  exact this
 ·obtain ⟨r,q⟩:=hat i
  have:=hs.own i (by omega)
  rw [q] at this
  have h1:(stAt (saysM e.strs.length 0 { (waitM e e.wait).1 with wait:=[] }).1 i).send=(stAt e i).send - _:=this.2.1
  have h2:=this.2.2
  rw [h1] at h2
  have h3:0≤(stAt e i).send - ((dat (stAt e i).id (saysF e.strs.length 0 { (waitM e e.wait).1 with wait:=[] }):Nat):Int):=h2
  omega
end
section
def texts:List St→Nat
 | []=>0
 | s :: l=>s.text.length+texts l
def more1:List Fr→Nat
 | []=>0
 | f :: l=>(if f.stream=0 then 0 else byteAt f.body 0)+more1 l
theorem more1_app:∀l k:List Fr,more1 (l++k)=more1 l+more1 k
 | [],k=>by simp [more1]
 | f :: l,k=>by simp only [List.cons_append,more1,more1_app l k]; omega
structure HeardR (e x:En) (w:List Fr) (n:Nat):Prop where
 wait:x.wait=e.wait++w
 kinds:∀f ∈ w,f.kind=8∧0 < f.body.length
 all:more0 w=n
 own:more1 w=n
 room:x.room=e.room - n
 text:texts x.strs=texts e.strs+n
theorem HeardR.none {e x:En} (h1:x.wait=e.wait) (h2:x.room=e.room) (h3:texts x.strs=texts e.strs):HeardR e x [] 0 :=
 ⟨by simp [h1],by simp,rfl,rfl,by simp [h2],by simp [h3]⟩
theorem HeardR.trans {e x y:En} {w v:List Fr} {n m:Nat} (h:HeardR e x w n) (k:HeardR x y v m):HeardR e y (w++v) (n+m) :=
 ⟨by rw [k.wait,h.wait,List.append_assoc],fun f hf=>by rcases List.mem_append.1 hf with z | z; exact h.kinds f z; exact k.kinds f z,
  by rw [more0_app,h.all,k.all],by rw [more1_app,h.own,k.own],by rw [k.room,h.room]; omega,by rw [k.text,h.text]; omega⟩
def HL (e:En):Prop:=∀s ∈ e.strs,s.head.length≤3
theorem HL.at_ {e:En} (h:HL e) {i:Nat} (hi:i < e.strs.length):(stAt e i).head.length≤3:=by
 rw [stAt,getD_lt st0 hi]; exact h _ (List.getElem_mem hi)
theorem HL.set {e:En} (h:HL e) {k:Nat} {s:St} (hs:s.head.length≤3):HL (setSt e k s):=fun t ht=>by
 rcases List.mem_or_eq_of_mem_set ht with z | z
 ·exact h t z
 ·rw [z]; exact hs
theorem doneM_hl (ans:Bool) {s:St} (h:s.head.length≤3):(doneM ans s).head.length≤3:=by
 unfold doneM; split
 ·exact h
 ·split
  ·simp [askM]
  ·exact h
theorem frameM_hl {e:En} (h:HL e) (f:Fr):HL (frameM e f):=by
 have hg:HL (growM e f.stream):=by
  unfold growM; split
  ·intro s hs
   rcases List.mem_append.1 hs with z | z
   ·exact h s z
   ·rw [List.mem_singleton.1 z]; simp [newSt]
  ·exact h
 unfold frameM
 split
 ·unfold headFM
  simp only
  split
  ·rename_i t hd k hr hk
   split
   ·exact hg
   ·refine HL.set (e:={ growM e f.stream with inn:=t }) hg ?_
    have:=hg.at_ (atM_some hk).1
    split
    ·exact doneM_hl _ this
    ·exact this
  ·exact hg
 ·split
  ·unfold dataM
   split
   ·exact h
   ·rename_i k hk
    simp only
    split
    ·exact h
    ·refine HL.set (e:={ e with room:=_,wait:=_ }) h ?_
     have:=h.at_ (atM_some hk).1
     split
     ·exact doneM_hl _ this
     ·exact this
  ·split
   ·unfold moreM
    split
    ·exact h
    ·split
     ·exact h
     ·rename_i k hk
      exact HL.set (e:={ e with bad:=_ }) h (h.at_ (atM_some hk).1)
   ·split
    ·exact h
    ·rename_i k hk
     split
     ·exact h
     ·exact HL.set h (h.at_ (atM_some hk).1)
theorem hearsM_hl:∀(n:Nat) (e:En),HL e→HL (hearsM n e)
 | 0,e,h=>h
 | n+1,e,h=>by
  unfold hearsM
  split
  ·exact h
  ·simp only
   split
   ·exact h
   ·split
    ·exact h
    ·exact hearsM_hl n _ (frameM_hl (e:={ e with came:=e.came.drop (frR e.came).2.1 }) h _)
theorem hearWM_hl {e:En} (h:HL e) (b:List UInt8):HL (hearWM e b):=by
 unfold hearWM
 split
 ·exact h
 ·exact hearsM_hl _ { e with came:=e.came++b } h
theorem Sid0.hl {e:En} (h:Sid0 e):HL e:=fun s hs=>by
 obtain ⟨k,hk,rfl⟩:=List.getElem_of_mem hs
 have:=head_short h hk
 rwa [stAt,getD_lt st0 hk] at this
end
section
theorem Drawn.hl {w:Wo} (h:Drawn w):HL w.caller∧HL w.answerer:=by
 obtain ⟨l,_,_,hs⟩:=h
 have h:=playM_pl l
 generalize playM l=x at *
 obtain ⟨fu,fd,hy⟩:=h.syn
 have h1:=hy.j.C.hl
 have h2:=hy.j.A.hl
 cases hs with
 | none=>exact ⟨h1,h2⟩
 | ans=>exact ⟨h1,h2⟩
 | up o ho=>exact ⟨h1,h2⟩
 | table t m _ _=>exact ⟨h1,h2⟩
 | id k _ hl _ =>
  refine ⟨fun s hs=>?_,h2⟩
  rcases List.mem_or_eq_of_mem_set hs with z | z
  ·exact h1 s z
  ·rw [z]
   show (x.caller.strs.getD 0 st0).head.length≤3
   match q:x.caller.strs with
   | []=>simp [st0]
   | y :: ys=>exact h1 y (by rw [q]; simp)
theorem DrawnE.hl {e:En} {wire:List UInt8} (h:DrawnE e wire):HL e:=by
 obtain ⟨w,hw,⟨rfl,_⟩ | ⟨rfl,_⟩⟩:=h
 ·exact hw.hl.1
 ·exact hw.hl.2
structure EnL (e:En):Prop where
 w:EnW 36 e
 loc:Loc e
 inc:Inc e
 hl:HL e
theorem DrawnE.l {e:En} {wire:List UInt8} (h:DrawnE e wire) (hok:endOk e=true):EnL e:=by
 obtain ⟨h1,h2⟩:=h.loc
 exact ⟨h1.w (endOk_iff.1 hok),h1,h2,h.hl⟩
theorem EnL.hear {e:En} (h:EnL e) (b:List UInt8):EnL (hearWM e b):=by
 have h1:=hearWM_loc h.w h.loc b
 exact ⟨h1.w (hearWM_w (h.w.mono (show 36≤642 by decide)) (Nat.le_refl _) b).1,h1,hearWM_inc h.inc b,hearWM_hl h.hl b⟩
theorem EnL.ok {e:En} (h:EnL e):endOk e=true:=endOk_iff.2 (h.w.mono (by decide))
end
section
open Go
theorem WoDr.newW {S:List Blk} {b:Nat} {bs:List UInt8} {P:Nat} {w:Wo} {b1 c1 d1 f1:Nat} {S':List Blk} (h:WoDr S b bs P w b1 c1 d1 f1 S') (hb:S.length≤b):WoNew S w b1 c1 d1 f1 S' :=
 ⟨h.at_,h.hb,h.hc,h.hd,h.hf,(Upd.refl [] S).then_ h.upd (fun j hj hm=>by simp at hm; omega)⟩
theorem en0_bE:EnB en0:=⟨by simp [en0],by simp [en0],by simp [en0],⟨by simp [en0],by simp [en0]⟩,⟨by simp [en0],by simp [en0]⟩,by simp [en0]⟩
structure DrW (e:En):Prop where
 b:EnB e
 hl:HL e
theorem DrawnE.w {e:En} {wire:List UInt8} (h:DrawnE e wire):DrW e:=⟨h.b.1,h.hl⟩
theorem Drawn.w2 {w:Wo} (h:Drawn w):((∃wire,DrawnE w.caller wire)∧w.caller.strs.length≤4)∧((∃wire,DrawnE w.answerer wire)∧w.answerer.strs.length≤4):=by
 refine ⟨⟨⟨_,w,h,.inl ⟨rfl,rfl⟩⟩,?_⟩,⟨_,w,h,.inr ⟨rfl,rfl⟩⟩,?_⟩
 ·obtain ⟨l,_,_,hs⟩:=h
  have hP:=(playM_pl l).all.1.caller.sts
  generalize playM l=x at *
  have:=stsOk_len hP
  cases hs with
  | none=>exact this
  | ans=>exact this
  | up o ho=>exact this
  | table t m _ _=>exact this
  | id k _ hl _=>simpa using this
 ·obtain ⟨l,_,_,hs⟩:=h
  have hP:=(playM_pl l).all.1.answerer.sts
  generalize playM l=x at *
  have:=stsOk_len hP
  cases hs with
  | none=>exact this
  | ans=>exact this
  | up o ho=>exact this
  | table t m _ _=>exact this
  | id k _ hl _=>exact this
theorem DrawEndCall_ok (code:List UInt8) (hc:code.length≤1073741824) (S:List Blk) :
  VCall Tryz.prog 5 [.rows none (code.map u8V)] S fun r S'=>∃(e:En) (path text:List UInt8) (b1 c1:Nat),(∃wire,DrawnE e wire)∧path.length≤100∧text.length≤100∧r=.tup [eV b1 c1 e,.str path,.str text]∧EnNew S e b1 c1 S':=by
 refine VCall.ex hDe (fun _=>false) (fun id=>if id=7 then [5,2,4,4,5,8,8,8] else if id=8 then [5,2,4,4,5,8,8,8] else []) Tryz.func5 Tryz.ntmps5 Tryz.results5 ?_
 simp -implicitDefEqProofs (disch:=omega) only [push_cast,simprocAttr,↓gd]
 refine (l6Open_ok code hc _).to ?_
 simp -implicitDefEqProofs (disch:=omega) only [push_cast,simprocAttr,↓gd]
 generalize hbs:code.take 2000=bs
 have hbl:bs.length≤2000:=by rw [←hbs,List.length_take]; omega
 refine (l72World_ok bs (S.length+1) 0 (by omega) hbl _ (by simp -implicitDefEqProofs (disch:=omega) only [push_cast,simprocAttr,↓gd])).mono ?_
 rintro r S1 ⟨w,P,b1,c1,d1,f1,hw,rfl,hP,hdr⟩
 have k0:S1[S.length]?=some (.cells 0 zE):=hdr.upd.get (by simp -implicitDefEqProofs (disch:=omega) only [push_cast,simprocAttr,↓gd]) (by simp)
 have hdr:WoDr S (S.length+1) bs P w b1 c1 d1 f1 S1:=hdr.mk'
 have kr:=hdr.rd
 have lr:=lt_of_some kr
 have l0:=lt_of_some k0
 have v0:=hdr.at_.var k0
 have hB:=hw.b
 have lu:=hdr.upd.1
 simp -implicitDefEqProofs (disch:=omega) only [push_cast,simprocAttr,↓gd]
 refine (pickI bs (S.length+1) P 10 _ (by simp) (by omega) (by omega) hbl _ (by rw [List.getElem?_append_left lr]; exact kr)).mono ?_
 rintro r S2 ⟨⟨q,hq,rfl⟩,rfl⟩
 obtain ⟨hw1,hw2⟩:=hw.w2
 obtain ⟨vb,vc,vd,vf⟩:=id v0
 have hnew:∀(Q:Nat) (B:Blk) (X:List Blk),WoNew S w b1 c1 d1 f1 ((S1.set (S.length+1) (Rd bs Q)).set S.length B++X):=fun Q B X=>(((hdr.draw Q).set (j:=S.length) B (Nat.le_refl _) v0 (by omega)).app X).newW (by omega)
 have hS2b:∀B X,(S1.set (S.length+1) B++X)[S.length+1]?=some B:=fun B X=>stC lr _ _
 have fin1:∀(p t:List UInt8) (Q:Nat) (X:List Blk),p.length≤100→t.length≤100→∃r S2,Wk S (.tup [eV b1 c1 w.caller,.str p,.str t]) ((S1.set (S.length+1) (Rd bs Q)).set S.length (.cells 0 (enC (.heap b1 w.caller.strs.length) (.heap c1 w.caller.wait.length) w.caller))++X) r S2∧∃(e:En) (path text:List UInt8) (b1 c1:Nat),(∃wire,DrawnE e wire)∧path.length≤100∧text.length≤100∧r=.tup [eV b1 c1 e,.str path,.str text]∧EnNew S e b1 c1 S2 :=
  fun p t Q X h1 h2=>⟨_,_,Wk.refl _ _ _,w.caller,p,t,b1,c1,hw1.1,h1,h2,rfl,by have hN:=hnew Q (.cells 0 (enC (.heap b1 w.caller.strs.length) (.heap c1 w.caller.wait.length) w.caller)) X; exact ⟨hN.at_.caller,hN.hb,hN.hc,hN.upd⟩⟩
 have fin2:∀(p t:List UInt8) (Q:Nat) (X:List Blk),p.length≤100→t.length≤100→∃r S2,Wk S (.tup [eV d1 f1 w.answerer,.str p,.str t]) ((S1.set (S.length+1) (Rd bs Q)).set S.length (.cells 0 (enC (.heap d1 w.answerer.strs.length) (.heap f1 w.answerer.wait.length) w.answerer))++X) r S2∧∃(e:En) (path text:List UInt8) (b1 c1:Nat),(∃wire,DrawnE e wire)∧path.length≤100∧text.length≤100∧r=.tup [eV b1 c1 e,.str path,.str text]∧EnNew S e b1 c1 S2 :=
  fun p t Q X h1 h2=>⟨_,_,Wk.refl _ _ _,w.answerer,p,t,d1,f1,hw2.1,h1,h2,rfl,by have hN:=hnew Q (.cells 0 (enC (.heap d1 w.answerer.strs.length) (.heap f1 w.answerer.wait.length) w.answerer)) X; exact ⟨hN.at_.answerer,hN.hd,hN.hf,hN.upd⟩⟩
 by_cases q0:q=0
 ·subst q0
  simp -implicitDefEqProofs (disch:=omega) only [push_cast,simprocAttr,stA lr,stB lr,↓gd]
  refine (pickI bs (S.length+1) (P+1) 12 _ (by simp) (by omega) (by omega) hbl _ (hS2b _ _)).mono ?_
  rintro r S2 ⟨⟨k,hk,rfl⟩,rfl⟩
  by_cases k0':k=0
  ·subst k0'
   simp -implicitDefEqProofs (disch:=omega) only [push_cast,simprocAttr,stA lr,stB lr,↓gd]
   refine (l71Word_ok bs (S.length+1) (P+1+1) (by omega) hbl _ (hS2b _ _)).mono ?_
   rintro r S2 ⟨⟨s1,hs1,rfl⟩,P2,hP2,rfl⟩
   simp -implicitDefEqProofs (disch:=omega) only [push_cast,simprocAttr,stA lr,stB lr,↓gd]
   refine (l71Word_ok bs (S.length+1) P2 (by omega) hbl _ (hS2b _ _)).mono ?_
   rintro r S2 ⟨⟨s2,hs2,rfl⟩,P3,hP3,rfl⟩
   simp -implicitDefEqProofs (disch:=omega) only [push_cast,simprocAttr,stA lr,stB lr,k0,↓gd]
   exact fin2 s1 s2 P3 _ hs1 hs2
  ·have k0'':¬(k:Int)=0:=by omega
   simp -implicitDefEqProofs (disch:=omega) only [push_cast,simprocAttr,stA lr,stB lr,k0'',↓gd]
   refine (l72Path_ok bs (S.length+1) (P+1+1) (by omega) hbl _ (hS2b _ _)).mono ?_
   rintro r S2 ⟨⟨s1,hs1,rfl⟩,rfl⟩
   simp -implicitDefEqProofs (disch:=omega) only [push_cast,simprocAttr,stA lr,stB lr,↓gd]
   refine (l72Text_ok bs (S.length+1) (P+1+1+1) (by omega) hbl _ (hS2b _ _)).mono ?_
   rintro r S2 ⟨⟨s2,hs2,rfl⟩,P3,hP3,rfl⟩
   simp -implicitDefEqProofs (disch:=omega) only [push_cast,simprocAttr,stA lr,stB lr,k0,↓gd]
   exact fin2 s1 s2 P3 _ (by omega) (by omega)
 ·have q0':¬(q:Int)=0:=by omega
  simp -implicitDefEqProofs (disch:=omega) only [push_cast,simprocAttr,stA lr,stB lr,q0',↓gd]
  refine (pickI bs (S.length+1) (P+1) 12 _ (by simp) (by omega) (by omega) hbl _ (hS2b _ _)).mono ?_
  rintro r S2 ⟨⟨k,hk,rfl⟩,rfl⟩
  by_cases k0':k=0
  ·subst k0'
   simp -implicitDefEqProofs (disch:=omega) only [push_cast,simprocAttr,stA lr,stB lr,q0',↓gd]
   refine (l71Word_ok bs (S.length+1) (P+1+1) (by omega) hbl _ (hS2b _ _)).mono ?_
   rintro r S2 ⟨⟨s1,hs1,rfl⟩,P2,hP2,rfl⟩
   simp -implicitDefEqProofs (disch:=omega) only [push_cast,simprocAttr,stA lr,stB lr,q0',↓gd]
   refine (l71Word_ok bs (S.length+1) P2 (by omega) hbl _ (hS2b _ _)).mono ?_
   rintro r S2 ⟨⟨s2,hs2,rfl⟩,P3,hP3,rfl⟩
   simp -implicitDefEqProofs (disch:=omega) only [push_cast,simprocAttr,stA lr,stB lr,k0,q0',↓gd]
   exact fin1 s1 s2 P3 _ hs1 hs2
  ·have k0'':¬(k:Int)=0:=by omega
   simp -implicitDefEqProofs (disch:=omega) only [push_cast,simprocAttr,stA lr,stB lr,k0'',q0',↓gd]
   refine (l72Path_ok bs (S.length+1) (P+1+1) (by omega) hbl _ (hS2b _ _)).mono ?_
   rintro r S2 ⟨⟨s1,hs1,rfl⟩,rfl⟩
   simp -implicitDefEqProofs (disch:=omega) only [push_cast,simprocAttr,stA lr,stB lr,q0',↓gd]
   refine (l72Text_ok bs (S.length+1) (P+1+1+1) (by omega) hbl _ (hS2b _ _)).mono ?_
   rintro r S2 ⟨⟨s2,hs2,rfl⟩,P3,hP3,rfl⟩
   simp -implicitDefEqProofs (disch:=omega) only [push_cast,simprocAttr,stA lr,stB lr,k0,q0',↓gd]
   exact fin1 s1 s2 P3 _ (by omega) (by omega)
end
section
open Go
theorem three {a b c:Int} {x:Nat} (h:x < 3):∃z:Int,[V.int .i64 a,V.int .i64 b,V.int .i64 c].getD x .junk=.int .i64 z:=by
 rcases (by omega:x=0∨x=1∨x=2) with rfl | rfl | rfl <;> exact ⟨_,rfl⟩
end
end Go.Proofs.YtdplmibomopkcaaGreatDoor
