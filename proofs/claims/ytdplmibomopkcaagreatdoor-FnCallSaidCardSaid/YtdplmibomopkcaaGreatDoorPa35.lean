/- A part of the proof: contracts of functions, or plain facts on which these lean. -/
import Derived.Test.YtdplmibomopkcaaGreatDoorPa33
namespace Go.Proofs.YtdplmibomopkcaaGreatDoor
open Go
set_option linter.unusedVariables false
set_option linter.unusedSimpArgs false
set_option maxRecDepth 100000
set_option maxHeartbeats 16000000

section
theorem atM_map (l:List St) (i:Int):atM l i=(l.map St.id).findIdx? (fun x=>decide (x=i)):=by
 rw [atM,List.findIdx?_map]; rfl
theorem atM_eq {l k:List St} (h:l.map St.id=k.map St.id) (i:Int):atM l i=atM k i:=by rw [atM_map,atM_map,h]
theorem map_set {l:List St} {k:Nat} {s:St} (hid:s.id=(l.getD k st0).id):(l.set k s).map St.id=l.map St.id:=by
 refine List.ext_getElem (by simp) (fun i h1 h2=>?_)
 simp only [List.getElem_map,List.getElem_set]
 split
 ·rename_i e
  subst e
  rw [hid,getD_lt st0 (by simpa using h2)]
 ·rfl
theorem atM_snoc (l:List St) (s:St) (i:Int):atM (l++[s]) i=match atM l i with | some k=>some k | none=>if s.id=i then some l.length else none:=by
 unfold atM
 rw [List.findIdx?_append]
 cases h:List.findIdx? (fun s=>decide (s.id=i)) l with
 | some k=>simp
 | none =>
  by_cases e:s.id=i
  ·simp [List.findIdx?_cons,e]
  ·simp [List.findIdx?_cons,e]
def stOf (e:En) (i:Int):St:=match atM e.strs i with
 | some k=>stAt e k
 | none=>newSt i
def Has (e:En) (i:Int):Prop:=∃k,atM e.strs i=some k
theorem stOf_some {e:En} {i:Int} {k:Nat} (h:atM e.strs i=some k):stOf e i=stAt e k:=by rw [stOf,h]
theorem stOf_none {e:En} {i:Int} (h:¬Has e i):stOf e i=newSt i:=by
 rw [stOf]
 cases q:atM e.strs i with
 | none=>rfl
 | some k=>exact absurd ⟨k,q⟩ h
theorem stOf_id (e:En) (i:Int):(stOf e i).id=i:=by
 rw [stOf]
 cases q:atM e.strs i with
 | none=>rfl
 | some k=>exact (atM_some q).2
theorem Has.of_eq {e x:En} (h:x.strs.map St.id=e.strs.map St.id) {i:Int}:Has x i↔Has e i:=by unfold Has; rw [atM_eq h]
theorem Has.at_ {e:En} {k:Nat} (hk:k < e.strs.length):Has e (stAt e k).id:=by
 unfold Has atM
 cases h:List.findIdx? (fun s=>decide (s.id=(stAt e k).id)) e.strs with
 | some k=>exact ⟨k,rfl⟩
 | none =>
  have:=List.findIdx?_eq_none_iff.1 h (e.strs[k]) (List.getElem_mem hk)
  simp [stAt,List.getD,List.getElem?_eq_getElem hk] at this
theorem setSt_view {e:En} {k:Nat} {s:St} {i:Int} (h:atM e.strs i=some k) (hid:s.id=i) :
  (∀j,stOf (setSt e k s) j=if j=i then s else stOf e j)∧(setSt e k s).strs.map St.id=e.strs.map St.id:=by
 obtain ⟨h1,h2⟩:=atM_some h
 have hm:(setSt e k s).strs.map St.id=e.strs.map St.id:=map_set (by rw [hid,h2])
 refine ⟨fun j=>?_,hm⟩
 have ha:=atM_eq hm j
 rw [stOf,ha]
 by_cases e1:j=i
 ·subst e1
  rw [h,if_pos rfl]
  show (e.strs.set k s).getD k st0=s
  rw [getD_set st0 s h1,if_pos rfl]
 ·rw [if_neg e1,stOf]
  cases q:atM e.strs j with
  | none=>rfl
  | some n =>
   show (e.strs.set k s).getD n st0=e.strs.getD n st0
   rw [getD_set st0 s h1,if_neg]
   rintro rfl
   exact e1 ((atM_some q).2.symm.trans h2)
theorem app_view {e:En} {i:Int} (s:St) (hid:s.id=i) (h:¬Has e i) :
  ∀j,stOf { e with strs:=e.strs++[s] } j=if j=i then s else stOf e j:=by
 intro j
 rw [stOf]
 show (match atM (e.strs++[s]) j with | some k=>(e.strs++[s]).getD k st0 | none=>newSt j)=_
 rw [atM_snoc]
 by_cases e1:j=i
 ·subst e1
  have:atM e.strs j=none:=by
   cases q:atM e.strs j with
   | none=>rfl
   | some k=>exact absurd ⟨k,q⟩ h
  rw [this,if_pos rfl]
  simp only [hid,if_true]
  rw [getD_app,if_neg (by omega),if_pos rfl]
 ·rw [if_neg e1,stOf]
  cases q:atM e.strs j with
  | none=>simp only; rw [if_neg (by rw [hid]; exact fun z=>e1 z.symm)]
  | some n =>
   simp only
   rw [getD_app,if_pos (atM_some q).1]
   rfl
structure Rv where
 g:Bool
 t:List UInt8
 h:Bool
def adv (i:Int) (r:Rv) (f:Fr):Option Rv :=
 if f.stream≠i then some r
 else if f.kind=1 then (if r.h=false∧r.g=false∧r.t=[] then some ⟨true,r.t,f.last⟩ else none)
 else if f.kind=0 then (if r.h=false∧r.g=true then some ⟨true,r.t++f.body,f.last⟩ else none)
 else if f.kind=3 then (if r.g=true then some r else none)
 else some r
def run (i:Int):Rv→List Fr→Option Rv
 | r,[]=>some r
 | r,f :: l=>(adv i r f).bind fun x=>run i x l
theorem run_app (i:Int):∀(l k:List Fr) (r:Rv),run i r (l++k)=(run i r l).bind fun x=>run i x k
 | [],k,r=>rfl
 | f :: l,k,r=>by
  simp only [List.cons_append,run]
  cases adv i r f with
  | none=>rfl
  | some x=>exact run_app i l k x
theorem run_one (i:Int) (r:Rv) (f:Fr):run i r [f]=adv i r f:=by
 simp only [run]; cases adv i r f <;> rfl
theorem run_snoc {i:Int} {l:List Fr} {f:Fr} {r x:Rv} (h:run i r l=some x):run i r (l++[f])=adv i x f:=by
 rw [run_app,h]; exact run_one i x f
theorem adv_keeps {i:Int} {r x:Rv} {f:Fr} (h:adv i r f=some x):(r.g=true→x.g=true)∧(r.h=true→x=r)∧(∃u,x.t=r.t++u)∧(f.stream=i→f.kind=0∨f.kind=1∨f.kind=3→x.g=true)∧(x.h=true→r.h=true∨x.g=true):=by
 unfold adv at h
 split at h
 ·rename_i h0
  cases h
  exact ⟨id,fun _=>rfl,⟨[],by simp⟩,fun q=>absurd q h0,Or.inl⟩
 ·rename_i h0
  split at h
  ·split at h
   ·rename_i h1 h2
    cases h
    exact ⟨fun _=>rfl,fun q=>(by rw [h2.1] at q; cases q),⟨[],by simp⟩,fun _ _=>rfl,fun _=>.inr rfl⟩
   ·cases h
  ·split at h
   ·split at h
    ·rename_i h1 h2 h3
     cases h
     exact ⟨fun _=>rfl,fun q=>(by rw [h3.1] at q; cases q),⟨_,rfl⟩,fun _ _=>rfl,fun _=>.inr rfl⟩
    ·cases h
   ·split at h
    ·split at h
     ·rename_i h1 h2 h3 h4
      cases h
      exact ⟨id,fun _=>rfl,⟨[],by simp⟩,fun _ _=>h4,Or.inl⟩
     ·cases h
    ·rename_i h1 h2 h3
     cases h
     exact ⟨id,fun _=>rfl,⟨[],by simp⟩,fun _ q=>(by rcases q with q | q | q; exact absurd q h2; exact absurd q h1; exact absurd q h3),Or.inl⟩
theorem run_keeps {i:Int}:∀{l:List Fr} {r x:Rv},run i r l=some x→(r.g=true→x.g=true)∧(r.h=true→x=r)∧(∃u,x.t=r.t++u)∧(∀f ∈ l,f.stream=i→f.kind=0∨f.kind=1∨f.kind=3→x.g=true)∧(x.h=true→r.h=true∨x.g=true)
 | [],r,x,h=>by
  cases h
  exact ⟨id,fun _=>rfl,⟨[],by simp⟩,fun f hf=>absurd hf (by simp),Or.inl⟩
 | f :: l,r,x,h=>by
  simp only [run] at h
  cases hy:adv i r f with
  | none=>rw [hy] at h; cases h
  | some y =>
   rw [hy] at h
   obtain ⟨a1,a2,⟨u,a3⟩,a4,a5⟩:=adv_keeps hy
   obtain ⟨b1,b2,⟨v,b3⟩,b4,b5⟩:=run_keeps (show run i y l=some x from h)
   refine ⟨fun q=>b1 (a1 q),fun q=>?_,⟨u++v,by rw [b3,a3,List.append_assoc]⟩,fun g hg hs hk=>?_,fun q=>?_⟩
   ·have:=a2 q; subst this; exact b2 q
   ·rcases List.mem_cons.1 hg with rfl | hg
    ·exact b1 (a4 hs hk)
    ·exact b4 g hg hs hk
   ·rcases b5 q with q | q
    ·rcases a5 q with q | q
     ·exact .inl q
     ·exact .inr (b1 q)
    ·exact .inr q
theorem adv_none {i:Int} {r x:Rv} {f:Fr} (h:adv i r f=some x) (hg:r.g=false) (hx:x.g=true):r.t=[]∧r.h=false:=by
 unfold adv at h
 split at h
 ·cases h; rw [hg] at hx; cases hx
 ·split at h
  ·split at h
   ·rename_i q; exact ⟨q.2.2,q.1⟩
   ·cases h
  ·split at h
   ·split at h
    ·rename_i q; rw [hg] at q; cases q.2
    ·cases h
   ·split at h
    ·split at h
     ·cases h; rw [hg] at hx; cases hx
     ·cases h
    ·cases h; rw [hg] at hx; cases hx
theorem run_none {i:Int}:∀{l:List Fr} {r x:Rv},run i r l=some x→r.g=false→x.g=true→r.t=[]∧r.h=false
 | [],r,x,h,hg,hx=>by cases h; rw [hg] at hx; cases hx
 | f :: l,r,x,h,hg,hx=>by
  simp only [run] at h
  cases hy:adv i r f with
  | none=>rw [hy] at h; cases h
  | some y =>
   rw [hy] at h
   have h':run i y l=some x:=h
   cases hyg:y.g with
   | true=>exact adv_none hy hg hyg
   | false =>
    obtain ⟨a1,a2,⟨u,a3⟩,a4,a5⟩:=adv_keeps hy
    obtain ⟨b1,b2⟩:=run_none h' hyg hx
    rw [a3] at b1
    refine ⟨(List.append_eq_nil_iff.1 b1).1,?_⟩
    cases hh:r.h with
    | false=>rfl
    | true=>have:=a2 hh; subst this; rw [hh] at b2; cases b2
theorem run_skip {i:Int}:∀{l:List Fr} {r:Rv},(∀f ∈ l,f.kind=8)→run i r l=some r
 | [],r,_=>rfl
 | f :: l,r,h=>by
  have hf:=h f (by simp)
  have:adv i r f=some r:=by
   unfold adv
   split
   ·rfl
   ·rw [if_neg (by rw [hf]; decide),if_neg (by rw [hf]; decide),if_neg (by rw [hf]; decide)]
  simp only [run,this]
  exact run_skip (fun g hg=>h g (by simp [hg]))
def tabOn (hd:Int→List Fd) (m:Int):List Fd→List Fr→List Fd→Prop
 | t,[],t'=>t=t'
 | t,f :: l,t'=>if f.kind=1 then f.body=(headW t m (hd f.stream)).2∧tabOn hd m (headW t m (hd f.stream)).1 l t' else tabOn hd m t l t'
theorem tabOn_app (hd:Int→List Fd) (m:Int):∀(l k:List Fr) (t t':List Fd),tabOn hd m t (l++k) t'↔∃u,tabOn hd m t l u∧tabOn hd m u k t'
 | [],k,t,t'=>by simp [tabOn]
 | f :: l,k,t,t'=>by
  simp only [List.cons_append,tabOn]
  split
  ·rw [tabOn_app hd m l k]
   constructor
   ·rintro ⟨h1,u,h2,h3⟩; exact ⟨u,⟨h1,h2⟩,h3⟩
   ·rintro ⟨u,⟨h1,h2⟩,h3⟩; exact ⟨h1,u,h2,h3⟩
  ·exact tabOn_app hd m l k t t'
theorem tabOn_congr {hd hd':Int→List Fd} {m:Int}:∀{l:List Fr} {t t':List Fd},(∀f ∈ l,f.kind=1→hd f.stream=hd' f.stream)→tabOn hd m t l t'→tabOn hd' m t l t'
 | [],t,t',_,h=>h
 | f :: l,t,t',hq,h=>by
  simp only [tabOn] at h ⊢
  split
  ·rename_i hk
   rw [if_pos hk] at h
   have e:=hq f (by simp) hk
   rw [←e]
   exact ⟨h.1,tabOn_congr (fun g hg=>hq g (by simp [hg])) h.2⟩
  ·rename_i hk
   rw [if_neg hk] at h
   exact tabOn_congr (fun g hg=>hq g (by simp [hg])) h
theorem tabOn_skip {hd:Int→List Fd} {m:Int} {t:List Fd}:∀{l:List Fr},(∀f ∈ l,f.kind≠1)→tabOn hd m t l t
 | [],_=>rfl
 | f :: l,h=>by
  simp only [tabOn]
  rw [if_neg (h f (by simp))]
  exact tabOn_skip (fun g hg=>h g (by simp [hg]))
def dat (i:Int):List Fr→Nat
 | []=>0
 | f :: l=>(if f.kind=0∧(i=0∨f.stream=i) then f.body.length else 0)+dat i l
def mor (i:Int):List Fr→Nat
 | []=>0
 | f :: l=>(if f.kind=8∧f.stream=i then byteAt f.body 0 else 0)+mor i l
theorem dat_app (i:Int):∀l k:List Fr,dat i (l++k)=dat i l+dat i k
 | [],k=>by simp [dat]
 | f :: l,k=>by simp only [List.cons_append,dat,dat_app i l k]; omega
theorem mor_app (i:Int):∀l k:List Fr,mor i (l++k)=mor i l+mor i k
 | [],k=>by simp [mor]
 | f :: l,k=>by simp only [List.cons_append,mor,mor_app i l k]; omega
theorem mor_more0:∀l:List Fr,mor 0 l=more0 l
 | []=>rfl
 | f :: l=>by simp only [mor,more0,mor_more0 l]
theorem dat_none {i:Int}:∀{l:List Fr},(∀f ∈ l,f.kind≠0)→dat i l=0
 | [],_=>rfl
 | f :: l,h=>by
  simp only [dat]
  rw [if_neg (fun q=>h f (by simp) q.1),dat_none (fun g hg=>h g (by simp [hg]))]
theorem mor_none {i:Int}:∀{l:List Fr},(∀f ∈ l,f.kind≠8)→mor i l=0
 | [],_=>rfl
 | f :: l,h=>by
  simp only [mor]
  rw [if_neg (fun q=>h f (by simp) q.1),mor_none (fun g hg=>h g (by simp [hg]))]
def sd (s:St):Rv:=⟨s.begun,s.say.take s.sent.toNat,s.said⟩
def rv (s:St):Rv:=⟨!decide (s.got=[]),s.text,s.heard⟩
structure Dir (S R:En) (q p:List Fr):Prop where
 m:S.outM=R.innM
 tab:tabOn (fun i=>(stOf S i).head) S.outM R.inn q S.out
 run:∀i,run i (rv (stOf R i)) (q++S.wait)=some (sd (stOf S i))
 got:∀i,(stOf R i).got=[]∨(stOf R i).got=(stOf S i).head
 flow:S.send+dat 0 q+mor 0 p=R.room
 own:∀i,i≠0→(stOf S i).send+dat i q+mor i p=(stOf R i).room
 ok:∀f ∈ q,frameOk f=true
structure StI (s:St):Prop where
 not:s.begun=false→s.said=false∧s.sent=0
 beg:s.begun=true→s.said=decide (s.sent=s.say.length)
 head:s.head=[]→s.begun=false
structure StC (s:St):Prop where
 head:∃path,s.head=callHead path s.say
 heard:s.heard=true→s.state≠1
 done:s.state=2→s.heard=true
structure StA (s:St):Prop where
 ask:s.head≠[]→s.heard=true∧s.head=[⟨sStatus,(answerM (getM s.got sPath).1 s.text).1,false⟩,⟨sKind,sText,false⟩]∧s.say=(answerM (getM s.got sPath).1 s.text).2
 asked:s.heard=true→s.state≠3→s.head≠[]
 done:s.state=2→s.said=true
end
end Go.Proofs.YtdplmibomopkcaaGreatDoor
