/- A part of the proof: contracts of functions, or plain facts on which these lean. -/
import Derived.Test.YtaamlddnpamomaaGreatDoorMf37
namespace Go.Proofs.YtaamlddnpamomaaGreatDoor
open Go
set_option linter.unusedVariables false
set_option linter.unusedSimpArgs false
set_option maxRecDepth 100000
set_option maxHeartbeats 16000000

section
theorem stsOk_mono {ans:Bool} {l:List St} (h:stsOk ans l=true):∀(n j:Nat),j+n+1 < l.length→(l.getD j st0).id < (l.getD (j+n+1) st0).id
 | 0,j,hj=>by
  have:=(stsOk_iff.1 h (j+1) (by omega)).2.1
  rcases this with z | z
  ·omega
  ·simpa using z
 | n+1,j,hj=>by
  have h1:=stsOk_mono h n j (by omega)
  have:=(stsOk_iff.1 h (j+n+1+1) (by omega)).2.1
  rcases this with z | z
  ·omega
  ·have z:(l.getD (j+n+1) st0).id < (l.getD (j+n+1+1) st0).id:=by simpa using z
   exact Int.lt_trans h1 z
theorem EnW.ids {N:Nat} {e:En} (h:EnW N e) {j k:Nat} (hjk:j < k) (hk:k < e.strs.length):(stAt e j).id < (stAt e k).id:=by
 have:=stsOk_mono h.sts (k - j - 1) j (by omega)
 rwa [show j+(k - j - 1)+1=k by omega] at this
theorem EnW.at_ {N:Nat} {e:En} (h:EnW N e) {k:Nat} (hk:k < e.strs.length):atM e.strs (stAt e k).id=some k:=by
 obtain ⟨j,hj⟩:=Has.at_ hk
 obtain ⟨h1,h2⟩:=atM_some hj
 have h2:(stAt e j).id=(stAt e k).id:=h2
 rw [hj]
 rcases Nat.lt_trichotomy j k with z | z | z
 ·have:=h.ids z hk; omega
 ·rw [z]
 ·have:=h.ids z h1; omega
theorem EnW.of {N:Nat} {e:En} (h:EnW N e) {k:Nat} (hk:k < e.strs.length):stOf e (stAt e k).id=stAt e k:=stOf_some (h.at_ hk)
theorem stAt_set {e:En} {k:Nat} {s:St} (hk:k < e.strs.length):stAt (setSt e k s) k=s:=by
 show (e.strs.set k s).getD k st0=s
 rw [getD_set st0 s hk,if_pos rfl]
def beg1 (e:En) (k:Nat):En × List Fr:=if (stAt e k).begun then (e,[]) else
 (setSt { e with out:=(headW e.out e.outM (stAt e k).head).1 } k (stAt e k).begin,[⟨1,decide ((stAt e k).say=[]),(stAt e k).id,(headW e.out e.outM (stAt e k).head).2⟩])
def pie1 (e:En) (k:Nat):En × List Fr:=if (stAt e k).said=false∧0 < mayM e (stAt e k) then
 (setSt { e with send:=e.send - mayM e (stAt e k) } k ((stAt e k).piece (mayM e (stAt e k))),[⟨0,decide ((stAt e k).sent+mayM e (stAt e k)=(stAt e k).say.length),(stAt e k).id,((stAt e k).say.drop (stAt e k).sent.toNat).take (mayM e (stAt e k)).toNat⟩]) else (e,[])
def don1 (e:En) (k:Nat):En:=if e.ans=true∧(stAt e k).said=true then setSt e k ((stAt e k).withState 2) else e
theorem bytes_one (f:Fr):bytes [f]=frW f:=by simp [bytes]
theorem bytes_nil:bytes []=[]:=rfl
theorem setSt_twice (e:En) (k:Nat) (s t:St):setSt (setSt e k s) k t=setSt e k t:=by simp [setSt]
theorem setSt_same (e:En) (k:Nat):setSt e k (stAt e k)=e:=by
 unfold setSt stAt; rw [set_same]
theorem sayM_steps {e:En} {k:Nat} (hk:k < e.strs.length) (h:¬((stAt e k).state≠1∨(stAt e k).head=[]∨(stAt e k).said=true)) :
  sayM e k=(don1 (pie1 (beg1 e k).1 k).1 k,bytes (beg1 e k).2++bytes (pie1 (beg1 e k).1 k).2):=by
 have hst:(stAt e k).state=1:=by simpa using fun q=>h (.inl q)
 unfold sayM
 simp only
 rw [if_neg h]
 have key:∀(x:En) (s:St),k < x.strs.length→stAt x k=s→s.state=1→(setSt (pieceM x s).1 k { (pieceM x s).2.1 with state:=if x.ans && (pieceM x s).2.1.said then 2 else (pieceM x s).2.1.state }=don1 (pie1 x k).1 k∧(pieceM x s).2.2=bytes (pie1 x k).2∧(pieceM x s).1.ans=x.ans):=by
  intro x s hx hs h1
  subst hs
  unfold pieceM pie1
  by_cases hc:(stAt x k).said=false∧0 < mayM x (stAt x k)
  ·rw [if_pos hc,if_pos hc]
   refine ⟨?_,(bytes_one _).symm,rfl⟩
   unfold don1
   rw [stAt_set (show k < ({ x with send:=x.send - mayM x (stAt x k) }:En).strs.length from hx)]
   cases ha:x.ans
   ·simp [setSt,ha,St.piece]
   ·cases hsd:decide ((stAt x k).sent+mayM x (stAt x k)=(stAt x k).say.length)
    ·simp [setSt,ha,St.piece,hsd]
    ·simp [setSt,ha,St.piece,hsd,St.withState]
  ·rw [if_neg hc,if_neg hc]
   refine ⟨?_,rfl,rfl⟩
   unfold don1
   by_cases hq:x.ans=true∧(stAt x k).said=true
   ·have hq':(x.ans && (stAt x k).said)=true:=by rw [hq.1,hq.2]; rfl
    rw [if_pos hq]
    simp only [hq',if_true]
    rfl
   ·have hq':¬(x.ans && (stAt x k).said)=true:=by simpa using hq
    rw [if_neg hq]
    simp only [hq',if_false]
    exact setSt_same x k
 unfold beginM beg1
 by_cases hb:(stAt e k).begun=true
 ·rw [if_pos hb,if_pos hb]
  obtain ⟨k1,k2,k3⟩:=key e (stAt e k) hk rfl hst
  refine Prod.ext k1 ?_
  simp only [bytes_nil,List.nil_append]
  exact k2
 ·rw [if_neg hb,if_neg hb]
  have hb':(stAt e k).begun=false:=by simpa using hb
  have hx:k < (setSt { e with out:=(headW e.out e.outM (stAt e k).head).1 } k (stAt e k).begin).strs.length:=by simpa [setSt] using hk
  obtain ⟨k1,k2,k3⟩:=key (setSt { e with out:=(headW e.out e.outM (stAt e k).head).1 } k (stAt e k).begin) (stAt e k).begin hx (stAt_set (show k < ({ e with out:=(headW e.out e.outM (stAt e k).head).1 }:En).strs.length from hk)) hst
  have e1:∀s,pieceM (setSt { e with out:=(headW e.out e.outM (stAt e k).head).1 } k (stAt e k).begin) s=(setSt (pieceM { e with out:=(headW e.out e.outM (stAt e k).head).1 } s).1 k (stAt e k).begin,(pieceM { e with out:=(headW e.out e.outM (stAt e k).head).1 } s).2):=by
   intro s
   unfold pieceM
   have e2:mayM (setSt { e with out:=(headW e.out e.outM (stAt e k).head).1 } k (stAt e k).begin) s=mayM { e with out:=(headW e.out e.outM (stAt e k).head).1 } s:=rfl
   rw [e2]
   split <;> rfl
  rw [e1] at k1 k2
  rw [setSt_twice] at k1
  refine Prod.ext k1 ?_
  simp only [bytes_one]
  exact congrArg (_++·) k2
section
variable {c a:En} {fu fd:List Fr}
theorem J0.headUp {k:Nat} {i:Int} (h:J0 c a fu fd) (hw:c.wait=[]) (hat:atM c.strs i=some k) (hb:(stOf c i).begun=false) (hst:(stOf c i).state=1) (hprev:∀j,j < i→Has c j→(stOf c j).begun=true∨(stOf c j).state≠1) :
  ∃f,frW ⟨1,decide ((stOf c i).say=[]),i,(headW c.out c.outM (stOf c i).head).2⟩=frW f∧J0 (setSt { c with out:=(headW c.out c.outM (stOf c i).head).1 } k (stOf c i).begin) a (fu++[f]) fd:=by
 have hhas:Has c i:=⟨k,hat⟩
 have hne:(stOf c i).head≠[]:=by obtain ⟨path,e⟩:=(h.C.sc h.cans i hhas).head; rw [e]; simp [callHead]
 obtain ⟨f,ss,f1,f2,e,hf,hids,hv,x1,x2,x3⟩:=say_head h.C h.u h.d hw hat hb hne hst
 refine ⟨f,hf,?_⟩
 rw [e]
 have hlt:∀x,(stOf c x).begun=true→x < i:=fun x hx=>by
  rcases Int.lt_trichotomy x i with z | z | z
  ·exact z
  ·rw [z,hb] at hx; cases hx
  ·rcases h.beg i x z hhas hx with q | q
   ·rw [hb] at q; cases q
   ·exact absurd hst q
 refine ⟨x1,h.A,h.cans,h.aans,x2,x3,h.has,fun g hg h8=>?_,h.noReset,?_,fun i' j hij hi hj=>?_,fun i' hi=>?_⟩
 ·rcases hg with z | z
  ·rcases List.mem_append.1 z with z | z
   ·exact h.kinds g (.inl z) h8
   ·rw [List.mem_singleton.1 z,f1] at h8; cases h8
  ·exact h.kinds g (.inr z) h8
 ·rw [heads_app,heads_one f1,←List.append_assoc,List.pairwise_append]
  refine ⟨h.ord,by simp [heads],fun x hx y hy=>?_⟩
  have hy:y=i:=by rw [←f2]; simpa [heads] using hy
  subst hy
  rcases List.mem_append.1 hx with z | z
  ·exact hlt x (h.up (mem_id z))
  ·obtain ⟨g,g1,g2,g3⟩:=mem_heads z
   exact hlt x (h.u.begun (i:=x) (f:=g) (by simp [g1]) g3 (.inr (.inl g2)))
 ·have hi':Has c i':=(Has.of_eq (e:=c) (x:={ c with out:=_,strs:=ss }) hids).1 hi
  rw [hv] at hj ⊢
  split
  ·exact .inl rfl
  ·rename_i hne'
   split at hj
   ·rename_i hji; subst hji
    exact hprev i' hij hi'
   ·exact h.beg i' j hij hi' hj
 ·have z:(stOf c i').state=3:=by
   refine h.gone i' ?_
   rcases hi with z | ⟨g,z,k3,ki⟩
   ·exact .inl z
   ·refine .inr ⟨g,?_,k3,ki⟩
    rcases z with z | z
    ·rcases List.mem_append.1 z with z | z
     ·exact .inl z
     ·rw [List.mem_singleton.1 z,f1] at k3; cases k3
    ·exact .inr z
  rw [hv]; split
  ·rename_i hji; subst hji; exact z
  ·exact z
theorem J0.pieceUp {k:Nat} {i n:Int} (h:J0 c a fu fd) (hw:c.wait=[]) (hat:atM c.strs i=some k) (hb:(stOf c i).begun=true) (hns:(stOf c i).said=false) (hst:(stOf c i).state=1) (hn:0 < n) (h1:n≤((stOf c i).say.length:Int) - (stOf c i).sent) (h2:n≤(stOf c i).send) (h3:n≤c.send) :
  ∃f,frW ⟨0,decide ((stOf c i).sent+n=(stOf c i).say.length),i,((stOf c i).say.drop (stOf c i).sent.toNat).take n.toNat⟩=frW f∧J0 (setSt { c with send:=c.send - n } k ((stOf c i).piece n)) a (fu++[f]) fd:=by
 obtain ⟨f,ss,f1,f2,e,hf,hids,hv,x1,x2,x3⟩:=say_piece h.C h.u h.d hw hat hb hns hst hn h1 h2 h3
 refine ⟨f,hf,?_⟩
 rw [e]
 have hv':∀j,(stOf { c with send:=c.send - n,strs:=ss } j).begun=(stOf c j).begun∧(stOf { c with send:=c.send - n,strs:=ss } j).state=(stOf c j).state:=fun j=>by
  rw [hv]; split
  ·rename_i hji; subst hji; exact ⟨rfl,rfl⟩
  ·exact ⟨rfl,rfl⟩
 refine ⟨x1,h.A,h.cans,h.aans,x2,x3,h.has,fun g hg h8=>?_,h.noReset,?_,fun i' j hij hi hj=>?_,fun i' hi=>?_⟩
 ·rcases hg with z | z
  ·rcases List.mem_append.1 z with z | z
   ·exact h.kinds g (.inl z) h8
   ·rw [List.mem_singleton.1 z,f1] at h8; cases h8
  ·exact h.kinds g (.inr z) h8
 ·rw [heads_app,heads_no (by rw [f1]; decide)]; simpa [heads] using h.ord
 ·rw [(hv' j).1] at hj
  rw [(hv' i').1,(hv' i').2]
  exact h.beg i' j hij ((Has.of_eq (e:=c) (x:={ c with send:=c.send - n,strs:=ss }) hids).1 hi) hj
 ·rw [(hv' i').2]
  refine h.gone i' ?_
  rcases hi with z | ⟨g,z,k3,ki⟩
  ·exact .inl z
  ·refine .inr ⟨g,?_,k3,ki⟩
   rcases z with z | z
   ·rcases List.mem_append.1 z with z | z
    ·exact .inl z
    ·rw [List.mem_singleton.1 z,f1] at k3; cases k3
   ·exact .inr z
theorem J0.headDown {k:Nat} {i:Int} (h:J0 c a fu fd) (hw:a.wait=[]) (hat:atM a.strs i=some k) (hb:(stOf a i).begun=false) (hne:(stOf a i).head≠[]) (hst:(stOf a i).state=1) :
  ∃f,frW ⟨1,decide ((stOf a i).say=[]),i,(headW a.out a.outM (stOf a i).head).2⟩=frW f∧J0 c (setSt { a with out:=(headW a.out a.outM (stOf a i).head).1 } k (stOf a i).begin) fu (fd++[f]):=by
 obtain ⟨f,ss,f1,f2,e,hf,hids,hv,x1,x2,x3⟩:=say_head h.A h.d h.u hw hat hb hne hst
 refine ⟨f,hf,?_⟩
 rw [e]
 have hhas:∀j,Has { a with out:=(headW a.out a.outM (stOf a i).head).1,strs:=ss } j↔Has a j:=fun j=>Has.of_eq (e:=a) (x:={ a with out:=_,strs:=ss }) hids
 refine ⟨h.C,x1,h.cans,h.aans,x3,x2,fun j hj=>?_,fun g hg h8=>?_,fun g hg=>?_,?_,h.beg,h.gone' (fun j hj=>by rw [hv] at hj; split at hj; (rename_i hji; subst hji; exact hj); exact hj) (fun g hg _=>.inl hg)⟩
 ·have:=h.has j ((hhas j).1 hj)
  rw [hv]; split
  ·rename_i hji; subst hji; exact this
  ·exact this
 ·rw [hhas]
  rcases hg with z | z | z | z
  ·exact h.kinds g (.inl z) h8
  ·exact h.kinds g (.inr (.inl z)) h8
  ·rcases List.mem_append.1 z with z | z
   ·exact h.kinds g (.inr (.inr (.inl z))) h8
   ·rw [List.mem_singleton.1 z,f1] at h8; cases h8
  ·exact h.kinds g (.inr (.inr (.inr z))) h8
 ·rcases List.mem_append.1 hg with z | z
  ·exact h.noReset g z
  ·rw [List.mem_singleton.1 z,f1]; decide
 ·show (ss.map St.id++heads fu).Pairwise (· < ·)
  rw [hids]; exact h.ord
theorem J0.pieceDown {k:Nat} {i n:Int} (h:J0 c a fu fd) (hw:a.wait=[]) (hat:atM a.strs i=some k) (hb:(stOf a i).begun=true) (hns:(stOf a i).said=false) (hst:(stOf a i).state=1) (hn:0 < n) (h1:n≤((stOf a i).say.length:Int) - (stOf a i).sent) (h2:n≤(stOf a i).send) (h3:n≤a.send) :
  ∃f,frW ⟨0,decide ((stOf a i).sent+n=(stOf a i).say.length),i,((stOf a i).say.drop (stOf a i).sent.toNat).take n.toNat⟩=frW f∧J0 c (setSt { a with send:=a.send - n } k ((stOf a i).piece n)) fu (fd++[f]):=by
 obtain ⟨f,ss,f1,f2,e,hf,hids,hv,x1,x2,x3⟩:=say_piece h.A h.d h.u hw hat hb hns hst hn h1 h2 h3
 refine ⟨f,hf,?_⟩
 rw [e]
 have hhas:∀j,Has { a with send:=a.send - n,strs:=ss } j↔Has a j:=fun j=>Has.of_eq (e:=a) (x:={ a with send:=a.send - n,strs:=ss }) hids
 refine ⟨h.C,x1,h.cans,h.aans,x3,x2,fun j hj=>?_,fun g hg h8=>?_,fun g hg=>?_,?_,h.beg,h.gone' (fun j hj=>by rw [hv] at hj; split at hj; (rename_i hji; subst hji; exact hj); exact hj) (fun g hg _=>.inl hg)⟩
 ·have:=h.has j ((hhas j).1 hj)
  rw [hv]; split
  ·rename_i hji; subst hji; exact this
  ·exact this
 ·rw [hhas]
  rcases hg with z | z | z | z
  ·exact h.kinds g (.inl z) h8
  ·exact h.kinds g (.inr (.inl z)) h8
  ·rcases List.mem_append.1 z with z | z
   ·exact h.kinds g (.inr (.inr (.inl z))) h8
   ·rw [List.mem_singleton.1 z,f1] at h8; cases h8
  ·exact h.kinds g (.inr (.inr (.inr z))) h8
 ·rcases List.mem_append.1 hg with z | z
  ·exact h.noReset g z
  ·rw [List.mem_singleton.1 z,f1]; decide
 ·show (ss.map St.id++heads fu).Pairwise (· < ·)
  rw [hids]; exact h.ord
theorem J0.doneDown {k:Nat} {i:Int} (h:J0 c a fu fd) (hat:atM a.strs i=some k) (hsd:(stOf a i).said=true) (hst:(stOf a i).state=1):J0 c (setSt a k ((stOf a i).withState 2)) fu fd:=by
 obtain ⟨ss,e,hids,hv,x1,x2,x3⟩:=say_done h.A h.d h.u hat h.aans hsd hst
 rw [e]
 have hhas:∀j,Has { a with strs:=ss } j↔Has a j:=fun j=>Has.of_eq (e:=a) (x:={ a with strs:=ss }) hids
 refine ⟨h.C,x1,h.cans,h.aans,x3,x2,fun j hj=>?_,fun g hg h8=>?_,h.noReset,?_,h.beg,h.gone' (fun j hj=>by rw [hv] at hj; split at hj; (exact absurd (show (2:Int)=3 from hj) (by decide)); exact hj) (fun g hg _=>.inl hg)⟩
 ·have:=h.has j ((hhas j).1 hj)
  rw [hv]; split
  ·rename_i hji; subst hji; exact this
  ·exact this
 ·rw [hhas]; exact h.kinds g hg h8
 ·show (ss.map St.id++heads fu).Pairwise (· < ·)
  rw [hids]; exact h.ord
theorem J0.sayUp {k:Nat} (h:J0 c a fu fd) (hw:c.wait=[]) (hk:k < c.strs.length) (hprev:∀j,j < k→(stAt c j).begun=true∨(stAt c j).state≠1) :
  ∃fs,(sayM c k).2=bytes fs∧J0 (sayM c k).1 a (fu++fs) fd∧(sayM c k).1.wait=[]∧(sayM c k).1.strs.length=c.strs.length∧(∀j,j < k+1→(stAt (sayM c k).1 j).begun=true∨(stAt (sayM c k).1 j).state≠1):=by
 obtain ⟨w1,w2,w3,w4⟩:=sayM_keeps c k
 have hat:=h.C.w.at_ hk
 have hof:=h.C.w.of hk
 have hrest:((stAt (sayM c k).1 k).begun=true∨(stAt (sayM c k).1 k).state≠1)→(∀j,j < k+1→(stAt (sayM c k).1 j).begun=true∨(stAt (sayM c k).1 j).state≠1):=fun hkk j hj=>by
  by_cases q:j=k
  ·rw [q]; exact hkk
  ·rw [w4 j q]; exact hprev j (by omega)
 by_cases hm:(stAt c k).state≠1∨(stAt c k).head=[]∨(stAt c k).said=true
 ·have e:sayM c k=(c,[]):=by unfold sayM; simp only; rw [if_pos hm]
  rw [e] at hrest ⊢
  refine ⟨[],rfl,by rw [List.append_nil]; exact h,hw,rfl,hrest ?_⟩
  rcases hm with z | z | z
  ·exact .inr z
  ·have hhas:Has c (stAt c k).id:=⟨k,hat⟩
   obtain ⟨path,e⟩:=(h.C.sc h.cans _ hhas).head
   rw [hof,z] at e; simp [callHead] at e
  ·have hi:=h.C.si (stAt c k).id
   rw [hof] at hi
   cases hb:(stAt c k).begun with
   | true=>exact .inl rfl
   | false=>have:=(hi.not hb).1; rw [z] at this; cases this
 ·have hst:(stAt c k).state=1:=by simpa using fun q=>hm (.inl q)
  have hns:(stAt c k).said=false:=by simpa using fun q=>hm (.inr (.inr q))
  have hp:∀j,j < (stAt c k).id→Has c j→(stOf c j).begun=true∨(stOf c j).state≠1:=fun j hj hh=>by
   obtain ⟨n,hn⟩:=hh
   obtain ⟨n1,n2⟩:=atM_some hn
   rw [stOf_some hn]
   refine hprev n ?_
   rcases Nat.lt_trichotomy n k with z | z | z
   ·exact z
   ·subst z; have n2:(stAt c n).id=j:=n2; omega
   ·have:=h.C.w.ids z n1; have n2:(stAt c n).id=j:=n2; omega
  have e:=sayM_steps hk hm
  have hbeg:∃fs,bytes (beg1 c k).2=bytes fs∧J0 (beg1 c k).1 a (fu++fs) fd∧(beg1 c k).1.wait=[]∧(beg1 c k).1.strs.length=c.strs.length∧(stAt (beg1 c k).1 k).begun=true∧(stAt (beg1 c k).1 k).state=1∧(stAt (beg1 c k).1 k).id=(stAt c k).id:=by
   unfold beg1
   by_cases hb:(stAt c k).begun=true
   ·rw [if_pos hb]
    exact ⟨[],rfl,by rw [List.append_nil]; exact h,hw,rfl,hb,hst,rfl⟩
   ·rw [if_neg hb]
    have hx:=h.headUp hw hat (by rw [hof]; simpa using hb) (by rw [hof]; exact hst) hp
    rw [hof] at hx
    obtain ⟨f,hf,hj⟩:=hx
    refine ⟨[f],by rw [bytes_one,bytes_one,hf],hj,hw,by simp [setSt],?_,?_,?_⟩ <;> simp only [stAt_set (show k < ({ c with out:=(headW c.out c.outM (stAt c k).head).1 }:En).strs.length from hk)] <;> first | rfl | exact hst
  obtain ⟨fs,b1,b2,b3,b4,b5,b6,b7⟩:=hbeg
  generalize (beg1 c k).1=x at *
  have hkx:k < x.strs.length:=by rw [b4]; exact hk
  have hatx:=b2.C.w.at_ hkx
  have hofx:=b2.C.w.of hkx
  have hpie:∃gs,bytes (pie1 x k).2=bytes gs∧J0 (pie1 x k).1 a (fu++fs++gs) fd∧(pie1 x k).1.wait=[]∧(pie1 x k).1.strs.length=x.strs.length∧(stAt (pie1 x k).1 k).begun=true:=by
   unfold pie1
   by_cases hc:(stAt x k).said=false∧0 < mayM x (stAt x k)
   ·rw [if_pos hc]
    obtain ⟨m1,m2,m3⟩:=mayM_le x (stAt x k)
    have hx:=b2.pieceUp (n:=mayM x (stAt x k)) b3 hatx (by rw [hofx]; exact b5) (by rw [hofx]; exact hc.1) (by rw [hofx]; exact b6) hc.2 (by rw [hofx]; exact m1) (by rw [hofx]; exact m2) m3
    rw [hofx] at hx
    obtain ⟨f,hf,hj⟩:=hx
    refine ⟨[f],by rw [bytes_one,bytes_one,hf],hj,b3,by simp [setSt],?_⟩
    simp only [stAt_set (show k < ({ x with send:=x.send - mayM x (stAt x k) }:En).strs.length from hkx)]
    exact b5
   ·rw [if_neg hc]
    exact ⟨[],rfl,by rw [List.append_nil]; exact b2,b3,rfl,b5⟩
  obtain ⟨gs,p1,p2,p3,p4,p5⟩:=hpie
  have hd:don1 (pie1 x k).1 k=(pie1 x k).1:=by unfold don1; rw [if_neg (by rw [p2.cans]; simp)]
  rw [e,hd] at hrest ⊢
  refine ⟨fs++gs,by rw [bytes_app]; show bytes _++bytes _=_; rw [b1,p1],by rw [←List.append_assoc]; exact p2,p3,p4.trans b4,hrest (.inl p5)⟩
theorem J0.saysUp:∀(n k:Nat) {c a:En} {fu fd:List Fr},J0 c a fu fd→c.wait=[]→k+n=c.strs.length→(∀j,j < k→(stAt c j).begun=true∨(stAt c j).state≠1) →
  ∃fs,(saysM n k c).2=bytes fs∧J0 (saysM n k c).1 a (fu++fs) fd
 | 0,k,c,a,fu,fd,h,hw,hn,hp=>⟨[],rfl,by rw [List.append_nil]; exact h⟩
 | n+1,k,c,a,fu,fd,h,hw,hn,hp=>by
  obtain ⟨fs,s1,s2,s3,s4,s5⟩:=h.sayUp hw (k:=k) (by omega) hp
  obtain ⟨gs,t1,t2⟩:=J0.saysUp n (k+1) s2 s3 (by rw [s4]; omega) s5
  refine ⟨fs++gs,?_,by rw [←List.append_assoc]; exact t2⟩
  rw [bytes_app,←s1,←t1]; rfl
theorem J0.sayDown {k:Nat} (h:J0 c a fu fd) (hw:a.wait=[]) (hk:k < a.strs.length) :
  ∃fs,(sayM a k).2=bytes fs∧J0 c (sayM a k).1 fu (fd++fs)∧(sayM a k).1.wait=[]∧(sayM a k).1.strs.length=a.strs.length:=by
 obtain ⟨w1,w2,w3,w4⟩:=sayM_keeps a k
 have hat:=h.A.w.at_ hk
 have hof:=h.A.w.of hk
 by_cases hm:(stAt a k).state≠1∨(stAt a k).head=[]∨(stAt a k).said=true
 ·have e:sayM a k=(a,[]):=by unfold sayM; simp only; rw [if_pos hm]
  rw [e]
  exact ⟨[],rfl,by rw [List.append_nil]; exact h,hw,rfl⟩
 ·have hst:(stAt a k).state=1:=by simpa using fun q=>hm (.inl q)
  have hne:(stAt a k).head≠[]:=fun q=>hm (.inr (.inl q))
  have e:=sayM_steps hk hm
  have hbeg:∃fs,bytes (beg1 a k).2=bytes fs∧J0 c (beg1 a k).1 fu (fd++fs)∧(beg1 a k).1.wait=[]∧(beg1 a k).1.strs.length=a.strs.length∧(stAt (beg1 a k).1 k).begun=true∧(stAt (beg1 a k).1 k).state=1∧(stAt (beg1 a k).1 k).id=(stAt a k).id:=by
   unfold beg1
   by_cases hb:(stAt a k).begun=true
   ·rw [if_pos hb]
    exact ⟨[],rfl,by rw [List.append_nil]; exact h,hw,rfl,hb,hst,rfl⟩
   ·rw [if_neg hb]
    have hx:=h.headDown hw hat (by rw [hof]; simpa using hb) (by rw [hof]; exact hne) (by rw [hof]; exact hst)
    rw [hof] at hx
    obtain ⟨f,hf,hj⟩:=hx
    refine ⟨[f],by rw [bytes_one,bytes_one,hf],hj,hw,by simp [setSt],?_,?_,?_⟩ <;> simp only [stAt_set (show k < ({ a with out:=(headW a.out a.outM (stAt a k).head).1 }:En).strs.length from hk)] <;> first | rfl | exact hst
  obtain ⟨fs,b1,b2,b3,b4,b5,b6,b7⟩:=hbeg
  generalize (beg1 a k).1=x at *
  have hkx:k < x.strs.length:=by rw [b4]; exact hk
  have hatx:=b2.A.w.at_ hkx
  have hofx:=b2.A.w.of hkx
  have hpie:∃gs,bytes (pie1 x k).2=bytes gs∧J0 c (pie1 x k).1 fu (fd++fs++gs)∧(pie1 x k).1.wait=[]∧(pie1 x k).1.strs.length=x.strs.length∧(stAt (pie1 x k).1 k).state=1:=by
   unfold pie1
   by_cases hc:(stAt x k).said=false∧0 < mayM x (stAt x k)
   ·rw [if_pos hc]
    obtain ⟨m1,m2,m3⟩:=mayM_le x (stAt x k)
    have hx:=b2.pieceDown (n:=mayM x (stAt x k)) b3 hatx (by rw [hofx]; exact b5) (by rw [hofx]; exact hc.1) (by rw [hofx]; exact b6) hc.2 (by rw [hofx]; exact m1) (by rw [hofx]; exact m2) m3
    rw [hofx] at hx
    obtain ⟨f,hf,hj⟩:=hx
    refine ⟨[f],by rw [bytes_one,bytes_one,hf],hj,b3,by simp [setSt],?_⟩
    simp only [stAt_set (show k < ({ x with send:=x.send - mayM x (stAt x k) }:En).strs.length from hkx)]
    exact b6
   ·rw [if_neg hc]
    exact ⟨[],rfl,by rw [List.append_nil]; exact b2,b3,rfl,b6⟩
  obtain ⟨gs,p1,p2,p3,p4,p5⟩:=hpie
  generalize (pie1 x k).1=y at *
  have hky:k < y.strs.length:=by rw [p4]; exact hkx
  have haty:=p2.A.w.at_ hky
  have hofy:=p2.A.w.of hky
  have hdon:J0 c (don1 y k) fu (fd++fs++gs)∧(don1 y k).wait=[]∧(don1 y k).strs.length=y.strs.length:=by
   unfold don1
   split
   ·rename_i hc
    have hx:=p2.doneDown haty (by rw [hofy]; exact hc.2) (by rw [hofy]; exact p5)
    rw [hofy] at hx
    exact ⟨hx,p3,by simp [setSt]⟩
   ·exact ⟨p2,p3,rfl⟩
  rw [e]
  refine ⟨fs++gs,by rw [bytes_app]; show bytes _++bytes _=_; rw [b1,p1],by rw [←List.append_assoc]; exact hdon.1,hdon.2.1,hdon.2.2.trans (p4.trans b4)⟩
theorem J0.saysDown:∀(n k:Nat) {c a:En} {fu fd:List Fr},J0 c a fu fd→a.wait=[]→k+n=a.strs.length →
  ∃fs,(saysM n k a).2=bytes fs∧J0 c (saysM n k a).1 fu (fd++fs)
 | 0,k,c,a,fu,fd,h,hw,hn=>⟨[],rfl,by rw [List.append_nil]; exact h⟩
 | n+1,k,c,a,fu,fd,h,hw,hn=>by
  obtain ⟨fs,s1,s2,s3,s4⟩:=h.sayDown hw (k:=k) (by omega)
  obtain ⟨gs,t1,t2⟩:=J0.saysDown n (k+1) s2 s3 (by rw [s4]; omega)
  refine ⟨fs++gs,?_,by rw [←List.append_assoc]; exact t2⟩
  rw [bytes_app,←s1,←t1]; rfl
theorem J.writeUp (h:J c a fu fd):∃fs,(writeM c).2=bytes fs∧J (writeM c).1 a (fu++fs) fd:=by
 obtain ⟨w1,w2⟩:=J0.waitUp c.wait h.toJ0 rfl
 have hl:=(waitM_w c.wait c h.C.w).2.1
 obtain ⟨fs,s1,s2⟩:=J0.saysUp c.strs.length 0 w1 rfl (by simp [hl]) (fun j hj=>by omega)
 refine ⟨c.wait++fs,?_,⟨by rw [←List.append_assoc]; exact s2,(writeM_loc h.cl).1,h.al⟩⟩
 rw [bytes_app,←s1,←w2]; rfl
theorem J.writeDown (h:J c a fu fd):∃fs,(writeM a).2=bytes fs∧J c (writeM a).1 fu (fd++fs):=by
 obtain ⟨w1,w2⟩:=J0.waitDown a.wait h.toJ0 rfl
 have hl:=(waitM_w a.wait a h.A.w).2.1
 obtain ⟨fs,s1,s2⟩:=J0.saysDown a.strs.length 0 w1 rfl (by simp [hl])
 refine ⟨a.wait++fs,?_,⟨by rw [←List.append_assoc]; exact s2,h.cl,(writeM_loc h.al).1⟩⟩
 rw [bytes_app,←s1,←w2]; rfl
end
end
end Go.Proofs.YtaamlddnpamomaaGreatDoor
