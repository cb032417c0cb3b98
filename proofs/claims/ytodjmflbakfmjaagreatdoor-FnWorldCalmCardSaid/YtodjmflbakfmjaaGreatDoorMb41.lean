/- A part of the proof: contracts of functions, or plain facts on which these lean. -/
import Derived.Test.YtodjmflbakfmjaaGreatDoorMb40
namespace Go.Proofs.YtodjmflbakfmjaaGreatDoor
open Go
set_option linter.unusedVariables false
set_option linter.unusedSimpArgs false
set_option maxRecDepth 100000
set_option maxHeartbeats 16000000

section
theorem frW_lenE (f:Fr):(frW f).length=4+f.body.length:=by simp [frW]; omega
theorem sayM_short {N:Nat} {e:En} {k:Nat} (hW:EnW N e) (hk:k < e.strs.length) (hh:(stAt e k).head.length≤3):(sayM e k).2.length≤132:=by
 by_cases hm:(stAt e k).state≠1∨(stAt e k).head=[]∨(stAt e k).said=true
 ·have e:sayM e k=(e,[]):=by unfold sayM; simp only; rw [if_pos hm]
  rw [e]; simp
 ·rw [sayM_steps hk hm]
  simp only [List.length_append]
  have hs:=stOk_iff.1 (hW.st hk)
  have h16:=(wordOk_iff.1 hs.2.2.2.2.1).2
  have hl:=headW_len (stAt e k).head e.out e.outM (headOk_iff.1 hs.2.2.1).1 (by have:=(tableOk_parts hW.out).1; omega)
  have h1:(bytes (beg1 e k).2).length≤112:=by
   unfold beg1; split
   ·simp [bytes]
   ·rw [bytes_one,frW_lenE]; simp only; omega
  have hsay:∀x,(beg1 e k).1=x→k < x.strs.length∧(stAt x k).say=(stAt e k).say:=fun x hx=>by
   subst hx
   unfold beg1; split
   ·exact ⟨hk,rfl⟩
   ·refine ⟨by simpa [setSt] using hk,?_⟩
    simp only [stAt_set (show k < ({ e with out:=(headW e.out e.outM (stAt e k).head).1 }:En).strs.length from hk)]
    rfl
  have h2:=hsay _ rfl
  generalize (beg1 e k).1=x at h2
  have h3:(bytes (pie1 x k).2).length≤20:=by
   unfold pie1; split
   ·rw [bytes_one,frW_lenE]; simp only [List.length_take,List.length_drop,h2.2]; omega
   ·simp [bytes]
  omega
theorem saysM_short {N:Nat}:∀(n k:Nat) (e:En),EnW N e→k+n≤e.strs.length→(∀j,j < e.strs.length→(stAt e j).head.length≤3)→(saysM n k e).2.length≤132 * n
 | 0,k,e,_,_,_=>by simp [saysM]
 | n+1,k,e,hW,hk,hh=>by
  obtain ⟨r1,r2⟩:=sayM_w hW (k:=k) (by omega)
  have h1:=sayM_short hW (k:=k) (by omega) (hh k (by omega))
  obtain ⟨w1,w2,w3,w4⟩:=sayM_keeps e k
  have hhead:(stAt (sayM e k).1 k).head=(stAt e k).head:=by
   have hb:∀(x:En) (s:St),(beginM x s).2.1.head=s.head:=fun x s=>by unfold beginM; split <;> rfl
   have hp:∀(x:En) (s:St),(pieceM x s).2.1.head=s.head:=fun x s=>by unfold pieceM; split <;> rfl
   have hlen:k < (pieceM (beginM e (stAt e k)).1 (beginM e (stAt e k)).2.1).1.strs.length:=by
    rw [(pieceM_keeps _ _).2.2.1,(beginM_keeps _ _).2.2.1]; omega
   unfold sayM
   simp only
   split
   ·rfl
   ·simp only [stAt_set hlen]; exact (hp _ _).trans (hb _ _)
  have h2:=saysM_short n (k+1) (sayM e k).1 r1 (by omega) (fun j hj=>by
   by_cases q:j=k
   ·subst q; rw [hhead]; exact hh j (by omega)
   ·rw [w4 j q]; exact hh j (by rw [w3] at hj; exact hj))
  show ((sayM e k).2++(saysM n (k+1) (sayM e k).1).2).length≤_
  rw [List.length_append]; omega
theorem waits_short:∀l:List Fr,(∀f ∈ l,f.body.length≤1)→(bytes l).length≤5 * l.length
 | [],_=>by simp [bytes]
 | f :: l,h=>by
  have h1:=h f (by simp)
  have h2:=waits_short l (fun g hg=>h g (by simp [hg]))
  rw [bytes_cons,List.length_append,frW_lenE,List.length_cons]; omega
theorem wait_body {e:En} (h:Sid0 e):∀f ∈ e.wait,f.body.length≤1:=fun f hf=>by
 have hfo:=h.w.wait f hf
 rcases h.waits f hf with z | z
 ·unfold frameOk at hfo
  rw [if_neg (by rw [z]; decide),if_neg (by rw [z]; decide),if_pos z] at hfo
  simp only [Bool.and_eq_true,decide_eq_true_eq] at hfo
  omega
 ·unfold frameOk at hfo
  rw [if_neg (by rw [z.1]; decide),if_pos z.1] at hfo
  simp only [Bool.and_eq_true,decide_eq_true_eq] at hfo
  rw [hfo.2]; simp
theorem head_short {e:En} (h:Sid0 e) {k:Nat} (hk:k < e.strs.length):(stAt e k).head.length≤3:=by
 have hat:=h.w.at_ hk
 have hof:=h.w.of hk
 cases ha:e.ans with
 | false =>
  obtain ⟨path,q⟩:=(h.sc ha _ ⟨k,hat⟩).head
  rw [hof] at q; rw [q]; simp [callHead]
 | true =>
  by_cases h0:(stAt e k).head=[]
  ·rw [h0]; simp
  ·have:=((h.sa ha (stAt e k).id).ask (by rw [hof]; exact h0)).2.1
   rw [hof] at this; rw [this]; simp
section
variable {c a:En} {fu fd:List Fr}
theorem J0.shortUp (h:J0 c a fu fd):(writeM c).2.length≤800:=by
 obtain ⟨w1,w2⟩:=J0.waitUp c.wait h rfl
 have hl:=(waitM_w c.wait c h.C.w).2.1
 have h1:=waits_short c.wait (wait_body h.C)
 have h2:=h.C.w.len
 have h3:=saysM_short c.strs.length 0 { (waitM c c.wait).1 with wait:=[] } w1.C.w (by simp [hl]) (fun j hj=>head_short w1.C hj)
 have h4:=stsOk_len h.C.w.sts
 have e:(writeM c).2=(waitM c c.wait).2++(saysM c.strs.length 0 { (waitM c c.wait).1 with wait:=[] }).2:=rfl
 rw [e,List.length_append,w2]
 omega
theorem J0.shortDown (h:J0 c a fu fd):(writeM a).2.length≤800:=by
 obtain ⟨w1,w2⟩:=J0.waitDown a.wait h rfl
 have hl:=(waitM_w a.wait a h.A.w).2.1
 have h1:=waits_short a.wait (wait_body h.A)
 have h2:=h.A.w.len
 have h3:=saysM_short a.strs.length 0 { (waitM a a.wait).1 with wait:=[] } w1.A.w (by simp [hl]) (fun j hj=>head_short w1.A hj)
 have h4:=stsOk_len h.A.w.sts
 have e:(writeM a).2=(waitM a a.wait).2++(saysM a.strs.length 0 { (waitM a a.wait).1 with wait:=[] }).2:=rfl
 rw [e,List.length_append,w2]
 omega
theorem J0.decUp (h:J0 c a [] []) (ha:a.wait=[]):units (writeM c).1.strs≤dec (units c.strs):=by
 obtain ⟨w1,w2⟩:=J0.waitUp c.wait h rfl
 have hl:=(waitM_w c.wait c h.C.w).2.1
 have hu:=waitM_units c.wait c
 have hsend:(waitM c c.wait).1.send=16:=by
  have h1:=w1.u.flow
  have h2:=w1.A.sum
  have hd0:dat 0 ([]++c.wait)=0:=dat_none (fun f hf=>by rcases h.C.waits f (by simpa using hf) with z | z; rw [z]; decide; rw [z.1]; decide)
  rw [hd0] at h1
  rw [ha] at h2
  simp only [mor] at h1 h2
  have h1:(waitM c c.wait).1.send+((0:Nat):Int)+((0:Nat):Int)=a.room:=h1
  omega
 have hown:∀j,j≠0→(stOf { (waitM c c.wait).1 with wait:=[] } j).send=8:=fun j hj=>by
  have h1:=w1.u.own j hj
  have h2:=w1.A.more j hj
  have hd0:dat j ([]++c.wait)=0:=dat_none (fun f hf=>by rcases h.C.waits f (by simpa using hf) with z | z; rw [z]; decide; rw [z.1]; decide)
  rw [hd0] at h1
  rw [ha] at h2
  simp only [mor] at h1 h2
  exact (by omega:∀x y:Int,x+((0:Nat):Int)+((0:Nat):Int)=y→y+((0:Nat):Int)=8→x=8) _ _ h1 h2
 have h8:∀j,j < ({ (waitM c c.wait).1 with wait:=[] }:En).strs.length→(stAt { (waitM c c.wait).1 with wait:=[] } j).send=8∧StI (stAt { (waitM c c.wait).1 with wait:=[] } j):=fun j hj=>by
  have e:=w1.C.w.of hj
  have hid:=strm_pos (stOk_iff.1 (w1.C.w.st hj)).1
  have k1:=hown _ hid
  have k2:=w1.C.si (stAt { (waitM c c.wait).1 with wait:=[] } j).id
  rw [e] at k1 k2
  exact ⟨k1,k2⟩
 have hd:=saysM_dec (e:={ (waitM c c.wait).1 with wait:=[] }) w1.C.w h8 (by show 16≤(waitM c c.wait).1.send; omega)
 have e:(writeM c).1=(saysM c.strs.length 0 { (waitM c c.wait).1 with wait:=[] }).1:=rfl
 have e2:({ (waitM c c.wait).1 with wait:=[] }:En).strs.length=c.strs.length:=hl
 rw [e2] at hd
 rw [e,←hu]
 exact hd
theorem J0.decDown (h:J0 c a [] []) (ha:c.wait=[]):units (writeM a).1.strs≤dec (units a.strs):=by
 obtain ⟨w1,w2⟩:=J0.waitDown a.wait h rfl
 have hl:=(waitM_w a.wait a h.A.w).2.1
 have hu:=waitM_units a.wait a
 have hsend:(waitM a a.wait).1.send=16:=by
  have h1:=w1.d.flow
  have h2:=w1.C.sum
  have hd0:dat 0 ([]++a.wait)=0:=dat_none (fun f hf=>by rcases h.A.waits f (by simpa using hf) with z | z; rw [z]; decide; rw [z.1]; decide)
  rw [hd0] at h1
  rw [ha] at h2
  simp only [mor] at h1 h2
  have h1:(waitM a a.wait).1.send+((0:Nat):Int)+((0:Nat):Int)=c.room:=h1
  omega
 have hown:∀j,j≠0→(stOf { (waitM a a.wait).1 with wait:=[] } j).send=8:=fun j hj=>by
  have h1:=w1.d.own j hj
  have h2:=w1.C.more j hj
  have hd0:dat j ([]++a.wait)=0:=dat_none (fun f hf=>by rcases h.A.waits f (by simpa using hf) with z | z; rw [z]; decide; rw [z.1]; decide)
  rw [hd0] at h1
  rw [ha] at h2
  simp only [mor] at h1 h2
  exact (by omega:∀x y:Int,x+((0:Nat):Int)+((0:Nat):Int)=y→y+((0:Nat):Int)=8→x=8) _ _ h1 h2
 have h8:∀j,j < ({ (waitM a a.wait).1 with wait:=[] }:En).strs.length→(stAt { (waitM a a.wait).1 with wait:=[] } j).send=8∧StI (stAt { (waitM a a.wait).1 with wait:=[] } j):=fun j hj=>by
  have e:=w1.A.w.of hj
  have hid:=strm_pos (stOk_iff.1 (w1.A.w.st hj)).1
  have k1:=hown _ hid
  have k2:=w1.A.si (stAt { (waitM a a.wait).1 with wait:=[] } j).id
  rw [e] at k1 k2
  exact ⟨k1,k2⟩
 have hd:=saysM_dec (e:={ (waitM a a.wait).1 with wait:=[] }) w1.A.w h8 (by show 16≤(waitM a a.wait).1.send; omega)
 have e:(writeM a).1=(saysM a.strs.length 0 { (waitM a a.wait).1 with wait:=[] }).1:=rfl
 have e2:({ (waitM a a.wait).1 with wait:=[] }:En).strs.length=a.strs.length:=hl
 rw [e2] at hd
 rw [e,←hu]
 exact hd
end
theorem writeM_le {N:Nat} {e:En} (h:EnW N e):units (writeM e).1.strs≤units e.strs:=by
 obtain ⟨w1,w2,w3⟩:=waitM_w e.wait e h
 have hu:=waitM_units e.wait e
 have:=saysM_le e.strs.length 0 { (waitM e e.wait).1 with wait:=[] } w1.noWait (by simp [w2])
 have e1:(writeM e).1=(saysM e.strs.length 0 { (waitM e e.wait).1 with wait:=[] }).1:=rfl
 rw [e1,←hu]
 exact this
theorem writeM_zero {e:En} (h:units e.strs=0):writeM e=({ (waitM e e.wait).1 with wait:=[] },(waitM e e.wait).2):=by
 have hu:=waitM_units e.wait e
 have:∀(n k:Nat) (x:En),units x.strs=0→k+n≤x.strs.length→saysM n k x=(x,[]):=fun n=>by
  induction n with
  | zero=>intro k x _ _; rfl
  | succ n ih =>
   intro k x hx hk
   have h0:unit (stAt x k)=0:=by have:=units_at x.strs k (by omega); rw [hx] at this; exact Nat.le_zero.1 this
   show (let (e1,o1):=sayM x k; let (e2,o2):=saysM n (k+1) e1; (e2,o1++o2))=_
   rw [sayM_zero h0]
   simp only
   rw [ih (k+1) x hx (by omega)]
   rfl
 by_cases hl:e.strs.length≤(waitM e e.wait).1.strs.length
 ·show (let (e1,o1):=waitM e e.wait; let (e2,o2):=saysM e.strs.length 0 { e1 with wait:=[] }; (e2,o1++o2))=_
  simp only
  rw [this e.strs.length 0 { (waitM e e.wait).1 with wait:=[] } (hu.trans h) (by simpa using hl)]
  simp
 ·exfalso
  have hle:∀(l:List Fr) (x:En),(waitM x l).1.strs.length=x.strs.length:=fun l=>by
   induction l with
   | nil=>intro x; rfl
   | cons f l ih =>
    intro x
    refine (ih (roomM x f)).trans ?_
    unfold roomM; split
    ·rfl
    ·split
     ·rfl
     ·split
      ·rfl
      ·simp [setSt]
  exact hl (by rw [hle]; exact Nat.le_refl _)
theorem units_setSt {e:En} {k:Nat} {s:St} (hk:k < e.strs.length) (h:unit s≤unit (stAt e k)):units (setSt e k s).strs≤units e.strs:=by
 have:=units_set e.strs k s hk
 show units (e.strs.set k s)≤_
 have h:unit s≤unit (e.strs.getD k st0):=h
 omega
theorem frameM_c {e:En} (ha:e.ans=false) (f:Fr):units (frameM e f).strs≤units e.strs:=by
 have hdone:∀s:St,unit (doneM false s)≤unit s:=fun s=>by
  unfold doneM
  split
  ·rename_i h
   have:unit { s with heard:=true }=0:=zero_unit (.inl h)
   rw [this]; omega
  ·rw [if_neg (by decide)]
   have:unit { s with heard:=true,state:=2 }=0:=zero_unit (.inl (show ¬((2:Int)=1) by decide))
   rw [this]; omega
 unfold frameM
 split
 ·unfold headFM
  rw [growM_caller ha]
  simp only
  split
  ·rename_i t hd k hr hk
   split
   ·exact Nat.le_refl _
   ·refine units_setSt (e:={ e with inn:=t }) (atM_some hk).1 ?_
    have h0:unit { stAt e k with got:=hd }=unit (stAt e k):=rfl
    split
    ·rw [ha]; exact Nat.le_trans (hdone _) (Nat.le_of_eq h0)
    ·exact Nat.le_of_eq h0
  ·exact Nat.le_refl _
 ·split
  ·unfold dataM
   split
   ·exact Nat.le_refl _
   ·rename_i k hk
    simp only
    split
    ·exact Nat.le_refl _
    ·refine units_setSt (e:={ e with room:=_,wait:=_ }) (atM_some hk).1 ?_
     have h0:unit { stAt e k with text:=(stAt e k).text++f.body,room:=(stAt e k).room - f.body.length }=unit (stAt e k):=rfl
     split
     ·rw [ha]; exact Nat.le_trans (hdone _) (Nat.le_of_eq h0)
     ·exact Nat.le_of_eq h0
  ·split
   ·unfold moreM
    split
    ·exact Nat.le_refl _
    ·split
     ·exact Nat.le_refl _
     ·rename_i k hk
      exact units_setSt (e:={ e with bad:=_ }) (atM_some hk).1 (Nat.le_refl _)
   ·split
    ·exact Nat.le_refl _
    ·exact Nat.le_refl _
theorem hearsM_c:∀(n:Nat) (e:En),e.ans=false→units (hearsM n e).strs≤units e.strs
 | 0,e,_=>Nat.le_refl _
 | n+1,e,ha=>by
  unfold hearsM
  split
  ·exact Nat.le_refl _
  ·simp only
   split
   ·exact Nat.le_refl _
   ·split
    ·exact Nat.le_refl _
    ·have h1:=frameM_c (e:={ e with came:=e.came.drop (frR e.came).2.1 }) ha (frR e.came).1
     exact Nat.le_trans (hearsM_c n _ ((frameM_ans _ _).trans ha)) h1
theorem frameM_quiet {e:En} {f:Fr} (h0:f.kind≠0) (h1:f.kind≠1):units (frameM e f).strs≤units e.strs∧(frameM e f).wait=e.wait:=by
 unfold frameM
 rw [if_neg h1,if_neg h0]
 split
 ·unfold moreM
  split
  ·exact ⟨Nat.le_refl _,rfl⟩
  ·split
   ·exact ⟨Nat.le_refl _,rfl⟩
   ·rename_i k hk
    exact ⟨units_setSt (e:={ e with bad:=_ }) (atM_some hk).1 (Nat.le_refl _),rfl⟩
 ·split
  ·exact ⟨Nat.le_refl _,rfl⟩
  ·rename_i k hk
   split
   ·exact ⟨Nat.le_refl _,rfl⟩
   ·refine ⟨units_setSt (atM_some hk).1 ?_,rfl⟩
    have:unit { stAt e k with state:=3 }=0:=zero_unit (.inl (show ¬((3:Int)=1) by decide))
    rw [this]; omega
theorem hearsM_quiet:∀(n:Nat) (e:En) (fs:List Fr) (rest:List UInt8),e.came++rest=bytes fs→(∀f ∈ fs,frameOk f=true)→(∀f ∈ fs,f.kind≠0∧f.kind≠1) →
  units (hearsM n e).strs≤units e.strs∧(hearsM n e).wait=e.wait∧∃gs,(hearsM n e).came++rest=bytes gs∧(∀f ∈ gs,frameOk f=true)∧(∀f ∈ gs,f.kind≠0∧f.kind≠1)
 | 0,e,fs,rest,hb,hok,hq=>⟨Nat.le_refl _,rfl,fs,hb,hok,hq⟩
 | n+1,e,fs,rest,hb,hok,hq=>by
  unfold hearsM
  split
  ·exact ⟨Nat.le_refl _,rfl,fs,hb,hok,hq⟩
  ·simp only
   rcases frR_bytes hb hok with ⟨z,_⟩ | ⟨f,gs,rfl,q,hd⟩
   ·rw [if_neg (by omega),if_pos z]; exact ⟨Nat.le_refl _,rfl,fs,hb,hok,hq⟩
   ·rw [q,if_neg (show ¬((1:Int) < 0) by decide),if_neg (show ¬((1:Int)=0) by decide)]
    simp only
    obtain ⟨q0,q1⟩:=hq f (by simp)
    obtain ⟨u1,u2⟩:=frameM_quiet (e:={ e with came:=e.came.drop (4+f.body.length) }) q0 q1
    obtain ⟨v1,v2,v3⟩:=hearsM_quiet n (frameM { e with came:=e.came.drop (4+f.body.length) } f) gs rest (by rw [frameM_came]; exact hd) (fun g hg=>hok g (by simp [hg])) (fun g hg=>hq g (by simp [hg]))
    exact ⟨Nat.le_trans v1 u1,v2.trans u2,v3⟩
end
section
theorem Syn.emptyUp {w:Wo} {fu fd:List Fr} (h:Syn w fu fd) (hi:WoI w) (he:w.up=[]):fu=[]∧w.answerer.came=[]:=by
 have hb:=h.up
 rw [he] at hb
 have h0:=hi.answerer.zero h.j.A.nb
 rcases frR_bytes hb h.j.u.ok with ⟨_,_,z⟩ | ⟨f,gs,rfl,e,_⟩
 ·cases fu with
  | nil=>exact ⟨rfl,by simpa [bytes] using hb⟩
  | cons f gs =>
   have h1:=z f gs rfl
   have h2:=congrArg List.length hb
   rw [bytes_cons,List.length_append,List.length_append,frW_lenE] at h2
   simp at h2
   omega
 ·rw [e] at h0; cases h0
theorem Syn.emptyDown {w:Wo} {fu fd:List Fr} (h:Syn w fu fd) (hi:WoI w) (he:w.down=[]):fd=[]∧w.caller.came=[]:=by
 have hb:=h.down
 rw [he] at hb
 have h0:=hi.caller.zero h.j.C.nb
 rcases frR_bytes hb h.j.d.ok with ⟨_,_,z⟩ | ⟨f,gs,rfl,e,_⟩
 ·cases fd with
  | nil=>exact ⟨rfl,by simpa [bytes] using hb⟩
  | cons f gs =>
   have h1:=z f gs rfl
   have h2:=congrArg List.length hb
   rw [bytes_cons,List.length_append,List.length_append,frW_lenE] at h2
   simp at h2
   omega
 ·rw [e] at h0; cases h0
theorem pass_do (w:Wo) (way n:Int):passM w way n=doM w ⟨4,way,n,[],[]⟩:=rfl
theorem say_do (w:Wo) (side:Int):sayWM w side=doM w ⟨3,side,0,[],[]⟩:=rfl
theorem Pl.pass {w:Wo} (h:Pl w) (way n:Int):Pl (passM w way n):=by rw [pass_do]; exact h.step _
theorem Pl.say {w:Wo} (h:Pl w) (side:Int):Pl (sayWM w side):=by rw [say_do]; exact h.step _
theorem Pl.passUp {w:Wo} (h:Pl w):passM w 0 90={ w with answerer:=hearM w.answerer (w.up.take 90),up:=w.up.drop 90 }:=by
 obtain ⟨fu,fd,hs⟩:=h.syn
 have:=(hs.passUp h.all.2.inc (n:=90) (Nat.le_refl _)).1
 unfold passM
 rw [if_pos (by decide),if_pos rfl]
 show ({ w with answerer:=hearWM w.answerer (w.up.take 90),up:=w.up.drop 90 }:Wo)=_
 rw [this]
theorem Pl.passDown {w:Wo} (h:Pl w):passM w 1 90={ w with caller:=hearM w.caller (w.down.take 90),down:=w.down.drop 90 }:=by
 obtain ⟨fu,fd,hs⟩:=h.syn
 have:=(hs.passDown h.all.2.inc (n:=90) (Nat.le_refl _)).1
 unfold passM
 rw [if_pos (by decide),if_neg (by decide),if_pos rfl]
 show ({ w with caller:=hearWM w.caller (w.down.take 90),down:=w.down.drop 90 }:Wo)=_
 rw [this]
def Quiet (came wire:List UInt8):Prop:=∃qs,came++wire=bytes qs∧(∀f ∈ qs,frameOk f=true)∧(∀f ∈ qs,f.kind≠0∧f.kind≠1)
theorem hearM_quiet {e:En} {b wire:List UInt8} {n:Nat} (h:Quiet e.came wire) (hb:b=wire.take n):units (hearM e b).strs≤units e.strs∧(hearM e b).wait=e.wait∧Quiet (hearM e b).came (wire.drop n):=by
 obtain ⟨qs,h1,h2,h3⟩:=h
 subst hb
 obtain ⟨u1,u2,gs,u3⟩:=hearsM_quiet (e.came.length+(wire.take n).length+1) { e with came:=e.came++wire.take n } qs (wire.drop n) (by show (e.came++wire.take n)++wire.drop n=_; rw [List.append_assoc,List.take_append_drop]; exact h1) h2 h3
 exact ⟨u1,u2,gs,u3⟩
theorem all_up:∀(n:Nat) {w:Wo} {fu fd:List Fr},Pl w→Syn w fu fd→w.up.length≤90 * n→0 < n →
  Pl (allM n w 0)∧Syn (allM n w 0) [] fd∧(allM n w 0).up=[]∧(allM n w 0).down=w.down∧(allM n w 0).caller=w.caller∧(Quiet w.answerer.came w.up→units (allM n w 0).answerer.strs≤units w.answerer.strs∧(allM n w 0).answerer.wait=w.answerer.wait)
 | 0,w,fu,fd,_,_,_,h0=>by omega
 | n+1,w,fu,fd,hp,hs,hl,_=>by
  have hx:=hp.passUp
  have hpx:=hp.pass 0 90
  obtain ⟨gs,hsx⟩:=(hs.passUp hp.all.2.inc (n:=90) (Nat.le_refl _)).2
  rw [←hx] at hsx
  have hq:Quiet w.answerer.came w.up→units (passM w 0 90).answerer.strs≤units w.answerer.strs∧(passM w 0 90).answerer.wait=w.answerer.wait∧Quiet (passM w 0 90).answerer.came (passM w 0 90).up:=fun q=>by
   rw [hx]; exact hearM_quiet q rfl
  have hc:(passM w 0 90).caller=w.caller:=by rw [hx]
  have hd:(passM w 0 90).down=w.down:=by rw [hx]
  have hu:(passM w 0 90).up=w.up.drop 90:=by rw [hx]
  unfold allM
  by_cases he:(passM w 0 90).up=[]
  ·rw [if_pos (.inl ⟨rfl,he⟩)]
   have:=(hsx.emptyUp hpx.all.2.inc he).1
   subst this
   exact ⟨hpx,hsx,he,hd,hc,fun q=>⟨(hq q).1,(hq q).2.1⟩⟩
  ·rw [if_neg (by rintro (z | z); exact he z.2; exact absurd z.1 (by decide))]
   have hl':(passM w 0 90).up.length≤90 * n:=by rw [hu,List.length_drop]; omega
   have hn:0 < n:=by
    have:=List.length_pos_iff.2 he
    omega
   obtain ⟨a1,a2,a3,a4,a5,a6⟩:=all_up n hpx hsx hl' hn
   exact ⟨a1,a2,a3,a4.trans hd,a5.trans hc,fun q=>⟨Nat.le_trans (a6 (hq q).2.2).1 (hq q).1,(a6 (hq q).2.2).2.trans (hq q).2.1⟩⟩
structure CState (e x:En):Prop where
 len:x.strs.length=e.strs.length
 at_:∀i,(stAt x i).state=3→(stAt e i).state=3
theorem CState.refl (e:En):CState e e:=⟨rfl,fun _=>id⟩
theorem CState.same {e x:En} (h:x.strs=e.strs):CState e x:=⟨by rw [h],fun i hi=>by rw [stAt,h] at hi; exact hi⟩
theorem CState.trans {e x y:En} (h:CState e x) (k:CState x y):CState e y:=⟨k.len.trans h.len,fun i hi=>h.at_ i (k.at_ i hi)⟩
theorem CState.set {e x:En} {k:Nat} {s:St} (h:CState e x) (hk:k < x.strs.length) (hs:s.state=3→(stAt x k).state=3):CState e (setSt x k s):=by
 refine h.trans ⟨by simp [setSt],fun i hi=>?_⟩
 have hi:((x.strs.set k s).getD i st0).state=3:=hi
 rw [getD_set st0 s hk] at hi
 split at hi
 ·rename_i q; rw [q]; exact hs hi
 ·exact hi
theorem roomM_cs (e:En) (f:Fr):CState e (roomM e f):=by
 unfold roomM
 split
 ·exact .refl e
 ·split
  ·exact .same rfl
  ·split
   ·exact .refl e
   ·rename_i k hk
    exact (CState.refl e).set (atM_some hk).1 id
theorem waitM_cs:∀(l:List Fr) (e:En),CState e (waitM e l).1
 | [],e=>.refl e
 | f :: l,e=>(roomM_cs e f).trans (waitM_cs l _)
theorem sayM_cs {e:En} (ha:e.ans=false) {k:Nat} (hk:k < e.strs.length):CState e (sayM e k).1:=by
 unfold sayM
 simp only
 split
 ·exact .refl e
 ·obtain ⟨b1,b2,b3,b4⟩:=beginM_keeps e (stAt e k)
  obtain ⟨c1,c2,c3,c4⟩:=pieceM_keeps (beginM e (stAt e k)).1 (beginM e (stAt e k)).2.1
  have hst:=c3.trans b3
  have hat:stAt (pieceM (beginM e (stAt e k)).1 (beginM e (stAt e k)).2.1).1 k=stAt e k:=congrArg (fun l:List St=>l.getD k st0) hst
  refine CState.set (.same hst) (by rw [hst]; exact hk) (fun q=>?_)
  rw [hat]
  rw [ha] at q
  have q:(pieceM (beginM e (stAt e k)).1 (beginM e (stAt e k)).2.1).2.1.state=3:=by simpa using q
  rw [c4,b4] at q
  exact q
theorem saysM_cs {N:Nat}:∀(n k:Nat) (e:En),e.ans=false→EnW N e→k+n≤e.strs.length→CState e (saysM n k e).1
 | 0,k,e,_,_,_=>.refl e
 | n+1,k,e,ha,hw,hk=>by
  obtain ⟨r1,r2⟩:=sayM_w hw (k:=k) (by omega)
  exact (sayM_cs ha (by omega)).trans (saysM_cs n (k+1) (sayM e k).1 ((sayM_ans e k).trans ha) r1 (by omega))
theorem writeM_cs {N:Nat} {e:En} (ha:e.ans=false) (hw:EnW N e):CState e (writeM e).1:=by
 obtain ⟨r1,r2,_⟩:=waitM_w e.wait e hw
 have h1:=(waitM_cs e.wait e).trans (.same (x:={ (waitM e e.wait).1 with wait:=[] }) rfl)
 exact h1.trans (saysM_cs (N:=0) e.strs.length 0 { (waitM e e.wait).1 with wait:=[] } ((waitM_ans _ _).trans ha) r1.noWait (by simp [r2]))
theorem doneM_cs {s:St} (h:(doneM false s).state=3):s.state=3:=by
 unfold doneM at h
 split at h
 ·exact h
 ·rw [if_neg (by decide)] at h; exact absurd (show (2:Int)=3 from h) (by decide)
theorem frameM_cs {e:En} (ha:e.ans=false) (f:Fr):CState e (frameM e f):=by
 unfold frameM
 split
 ·unfold headFM
  rw [growM_caller ha]
  simp only
  split
  ·rename_i t hd k hr hk
   split
   ·exact .same rfl
   ·refine CState.set (x:={ e with inn:=t }) (.same rfl) (atM_some hk).1 (fun q=>?_)
    split at q
    ·rw [ha] at q; have:=doneM_cs q; exact this
    ·exact q
  ·exact .same rfl
 ·split
  ·unfold dataM
   split
   ·exact .same rfl
   ·rename_i k hk
    simp only
    split
    ·exact .same rfl
    ·refine CState.set (x:={ e with room:=_,wait:=_ }) (.same rfl) (atM_some hk).1 (fun q=>?_)
     split at q
     ·rw [ha] at q; have:=doneM_cs q; exact this
     ·exact q
  ·split
   ·unfold moreM
    split
    ·exact .same rfl
    ·split
     ·exact .same rfl
     ·rename_i k hk
      exact CState.set (x:={ e with bad:=_ }) (.same rfl) (atM_some hk).1 id
   ·split
    ·exact .same rfl
    ·exact .same rfl
theorem hearsM_cs:∀(n:Nat) (e:En),e.ans=false→CState e (hearsM n e)
 | 0,e,_=>.refl e
 | n+1,e,ha=>by
  unfold hearsM
  split
  ·exact .refl e
  ·simp only
   split
   ·exact .same rfl
   ·split
    ·exact .refl e
    ·have h0:CState e { e with came:=e.came.drop (frR e.came).2.1 }:=.same rfl
     exact (h0.trans (frameM_cs (e:={ e with came:=e.came.drop (frR e.came).2.1 }) ha (frR e.came).1)).trans (hearsM_cs n _ ((frameM_ans _ _).trans ha))
theorem hearM_cs {e:En} (ha:e.ans=false) (b:List UInt8):CState e (hearM e b):=by
 have h0:CState e { e with came:=e.came++b }:=.same rfl
 exact h0.trans (hearsM_cs _ _ ha)
theorem all_down:∀(n:Nat) {w:Wo} {fu fd:List Fr},Pl w→Syn w fu fd→w.down.length≤90 * n→0 < n →
  Pl (allM n w 1)∧Syn (allM n w 1) fu []∧(allM n w 1).down=[]∧(allM n w 1).up=w.up∧(allM n w 1).answerer=w.answerer∧units (allM n w 1).caller.strs≤units w.caller.strs∧CState w.caller (allM n w 1).caller∧(w.down=[]→allM n w 1=w)
 | 0,w,fu,fd,_,_,_,h0=>by omega
 | n+1,w,fu,fd,hp,hs,hl,_=>by
  have hx:=hp.passDown
  have hpx:=hp.pass 1 90
  obtain ⟨gs,hsx⟩:=(hs.passDown hp.all.2.inc (n:=90) (Nat.le_refl _)).2
  rw [←hx] at hsx
  have ha:=hs.j.cans
  have hq:units (passM w 1 90).caller.strs≤units w.caller.strs:=by
   rw [hx]; exact hearsM_c _ { w.caller with came:=w.caller.came++w.down.take 90 } ha
  have hcs:CState w.caller (passM w 1 90).caller:=by rw [hx]; exact hearM_cs ha _
  have hc:(passM w 1 90).answerer=w.answerer:=by rw [hx]
  have hd:(passM w 1 90).up=w.up:=by rw [hx]
  have hu:(passM w 1 90).down=w.down.drop 90:=by rw [hx]
  have hidle:=hp.all.idle.2
  unfold allM
  by_cases he:(passM w 1 90).down=[]
  ·rw [if_pos (.inr ⟨rfl,he⟩)]
   have:=(hsx.emptyDown hpx.all.2.inc he).1
   subst this
   exact ⟨hpx,hsx,he,hd,hc,hq,hcs,hidle⟩
  ·rw [if_neg (by rintro (z | z); exact absurd z.1 (by decide); exact he z.2)]
   have hl':(passM w 1 90).down.length≤90 * n:=by rw [hu,List.length_drop]; omega
   have hn:0 < n:=by
    have:=List.length_pos_iff.2 he
    omega
   obtain ⟨a1,a2,a3,a4,a5,a6,a7,a8⟩:=all_down n hpx hsx hl' hn
   exact ⟨a1,a2,a3,a4.trans hd,a5.trans hc,Nat.le_trans a6 hq,hcs.trans a7,fun z=>absurd (by rw [hu,z]; rfl) he⟩
structure Clr (w:Wo):Prop where
 pl:Pl w
 syn:Syn w [] []
 up:w.up=[]
 down:w.down=[]
theorem Pl.wire {w:Wo} (h:Pl w):w.up.length≤800∧w.down.length≤800:=⟨h.all.1.up,h.all.1.down⟩
theorem roundM_eq (w:Wo):roundM w=allM 12 (sayWM (allM 12 (sayWM w 0) 0) 1) 1:=rfl
theorem say0_keeps (w:Wo):(sayWM w 0).answerer=w.answerer∧(sayWM w 0).down=w.down:=by
 unfold sayWM; rw [if_pos rfl]; split <;> exact ⟨rfl,rfl⟩
theorem say1_keeps (w:Wo):(sayWM w 1).caller=w.caller∧(sayWM w 1).up=w.up:=by
 unfold sayWM; rw [if_neg (by decide),if_pos rfl]; split <;> exact ⟨rfl,rfl⟩
theorem say0_cs {w:Wo} {fu fd:List Fr} (h:Syn w fu fd):CState w.caller (sayWM w 0).caller:=by
 unfold sayWM
 rw [if_pos rfl]
 split
 ·exact writeM_cs h.j.cans h.j.C.w
 ·exact .refl _
theorem round_clr {w:Wo} (h:Pl w):Clr (roundM w)∧CState w.caller (roundM w).caller:=by
 obtain ⟨fu,fd,hs⟩:=h.syn
 have h1:=h.say 0
 obtain ⟨fu1,fd1,hs1⟩:=h1.syn
 obtain ⟨a1,a2,a3,a4,a5,_⟩:=all_up 12 h1 hs1 (by have:=h1.wire; omega) (by decide)
 have h3:=a1.say 1
 obtain ⟨fu3,fd3,hs3⟩:=h3.syn
 have hu3:(sayWM (allM 12 (sayWM w 0) 0) 1).up=[]:=(say1_keeps _).2.trans a3
 have:=(hs3.emptyUp h3.all.2.inc hu3).1
 subst this
 obtain ⟨b1,b2,b3,b4,b5,b6,b7,_⟩:=all_down 12 h3 hs3 (by have:=h3.wire; omega) (by decide)
 refine ⟨⟨b1,b2,b4.trans hu3,b3⟩,?_⟩
 have c1:=say0_cs hs
 rw [←a5] at c1
 have c2:(sayWM (allM 12 (sayWM w 0) 0) 1).caller=(allM 12 (sayWM w 0) 0).caller:=(say1_keeps _).1
 rw [←c2] at c1
 exact c1.trans b7
theorem dec_mono {n m:Nat} (h:n≤m):dec n≤dec m:=by unfold dec; split <;> split <;> omega
theorem round_next {w:Wo} (h:Clr w) :
  Clr (roundM w)∧(roundM w).answerer.wait=[]∧units (roundM w).caller.strs≤units w.caller.strs∧(w.answerer.wait=[]→units (roundM w).caller.strs≤dec (units w.caller.strs)) ∧
  (units w.caller.strs=0→units (roundM w).answerer.strs≤dec (units w.answerer.strs))∧(units w.caller.strs=0→units w.answerer.strs=0→w.answerer.wait=[]→(roundM w).caller.wait=[]):=by
 have hclr:=(round_clr h.pl).1
 have hJ:=h.syn.j
 have e1:sayWM w 0={ w with caller:=(writeM w.caller).1,up:=w.up++(writeM w.caller).2 }:=by
  unfold sayWM; rw [if_pos rfl,if_pos ⟨hJ.C.nb,by rw [h.up]; simpa using hJ.toJ0.shortUp⟩]
 have h1:=h.pl.say 0
 obtain ⟨fu1,fd1,hs1⟩:=h1.syn
 have hd1:(sayWM w 0).down=[]:=(say0_keeps w).2.trans h.down
 have:=(hs1.emptyDown h1.all.2.inc hd1).1
 subst this
 obtain ⟨a1,a2,a3,a4,a5,a6⟩:=all_up 12 h1 hs1 (by have:=h1.wire; omega) (by decide)
 have hcw:(sayWM w 0).caller.wait=[]:=by rw [e1]; exact (writeM_loc hJ.cl).2
 have hcu:units (sayWM w 0).caller.strs≤units w.caller.strs:=by rw [e1]; exact writeM_le hJ.C.w
 have hcd:w.answerer.wait=[]→units (sayWM w 0).caller.strs≤dec (units w.caller.strs):=fun q=>by rw [e1]; exact hJ.toJ0.decUp q
 have hqu:units w.caller.strs=0→Quiet (sayWM w 0).answerer.came (sayWM w 0).up:=fun q=>by
  have e2:(sayWM w 0).up=bytes w.caller.wait:=by
   rw [e1,h.up,writeM_zero q]
   exact (J0.waitUp w.caller.wait hJ.toJ0 rfl).2
  refine ⟨w.caller.wait,?_,hJ.C.w.wait,fun f hf=>?_⟩
  ·rw [e2,(say0_keeps w).1,(h.syn.emptyUp h.pl.all.2.inc h.up).2]; rfl
  ·rcases hJ.C.waits f hf with z | z
   ·rw [z]; exact ⟨by decide,by decide⟩
   ·rw [z.1]; exact ⟨by decide,by decide⟩
 have hau:units w.caller.strs=0→units (allM 12 (sayWM w 0) 0).answerer.strs≤units w.answerer.strs∧(allM 12 (sayWM w 0) 0).answerer.wait=w.answerer.wait:=fun q=>by
  have:=a6 (hqu q)
  rw [(say0_keeps w).1] at this
  exact this
 rw [roundM_eq] at hclr ⊢
 generalize allM 12 (sayWM w 0) 0=x at *
 have hJx:=a2.j
 have hdx:x.down=[]:=a4.trans hd1
 have e3:sayWM x 1={ x with answerer:=(writeM x.answerer).1,down:=x.down++(writeM x.answerer).2 }:=by
  unfold sayWM; rw [if_neg (by decide),if_pos rfl,if_pos ⟨hJx.A.nb,by rw [hdx]; simpa using hJx.toJ0.shortDown⟩]
 have h3:=a1.say 1
 obtain ⟨fu3,fd3,hs3⟩:=h3.syn
 obtain ⟨b1,b2,b3,b4,b5,b6,b7,b8⟩:=all_down 12 h3 hs3 (by have:=h3.wire; omega) (by decide)
 have hxc:(sayWM x 1).caller=(sayWM w 0).caller:=((say1_keeps x).1).trans a5
 have hxw:x.caller.wait=[]:=by rw [a5]; exact hcw
 rw [hxc] at b6
 refine ⟨hclr,?_,Nat.le_trans b6 hcu,fun q=>Nat.le_trans b6 (hcd q),fun q=>?_,fun q1 q2 q3=>?_⟩
 ·rw [b5,e3]; exact (writeM_loc hJx.al).2
 ·rw [b5,e3]
  exact Nat.le_trans (hJx.toJ0.decDown hxw) (dec_mono (hau q).1)
 ·obtain ⟨u1,u2⟩:=hau q1
  have hz:units x.answerer.strs=0:=by omega
  have hw0:x.answerer.wait=[]:=u2.trans q3
  have hd3:(sayWM x 1).down=[]:=by
   rw [e3,hdx,writeM_zero hz,hw0]; rfl
  rw [b8 hd3,(say1_keeps x).1]
  exact hxw
structure Rest (w:Wo):Prop extends Clr w where
 cw:w.caller.wait=[]
 aw:w.answerer.wait=[]
 cu:units w.caller.strs=0
 au:units w.answerer.strs=0
theorem Rest.round {w:Wo} (h:Rest w):roundM w=w:=by
 have key:∀e:En,units e.strs=0→e.wait=[]→writeM e=(e,[]):=fun e h0 hw=>by
  rw [writeM_zero h0,hw]
  show (({ e with wait:=[] }:En),_)=_
  cases e; simp only at hw; subst hw; rfl
 obtain ⟨i1,i2⟩:=h.pl.all.idle
 have e1:sayWM w 0=w:=by
  unfold sayWM
  rw [if_pos rfl,key _ h.cu h.cw]
  split
  ·simp
  ·rfl
 have e2:allM 12 w 0=w:=by
  unfold allM
  rw [i1 h.up,if_pos (.inl ⟨rfl,h.up⟩)]
 have e3:sayWM w 1=w:=by
  unfold sayWM
  rw [if_neg (by decide),if_pos rfl,key _ h.au h.aw]
  split
  ·simp
  ·rfl
 have e4:allM 12 w 1=w:=by
  unfold allM
  rw [i2 h.down,if_pos (.inr ⟨rfl,h.down⟩)]
 rw [roundM_eq,e1,e2,e3,e4]
theorem rounds_cs:∀(n:Nat) {w:Wo},Pl w→Pl (roundsM n w)∧CState w.caller (roundsM n w).caller
 | 0,w,h=>⟨h,.refl _⟩
 | n+1,w,h=>by
  obtain ⟨h1,h2⟩:=rounds_cs n h
  rw [roundsM_snoc]
  obtain ⟨h3,h4⟩:=round_clr h1
  exact ⟨h3.pl,h2.trans h4⟩
theorem allM_grow:∀(n:Nat) (way:Int) {w:Wo},Pl w→EnGrow w.caller (allM n w way).caller∧Pl (allM n w way)
 | 0,way,w,h=>⟨.refl _,h⟩
 | n+1,way,w,h=>by
  have h1:EnGrow w.caller (passM w way 90).caller:=by rw [pass_do]; exact (doM_grow h.all.1 _).1
  unfold allM
  split
  ·exact ⟨h1,h.pass way 90⟩
  ·obtain ⟨a,b⟩:=allM_grow n way (h.pass way 90)
   exact ⟨h1.trans a,b⟩
theorem say_grow {w:Wo} (h:Pl w) (side:Int):EnGrow w.caller (sayWM w side).caller:=by rw [say_do]; exact (doM_grow h.all.1 _).1
theorem rounds_grow:∀(n:Nat) {w:Wo},Pl w→EnGrow w.caller (roundsM n w).caller
 | 0,w,h=>.refl _
 | n+1,w,h=>by
  have h1:=rounds_grow n h
  have hp:=(rounds_cs n h).1
  rw [roundsM_snoc,roundM_eq]
  obtain ⟨a1,a2⟩:=allM_grow 12 0 (hp.say 0)
  obtain ⟨b1,b2⟩:=allM_grow 12 1 (a2.say 1)
  exact (((h1.trans (say_grow hp 0)).trans a1).trans (say_grow a2 1)).trans b1
theorem units8 {N:Nat} {e:En} (h:EnW N e):units e.strs≤8:=by
 have:=units_le e.strs; have:=stsOk_len h.sts; omega
def bnd:Nat→Nat
 | 0=>8
 | n+1=>dec (bnd n)
theorem bnd5:bnd 5=0:=by decide
theorem calm_seq (f:Nat→Wo) (hf:∀n,f (n+1)=roundM (f n)) (h:Pl (f 0)):Rest (f 13):=by
 have h1:Clr (f 1):=by rw [hf]; exact (round_clr h).1
 have h2:Clr (f 2)∧(f 2).answerer.wait=[]:=by rw [hf]; obtain ⟨a,b,_⟩:=round_next h1; exact ⟨a,b⟩
 have up:∀n,Clr (f (2+n))∧(f (2+n)).answerer.wait=[]∧units (f (2+n)).caller.strs≤bnd n:=by
  intro n
  induction n with
  | zero=>exact ⟨h2.1,h2.2,units8 h2.1.syn.j.C.w⟩
  | succ n ih =>
   obtain ⟨a,b,c⟩:=ih
   rw [show 2+(n+1)=(2+n)+1 by omega,hf]
   obtain ⟨x1,x2,x3,x4,_⟩:=round_next a
   exact ⟨x1,x2,Nat.le_trans (x4 b) (dec_mono c)⟩
 obtain ⟨d1,d2,d3⟩:=up 5
 rw [bnd5] at d3
 have d3:units (f 7).caller.strs=0:=Nat.le_zero.1 d3
 have dn:∀n,Clr (f (7+n))∧(f (7+n)).answerer.wait=[]∧units (f (7+n)).caller.strs=0∧units (f (7+n)).answerer.strs≤bnd n:=by
  intro n
  induction n with
  | zero=>exact ⟨d1,d2,d3,units8 d1.syn.j.A.w⟩
  | succ n ih =>
   obtain ⟨a,b,c0,c⟩:=ih
   rw [show 7+(n+1)=(7+n)+1 by omega,hf]
   obtain ⟨x1,x2,x3,x4,x5,_⟩:=round_next a
   exact ⟨x1,x2,by omega,Nat.le_trans (x5 c0) (dec_mono c)⟩
 obtain ⟨f1,f2,f3,f4⟩:=dn 5
 rw [bnd5] at f4
 have f4:units (f 12).answerer.strs=0:=Nat.le_zero.1 f4
 have f3:units (f 12).caller.strs=0:=f3
 rw [hf]
 obtain ⟨x1,x2,x3,x4,x5,x6⟩:=round_next f1
 have:=x5 f3
 rw [show units (f (7+5)).answerer.strs=0 from f4] at this
 exact ⟨x1,x6 f3 f4 f2,x2,Nat.le_zero.1 (f3 ▸ x3),Nat.le_zero.1 this⟩
theorem calm_rest {w:Wo} (h:Pl w):Rest (roundsM 13 w):=calm_seq (fun n=>roundsM n w) (fun n=>roundsM_snoc n w) h
theorem calm_all {w:Wo} (h:Pl w) {n:Nat} (hn:13≤n):Rest (roundsM n w):=by
 have e:∀(f:Nat→Wo),(∀n,f (n+1)=roundM (f n))→Rest (f 13)→∀k,Rest (f (13+k)):=fun f hf h0 k=>by
  induction k with
  | zero=>exact h0
  | succ k ih=>rw [show 13+(k+1)=(13+k)+1 by omega,hf,ih.round]; exact ih
 have:=e (fun n=>roundsM n w) (fun n=>roundsM_snoc n w) (calm_rest h) (n - 13)
 rwa [show 13+(n - 13)=n by omega] at this
theorem Rest.calls {w:Wo} (h:Rest w) {i:Nat} (hi:i < w.caller.strs.length):(stAt w.caller i).state=2∨(stAt w.caller i).state=3:=by
 have hJ:=h.syn.j
 have hr:=(stOk_iff.1 (hJ.C.w.st hi)).2.1
 by_cases h1:(stAt w.caller i).state=1
 ·exfalso
  have hof:=hJ.C.w.of hi
  have hat:Has w.caller (stAt w.caller i).id:=Has.at_ hi
  generalize hid:(stAt w.caller i).id=id at *
  have hsc:=hJ.C.sc hJ.cans id hat
  have hne:(stOf w.caller id).head≠[]:=by obtain ⟨path,e⟩:=hsc.head; rw [e]; simp [callHead]
  have h0:unit (stAt w.caller i)=0:=by have:=units_at w.caller.strs i hi; rw [h.cu] at this; exact Nat.le_zero.1 this
  have hsd:(stOf w.caller id).said=true:=by
   rcases unit_zero h0 with z | z | z
   ·exact absurd h1 z
   ·rw [hof] at hne; exact absurd z hne
   ·rw [hof]; exact z
  have hru:=hJ.u.run id
  rw [h.cw] at hru
  have hru:rv (stOf w.answerer id)=sd (stOf w.caller id):=Option.some.inj hru
  have hah:(stOf w.answerer id).heard=true:=(congrArg Rv.h hru).trans hsd
  have has:=hJ.A.sa hJ.aans id
  have hs3:(stOf w.answerer id).state≠3:=fun z=>by
   have:=hJ.gone id (.inl z)
   rw [hof,h1] at this; cases this
  have hane:=has.asked hah hs3
  obtain ⟨k,hk⟩:=got_has ((hJ.u.all hJ.C.si hah).2.2.2.2)
  have ha0:unit (stAt w.answerer k)=0:=by have:=units_at w.answerer.strs k (atM_some hk).1; rw [h.au] at this; exact Nat.le_zero.1 this
  have haof:=stOf_some hk
  have hasd:(stOf w.answerer id).said=true:=by
   rw [haof] at hane hs3 has ⊢
   have hrr:=(stOk_iff.1 (hJ.A.w.st (atM_some hk).1)).2.1
   rcases unit_zero ha0 with z | z | z
   ·have:(stAt w.answerer k).state=2:=by omega
    exact has.done this
   ·exact absurd z hane
   ·exact z
  have hrd:=hJ.d.run id
  rw [h.aw] at hrd
  have hrd:rv (stOf w.caller id)=sd (stOf w.answerer id):=Option.some.inj hrd
  have hch:(stOf w.caller id).heard=true:=(congrArg Rv.h hrd).trans hasd
  exact hsc.heard hch (by rw [hof]; exact h1)
 ·omega
theorem Rest.flow {w:Wo} (h:Rest w):w.caller.send=16∧w.caller.room=16∧w.answerer.send=16∧w.answerer.room=16:=by
 have hJ:=h.syn.j
 have h1:=hJ.u.flow
 have h2:=hJ.d.flow
 have h3:=hJ.C.sum
 have h4:=hJ.A.sum
 rw [h.cw] at h3
 rw [h.aw] at h4
 simp only [dat,mor] at h1 h2 h3 h4
 omega
end
end Go.Proofs.YtodjmflbakfmjaaGreatDoor
