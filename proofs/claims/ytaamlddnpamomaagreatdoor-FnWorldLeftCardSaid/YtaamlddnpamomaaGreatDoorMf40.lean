/- A part of the proof: contracts of functions, or plain facts on which these lean. -/
import Derived.Test.YtaamlddnpamomaaGreatDoorMf25
import Derived.Test.YtaamlddnpamomaaGreatDoorMf35
import Derived.Test.YtaamlddnpamomaaGreatDoorMf39
namespace Go.Proofs.YtaamlddnpamomaaGreatDoor
open Go
set_option linter.unusedVariables false
set_option linter.unusedSimpArgs false
set_option maxRecDepth 100000
set_option maxHeartbeats 16000000

section
structure StGrow (a b:St):Prop where
 id:b.id=a.id
 text:∃t,b.text=a.text++t
 say:b.say=a.say
 sent:a.sent≤b.sent
 state:a.state≠1→b.state=a.state
theorem StGrow.refl (a:St):StGrow a a:=⟨rfl,⟨[],(List.append_nil _).symm⟩,rfl,Int.le_refl _,fun _=>rfl⟩
theorem StGrow.trans {a b c:St} (h:StGrow a b) (k:StGrow b c):StGrow a c:=by
 obtain ⟨t,ht⟩:=h.text
 obtain ⟨u,hu⟩:=k.text
 exact ⟨k.id.trans h.id,⟨t++u,by rw [hu,ht,List.append_assoc]⟩,k.say.trans h.say,Int.le_trans h.sent k.sent,fun q=>by rw [k.state (by rw [h.state q]; exact q),h.state q]⟩
structure EnGrow (e x:En):Prop where
 len:e.strs.length≤x.strs.length
 at_:∀i,i < e.strs.length→StGrow (stAt e i) (stAt x i)
theorem EnGrow.same {e x:En} (h:x.strs=e.strs):EnGrow e x:=⟨by rw [h]; exact Nat.le_refl _,fun i _=>by rw [stAt,stAt,h]; exact .refl _⟩
theorem EnGrow.refl (e:En):EnGrow e e:=EnGrow.same rfl
theorem EnGrow.trans {e x y:En} (h:EnGrow e x) (k:EnGrow x y):EnGrow e y:=⟨Nat.le_trans h.len k.len,fun i hi=>(h.at_ i hi).trans (k.at_ i (Nat.lt_of_lt_of_le hi h.len))⟩
theorem EnGrow.set {e x:En} {k:Nat} {s:St} (h:EnGrow e x) (hk:k < x.strs.length) (hs:StGrow (stAt x k) s):EnGrow e (setSt x k s):=by
 refine h.trans ⟨by simp [setSt],fun i hi=>?_⟩
 show StGrow (stAt x i) ((x.strs.set k s).getD i st0)
 rw [getD_set st0 s hk]
 split
 ·rename_i q; subst q; exact hs
 ·exact .refl _
theorem EnGrow.app {e x:En} {s:St} (h:EnGrow e x):EnGrow e { x with strs:=x.strs++[s] }:=by
 refine h.trans ⟨by simp,fun i hi=>?_⟩
 show StGrow (stAt x i) ((x.strs++[s]).getD i st0)
 rw [getD_app st0 s,if_pos hi]
 exact .refl _
theorem callM_grow (e:En) (p t:List UInt8):EnGrow e (callM e p t).1∧(callM e p t).1.strs.length≤e.strs.length+1:=by
 unfold callM
 split
 ·exact ⟨.refl e,by simp⟩
 ·exact ⟨(EnGrow.refl e).app,by simp⟩
theorem leaveM_grow (e:En) (id:Int):EnGrow e (leaveM e id).1∧(leaveM e id).1.strs.length=e.strs.length:=by
 unfold leaveM
 split
 ·exact ⟨.refl e,rfl⟩
 ·rename_i k hk
  obtain ⟨h1,h2⟩:=atM_some hk
  split
  ·exact ⟨.refl e,rfl⟩
  ·rename_i hc
   have hs:(stAt e k).state=1:=by simpa using fun q=>hc (.inr q)
   refine ⟨EnGrow.set (e:=e) (x:={ e with wait:=_ }) (.same rfl) h1 ⟨rfl,⟨[],(List.append_nil _).symm⟩,rfl,Int.le_refl _,fun q=>absurd hs q⟩,by simp [setSt]⟩
theorem sayM_grow {e:En} (ha:e.ans=false) {N:Nat} (hw:EnW N e) {k:Nat} (hk:k < e.strs.length):EnGrow e (sayM e k).1:=by
 unfold sayM
 simp only
 split
 ·exact .refl e
 ·rename_i hc
  have hs:(stAt e k).state=1:=by simpa using fun q=>hc (.inl q)
  obtain ⟨b1,b2,b3,b4⟩:=beginM_keeps e (stAt e k)
  obtain ⟨c1,c2,c3,c4⟩:=pieceM_keeps (beginM e (stAt e k)).1 (beginM e (stAt e k)).2.1
  have e1:∀x s,(beginM x s).2.1.id=s.id∧(beginM x s).2.1.text=s.text∧(beginM x s).2.1.say=s.say∧(beginM x s).2.1.sent=s.sent:=fun x s=>by unfold beginM; split <;> exact ⟨rfl,rfl,rfl,rfl⟩
  have e2:∀x s,(pieceM x s).2.1.id=s.id∧(pieceM x s).2.1.text=s.text∧(pieceM x s).2.1.say=s.say∧s.sent≤(pieceM x s).2.1.sent:=fun x s=>by
   unfold pieceM
   split
   ·rename_i h; exact ⟨rfl,rfl,rfl,by simp only; omega⟩
   ·exact ⟨rfl,rfl,rfl,Int.le_refl _⟩
  obtain ⟨d1,d2,d3,d4⟩:=e1 e (stAt e k)
  obtain ⟨f1,f2,f3,f4⟩:=e2 (beginM e (stAt e k)).1 (beginM e (stAt e k)).2.1
  have hst:(pieceM (beginM e (stAt e k)).1 (beginM e (stAt e k)).2.1).1.strs=e.strs:=c3.trans b3
  refine EnGrow.set (.same hst) (by rw [hst]; exact hk) ?_
  have hat:stAt (pieceM (beginM e (stAt e k)).1 (beginM e (stAt e k)).2.1).1 k=stAt e k:=congrArg (fun l:List St=>l.getD k st0) hst
  rw [hat]
  exact ⟨f1.trans d1,⟨[],by simp only [List.append_nil]; exact f2.trans d2⟩,f3.trans d3,by rw [d4] at f4; exact f4,fun q=>absurd hs q⟩
theorem saysM_grow {N:Nat}:∀(n k:Nat) (e:En),e.ans=false→EnW N e→k+n≤e.strs.length→EnGrow e (saysM n k e).1
 | 0,k,e,_,_,_=>.refl e
 | n+1,k,e,ha,hw,hk=>by
  obtain ⟨r1,r2⟩:=sayM_w hw (k:=k) (by omega)
  exact (sayM_grow ha hw (by omega)).trans (saysM_grow n (k+1) (sayM e k).1 ((sayM_ans e k).trans ha) r1 (by omega))
theorem roomM_grow (e:En) (f:Fr):EnGrow e (roomM e f):=by
 unfold roomM
 split
 ·exact .refl e
 ·split
  ·exact .same rfl
  ·split
   ·exact .refl e
   ·rename_i k hk
    exact (EnGrow.refl e).set (atM_some hk).1 ⟨rfl,⟨[],(List.append_nil _).symm⟩,rfl,Int.le_refl _,fun _=>rfl⟩
theorem waitM_grow:∀(l:List Fr) (e:En),EnGrow e (waitM e l).1
 | [],e=>.refl e
 | f :: l,e=>(roomM_grow e f).trans (waitM_grow l (roomM e f))
theorem writeM_grow {N:Nat} {e:En} (ha:e.ans=false) (hw:EnW N e):EnGrow e (writeM e).1∧(writeM e).1.strs.length=e.strs.length:=by
 obtain ⟨r1,r2,_⟩:=waitM_w e.wait e hw
 have h1:=(waitM_grow e.wait e).trans (.same (x:={ (waitM e e.wait).1 with wait:=[] }) rfl)
 have h2:=saysM_grow (N:=0) e.strs.length 0 { (waitM e e.wait).1 with wait:=[] } ((waitM_ans _ _).trans ha) r1.noWait (by simp [r2])
 exact ⟨h1.trans h2,(saysM_w e.strs.length 0 _ r1.noWait (by simp [r2])).2.trans r2⟩
theorem doneM_grow {s:St}:StGrow s (doneM false s):=by
 unfold doneM
 split
 ·exact ⟨rfl,⟨[],(List.append_nil _).symm⟩,rfl,Int.le_refl _,fun _=>rfl⟩
 ·rename_i h
  exact ⟨rfl,⟨[],(List.append_nil _).symm⟩,rfl,Int.le_refl _,fun q=>absurd (by simpa using h) q⟩
theorem growM_caller {e:En} (ha:e.ans=false) (id:Int):growM e id=e:=by unfold growM; rw [if_neg (by rw [ha]; simp)]
theorem frameM_grow {e:En} (ha:e.ans=false) (f:Fr):EnGrow e (frameM e f)∧(frameM e f).strs.length=e.strs.length:=by
 unfold frameM
 split
 ·unfold headFM
  rw [growM_caller ha]
  simp only
  split
  ·rename_i t hd k hr hk
   split
   ·exact ⟨.same rfl,rfl⟩
   ·refine ⟨EnGrow.set (x:={ e with inn:=t }) (.same rfl) (atM_some hk).1 ?_,by simp [setSt]⟩
    have h0:StGrow (stAt e k) { stAt e k with got:=hd }:=⟨rfl,⟨[],(List.append_nil _).symm⟩,rfl,Int.le_refl _,fun _=>rfl⟩
    split
    ·rw [ha]; exact h0.trans doneM_grow
    ·exact h0
  ·exact ⟨.same rfl,rfl⟩
 ·split
  ·unfold dataM
   split
   ·exact ⟨.same rfl,rfl⟩
   ·rename_i k hk
    simp only
    split
    ·exact ⟨.same rfl,rfl⟩
    ·refine ⟨EnGrow.set (x:={ e with room:=_,wait:=_ }) (.same rfl) (atM_some hk).1 ?_,by simp [setSt]⟩
     have h0:StGrow (stAt e k) { stAt e k with text:=(stAt e k).text++f.body,room:=(stAt e k).room - f.body.length }:=⟨rfl,⟨f.body,rfl⟩,rfl,Int.le_refl _,fun _=>rfl⟩
     by_cases hl:f.last=true
     ·rw [if_pos hl,ha]; exact h0.trans doneM_grow
     ·rw [if_neg hl]; exact h0
  ·split
   ·unfold moreM
    split
    ·exact ⟨.same rfl,rfl⟩
    ·split
     ·exact ⟨.same rfl,rfl⟩
     ·rename_i k hk
      exact ⟨EnGrow.set (x:={ e with bad:=_ }) (.same rfl) (atM_some hk).1 ⟨rfl,⟨[],(List.append_nil _).symm⟩,rfl,Int.le_refl _,fun _=>rfl⟩,by simp [setSt]⟩
   ·split
    ·exact ⟨.same rfl,rfl⟩
    ·exact ⟨.same rfl,rfl⟩
theorem hearsM_grow:∀(n:Nat) (e:En),e.ans=false→EnGrow e (hearsM n e)∧(hearsM n e).strs.length=e.strs.length
 | 0,e,_=>⟨.refl e,rfl⟩
 | n+1,e,ha=>by
  unfold hearsM
  split
  ·exact ⟨.refl e,rfl⟩
  ·simp only
   split
   ·exact ⟨.same rfl,rfl⟩
   ·split
    ·exact ⟨.refl e,rfl⟩
    ·obtain ⟨a1,a2⟩:=frameM_grow (e:={ e with came:=e.came.drop (frR e.came).2.1 }) ha (frR e.came).1
     obtain ⟨b1,b2⟩:=hearsM_grow n (frameM { e with came:=e.came.drop (frR e.came).2.1 } (frR e.came).1) ((frameM_ans _ _).trans ha)
     have h0:EnGrow e { e with came:=e.came.drop (frR e.came).2.1 }:=.same rfl
     exact ⟨(h0.trans a1).trans b1,b2.trans a2⟩
theorem hearWM_grow {e:En} (ha:e.ans=false) (b:List UInt8):EnGrow e (hearWM e b)∧(hearWM e b).strs.length=e.strs.length:=by
 unfold hearWM
 split
 ·exact ⟨.refl e,rfl⟩
 ·obtain ⟨a1,a2⟩:=hearsM_grow (e.came.length+b.length+1) { e with came:=e.came++b } ha
  have h0:EnGrow e { e with came:=e.came++b }:=.same rfl
  exact ⟨h0.trans a1,a2⟩
theorem doM_grow {N:Nat} {w:Wo} (h:WoW N w) (v:Ev):EnGrow w.caller (doM w v).caller∧(doM w v).caller.strs.length≤w.caller.strs.length+1:=by
 have ha:=h.calls
 unfold doM
 split
 ·exact callM_grow _ _ _
 ·split
  ·obtain ⟨a,b⟩:=leaveM_grow w.caller v.a; exact ⟨a,by rw [b]; omega⟩
  ·split
   ·unfold sayWM
    split
    ·split
     ·obtain ⟨a,b⟩:=writeM_grow ha h.caller; exact ⟨a,by show (writeM w.caller).1.strs.length≤_; rw [b]; omega⟩
     ·exact ⟨.refl _,by omega⟩
    ·split
     ·split
      ·exact ⟨.refl _,by simp⟩
      ·exact ⟨.refl _,by omega⟩
     ·exact ⟨.refl _,by omega⟩
   ·split
    ·unfold passM
     split
     ·split
      ·exact ⟨.refl _,by simp⟩
      ·split
       ·obtain ⟨a,b⟩:=hearWM_grow ha (w.down.take v.b.toNat); exact ⟨a,by show (hearWM w.caller _).strs.length≤_; rw [b]; omega⟩
       ·exact ⟨.refl _,by omega⟩
     ·exact ⟨.refl _,by omega⟩
    ·exact ⟨.refl _,by omega⟩
end
section
def unit (s:St):Nat:=if s.state=1∧s.head≠[]∧s.said=false then (if (s.say.length:Int) - s.sent≤8 then 1 else 2) else 0
def units:List St→Nat
 | []=>0
 | s :: l=>unit s+units l
theorem unit_le (s:St):unit s≤2:=by unfold unit; split <;> (try split) <;> omega
theorem units_le:∀l:List St,units l≤2 * l.length
 | []=>by simp [units]
 | s :: l=>by have:=unit_le s; have:=units_le l; simp only [units,List.length_cons]; omega
theorem units_set:∀(l:List St) (k:Nat) (s:St),k < l.length→units (l.set k s)+unit (l.getD k st0)=units l+unit s
 | [],k,s,h=>by simp at h
 | a :: l,0,s,_=>by simp [units]; omega
 | a :: l,k+1,s,h=>by
  have:=units_set l k s (by simpa using h)
  simp only [List.set_cons_succ,units,List.getD_cons_succ]; omega
theorem units_at:∀(l:List St) (k:Nat),k < l.length→unit (l.getD k st0)≤units l
 | [],k,h=>by simp at h
 | a :: l,0,_=>by simp [units]
 | a :: l,k+1,h=>by
  have:=units_at l k (by simpa using h)
  simp only [units,List.getD_cons_succ]; omega
theorem units_drop:∀(l:List St) (k:Nat),k < l.length→units (l.drop k)=unit (l.getD k st0)+units (l.drop (k+1))
 | [],k,h=>by simp at h
 | a :: l,0,_=>by simp [units]
 | a :: l,k+1,h=>by
  have:=units_drop l k (by simpa using h)
  simpa using this
theorem unit_zero {s:St} (h:unit s=0):s.state≠1∨s.head=[]∨s.said=true:=by
 unfold unit at h
 by_cases hc:s.state=1∧s.head≠[]∧s.said=false
 ·rw [if_pos hc] at h; split at h <;> omega
 ·by_cases h1:s.state=1
  ·by_cases h2:s.head=[]
   ·exact .inr (.inl h2)
   ·refine .inr (.inr ?_)
    cases hs:s.said with
    | true=>rfl
    | false=>exact absurd ⟨h1,h2,hs⟩ hc
  ·exact .inl h1
theorem zero_unit {s:St} (h:s.state≠1∨s.head=[]∨s.said=true):unit s=0:=by
 unfold unit
 rw [if_neg]
 rintro ⟨h1,h2,h3⟩
 rcases h with z | z | z
 ·exact z h1
 ·exact h2 z
 ·rw [h3] at z; cases z
theorem unit_pos {s:St} (h:unit s≠0):s.state=1∧s.head≠[]∧s.said=false:=by
 unfold unit at h
 split at h
 ·rename_i hc; exact hc
 ·exact absurd rfl h
theorem sayM_zero {e:En} {k:Nat} (h:unit (stAt e k)=0):sayM e k=(e,[]):=by
 unfold sayM; simp only; rw [if_pos (unit_zero h)]
theorem unit_mono {s t:St} (h1:t.say=s.say) (h2:s.sent≤t.sent) (h3:unit s≠0):unit t≤unit s:=by
 obtain ⟨a1,a2,a3⟩:=unit_pos h3
 have hu:unit s=if (s.say.length:Int) - s.sent≤8 then 1 else 2:=by unfold unit; rw [if_pos ⟨a1,a2,a3⟩]
 rw [hu]
 unfold unit
 rw [h1]
 by_cases hY:(s.say.length:Int) - s.sent≤8
 ·rw [if_pos hY,if_pos (show (s.say.length:Int) - t.sent≤8 by omega)]
  split <;> omega
 ·rw [if_neg hY]
  split <;> (try split) <;> omega
theorem sayM_unit {N:Nat} {e:En} {k:Nat} (hW:EnW N e) (hk:k < e.strs.length) (hi:StI (stAt e k)) (h8:(stAt e k).send=8) (hG:8≤e.send) :
  unit (stAt (sayM e k).1 k)≤unit (stAt e k) - 1∧e.send - 8≤(sayM e k).1.send:=by
 by_cases h0:unit (stAt e k)=0
 ·rw [sayM_zero h0]; exact ⟨by rw [h0]; omega,by simp only; omega⟩
 ·obtain ⟨hst,hne,hns⟩:=unit_pos h0
  have hm:¬((stAt e k).state≠1∨(stAt e k).head=[]∨(stAt e k).said=true):=by
   rintro (z | z | z)
   ·exact z hst
   ·exact hne z
   ·rw [hns] at z; cases z
  have hs:=stOk_iff.1 (hW.st hk)
  have h16:=(wordOk_iff.1 hs.2.2.2.2.1).2
  have hsent:=hs.2.2.2.2.2.2.1
  have hu:unit (stAt e k)=if ((stAt e k).say.length:Int) - (stAt e k).sent≤8 then 1 else 2:=by unfold unit; rw [if_pos ⟨hst,hne,hns⟩]
  rw [sayM_steps hk hm]
  simp only
  have hb:∃x,(beg1 e k).1=x∧k < x.strs.length∧x.send=e.send∧(stAt x k).state=1∧(stAt x k).say=(stAt e k).say∧(stAt x k).sent=(stAt e k).sent∧(stAt x k).send=8∧((stAt x k).said=true∨0 < ((stAt e k).say.length:Int) - (stAt e k).sent∧(stAt x k).said=false):=by
   unfold beg1
   by_cases hbg:(stAt e k).begun=true
   ·rw [if_pos hbg]
    refine ⟨e,rfl,hk,rfl,hst,rfl,rfl,h8,.inr ⟨?_,hns⟩⟩
    have:=hi.beg hbg
    rw [hns] at this
    have:(stAt e k).sent≠((stAt e k).say.length:Int):=by simpa using this.symm
    omega
   ·rw [if_neg hbg]
    have hs0:=(hi.not (by simpa using hbg)).2
    have hx:k < ({ e with out:=(headW e.out e.outM (stAt e k).head).1 }:En).strs.length:=hk
    refine ⟨_,rfl,by simpa [setSt] using hk,rfl,?_,?_,?_,?_,?_⟩
    all_goals simp only [stAt_set hx]
    ·exact hst
    ·rfl
    ·rfl
    ·exact h8
    ·cases hsay:(stAt e k).say with
     | nil=>left; simp [St.begin,hsay]
     | cons y ys=>right; refine ⟨by rw [hs0]; simp only [List.length_cons]; omega,by simp [St.begin,hsay]⟩
  obtain ⟨x,hx,hkx,x1,x2,x3,x4,x5,x6⟩:=hb
  rw [hx]
  have hdon:∀y:En,(don1 y k).send=y.send:=fun y=>by unfold don1; split <;> rfl
  rw [hdon]
  have hp:(stAt (pie1 x k).1 k).said=true∧e.send - 8≤(pie1 x k).1.send∨((stAt (pie1 x k).1 k).said=false∧(8:Int) < (stAt e k).say.length - (stAt e k).sent∧((stAt (pie1 x k).1 k).say.length:Int) - (stAt (pie1 x k).1 k).sent≤8∧e.send - 8≤(pie1 x k).1.send):=by
   unfold pie1
   rcases x6 with z | ⟨z1,z2⟩
   ·rw [if_neg (by rw [z]; simp)]
    exact .inl ⟨z,by simp only; omega⟩
   ·have hmay:mayM x (stAt x k)=min (((stAt e k).say.length:Int) - (stAt e k).sent) 8:=by
     unfold mayM; rw [x3,x4,x5,x1]; omega
    rw [if_pos ⟨z2,by rw [hmay]; omega⟩,hmay]
    have hkx':k < ({ x with send:=x.send - min (((stAt e k).say.length:Int) - (stAt e k).sent) 8 }:En).strs.length:=hkx
    simp only [stAt_set hkx']
    have hsd:((stAt x k).piece (min (((stAt e k).say.length:Int) - (stAt e k).sent) 8)).said=decide ((stAt e k).sent+min (((stAt e k).say.length:Int) - (stAt e k).sent) 8=(stAt e k).say.length):=by simp only [St.piece,x3,x4]
    have hsend:(setSt { x with send:=x.send - min (((stAt e k).say.length:Int) - (stAt e k).sent) 8 } k ((stAt x k).piece (min (((stAt e k).say.length:Int) - (stAt e k).sent) 8))).send=x.send - min (((stAt e k).say.length:Int) - (stAt e k).sent) 8:=rfl
    rw [hsend,hsd]
    by_cases h9:((stAt e k).say.length:Int) - (stAt e k).sent≤8
    ·left; exact ⟨by simp; omega,by omega⟩
    ·right
     refine ⟨by simp; omega,by omega,?_,by omega⟩
     simp only [St.piece,x3,x4]; omega
  have hd:∀y:En,k < y.strs.length→((stAt y k).said=true→unit (stAt (don1 y k) k)=0)∧((stAt y k).said=false→stAt (don1 y k) k=stAt y k):=fun y hy=>by
   unfold don1
   split
   ·rename_i hc
    rw [stAt_set hy]
    exact ⟨fun _=>zero_unit (.inr (.inr hc.2)),fun z=>(by rw [hc.2] at z; cases z)⟩
   ·exact ⟨fun z=>zero_unit (.inr (.inr z)),fun _=>rfl⟩
  have hky:k < (pie1 x k).1.strs.length:=by
   unfold pie1; split
   ·simpa [setSt] using hkx
   ·exact hkx
  rcases hp with ⟨z1,z2⟩ | ⟨z1,z2,z3,z4⟩
  ·exact ⟨by rw [(hd _ hky).1 z1]; omega,z2⟩
  ·refine ⟨?_,z4⟩
   rw [(hd _ hky).2 z1,hu,if_neg (by omega)]
   have:unit (stAt (pie1 x k).1 k)≤1:=by unfold unit; split <;> (try split) <;> omega
   omega
theorem sayM_unit_le {N:Nat} {e:En} {k:Nat} (hW:EnW N e) (hk:k < e.strs.length):unit (stAt (sayM e k).1 k)≤unit (stAt e k):=by
 by_cases h0:unit (stAt e k)=0
 ·rw [sayM_zero h0]; exact Nat.le_refl _
 ·obtain ⟨hst,hne,hns⟩:=unit_pos h0
  have hu:unit (stAt e k)=if ((stAt e k).say.length:Int) - (stAt e k).sent≤8 then 1 else 2:=by unfold unit; rw [if_pos ⟨hst,hne,hns⟩]
  have hm:¬((stAt e k).state≠1∨(stAt e k).head=[]∨(stAt e k).said=true):=by
   rintro (z | z | z)
   ·exact z hst
   ·exact hne z
   ·rw [hns] at z; cases z
  have hsay:∀(x:En) (s:St),(pieceM x s).2.1.say=s.say∧s.sent≤(pieceM x s).2.1.sent:=fun x s=>by
   unfold pieceM; split
   ·rename_i h; exact ⟨rfl,by simp only; omega⟩
   ·exact ⟨rfl,Int.le_refl _⟩
  have hbeg:∀(x:En) (s:St),(beginM x s).2.1.say=s.say∧(beginM x s).2.1.sent=s.sent:=fun x s=>by unfold beginM; split <;> exact ⟨rfl,rfl⟩
  obtain ⟨b1,b2⟩:=hbeg e (stAt e k)
  obtain ⟨p1,p2⟩:=hsay (beginM e (stAt e k)).1 (beginM e (stAt e k)).2.1
  have hlen:k < (pieceM (beginM e (stAt e k)).1 (beginM e (stAt e k)).2.1).1.strs.length:=by
   rw [(pieceM_keeps _ _).2.2.1,(beginM_keeps _ _).2.2.1]; exact hk
  unfold sayM
  simp only
  rw [if_neg hm]
  simp only [stAt_set hlen]
  exact unit_mono (p1.trans b1) (by rw [b2] at p2; exact p2) h0
theorem sayM_units {N:Nat} {e:En} {k:Nat} (hW:EnW N e) (hk:k < e.strs.length):units (sayM e k).1.strs+unit (stAt e k)=units e.strs+unit (stAt (sayM e k).1 k):=by
 obtain ⟨w1,w2,w3,w4⟩:=sayM_keeps e k
 have e1:(sayM e k).1.strs=e.strs.set k (stAt (sayM e k).1 k):=by
  refine List.ext_getElem (by rw [w3]; simp) (fun i h1 h2=>?_)
  have hl:i < e.strs.length:=by rw [w3] at h1; exact h1
  rw [List.getElem_set]
  split
  ·rename_i q; subst q; rw [stAt,getD_lt st0 h1]
  ·rename_i q
   have:=w4 i (fun z=>q z.symm)
   rw [stAt,stAt,getD_lt st0 h1,getD_lt st0 hl] at this
   exact this
 have:=units_set e.strs k (stAt (sayM e k).1 k) hk
 rw [←e1] at this
 exact this
theorem saysM_le {N:Nat}:∀(n k:Nat) (e:En),EnW N e→k+n≤e.strs.length→units (saysM n k e).1.strs≤units e.strs
 | 0,k,e,_,_=>Nat.le_refl _
 | n+1,k,e,hW,hk=>by
  obtain ⟨r1,r2⟩:=sayM_w hW (k:=k) (by omega)
  have h1:=sayM_unit_le hW (k:=k) (by omega)
  have h2:=sayM_units hW (k:=k) (by omega)
  have h3:=saysM_le n (k+1) (sayM e k).1 r1 (by omega)
  show units (saysM n (k+1) (sayM e k).1).1.strs≤_
  omega
theorem drop_units {N:Nat} {e:En} {k:Nat} (hW:EnW N e) (hk:k < e.strs.length):units ((sayM e k).1.strs.drop (k+1))=units (e.strs.drop (k+1)):=by
 obtain ⟨w1,w2,w3,w4⟩:=sayM_keeps e k
 congr 1
 refine List.ext_getElem (by simp [w3]) (fun i h1 h2=>?_)
 rw [List.getElem_drop,List.getElem_drop]
 have hl:k+1+i < e.strs.length:=by simpa using by simp at h2; omega
 have:=w4 (k+1+i) (by omega)
 rw [stAt,stAt,getD_lt st0 (by rw [w3]; exact hl),getD_lt st0 hl] at this
 exact this
theorem saysM_one {N:Nat}:∀(n k:Nat) (e:En),EnW N e→k+n=e.strs.length→(∀j,k≤j→j < e.strs.length→(stAt e j).send=8∧StI (stAt e j))→8≤e.send→0 < units (e.strs.drop k)→units (saysM n k e).1.strs+1≤units e.strs
 | 0,k,e,_,hk,_,_,h0=>by
  rw [List.drop_eq_nil_of_le (by omega)] at h0; simp [units] at h0
 | n+1,k,e,hW,hk,h8,hG,h0=>by
  have hkl:k < e.strs.length:=by omega
  obtain ⟨r1,r2⟩:=sayM_w hW hkl
  have hd:=units_drop e.strs k hkl
  have h2:=sayM_units hW hkl
  show units (saysM n (k+1) (sayM e k).1).1.strs+1≤_
  by_cases hu:unit (stAt e k)=0
  ·have hu':unit (e.strs.getD k st0)=0:=hu
   rw [sayM_zero hu]
   exact saysM_one n (k+1) e hW (by omega) (fun j hj=>h8 j (by omega)) hG (by omega)
  ·have h1:=(sayM_unit hW hkl (h8 k (Nat.le_refl _) hkl).2 (h8 k (Nat.le_refl _) hkl).1 hG).1
   have h3:=saysM_le n (k+1) (sayM e k).1 r1 (by omega)
   omega
theorem saysM_two {N:Nat}:∀(n k:Nat) (e:En),EnW N e→k+n=e.strs.length→(∀j,k≤j→j < e.strs.length→(stAt e j).send=8∧StI (stAt e j))→16≤e.send→2 < units (e.strs.drop k)→units (saysM n k e).1.strs+2≤units e.strs
 | 0,k,e,_,hk,_,_,h0=>by
  rw [List.drop_eq_nil_of_le (by omega)] at h0; simp [units] at h0
 | n+1,k,e,hW,hk,h8,hG,h0=>by
  have hkl:k < e.strs.length:=by omega
  obtain ⟨r1,r2⟩:=sayM_w hW hkl
  have hd:=units_drop e.strs k hkl
  have h2:=sayM_units hW hkl
  obtain ⟨w1,w2,w3,w4⟩:=sayM_keeps e k
  show units (saysM n (k+1) (sayM e k).1).1.strs+2≤_
  by_cases hu:unit (stAt e k)=0
  ·have hu':unit (e.strs.getD k st0)=0:=hu
   rw [sayM_zero hu]
   exact saysM_two n (k+1) e hW (by omega) (fun j hj=>h8 j (by omega)) hG (by omega)
  ·obtain ⟨h1,h1'⟩:=sayM_unit hW hkl (h8 k (Nat.le_refl _) hkl).2 (h8 k (Nat.le_refl _) hkl).1 (by omega)
   have hle:=unit_le (e.strs.getD k st0)
   have hdd:=drop_units hW hkl
   have h3:=saysM_one n (k+1) (sayM e k).1 r1 (by omega) (fun j hj hj'=>by rw [w4 j (by omega)]; exact h8 j (by omega) (by rw [w3] at hj'; exact hj')) (by omega) (by omega)
   omega
def dec (n:Nat):Nat:=if 2 < n then n - 2 else n - 1
theorem saysM_dec {N:Nat} {e:En} (hW:EnW N e) (h8:∀j,j < e.strs.length→(stAt e j).send=8∧StI (stAt e j)) (hG:16≤e.send):units (saysM e.strs.length 0 e).1.strs≤dec (units e.strs):=by
 have h0:=saysM_le e.strs.length 0 e hW (by omega)
 unfold dec
 split
 ·rename_i h2
  have:=saysM_two e.strs.length 0 e hW (by omega) (fun j _=>h8 j) hG h2
  omega
 ·by_cases hz:units e.strs=0
  ·omega
  ·have:=saysM_one e.strs.length 0 e hW (by omega) (fun j _=>h8 j) (by omega) (show 0 < units (e.strs.drop 0) by simpa using by omega)
   omega
theorem roomM_units (e:En) (f:Fr):units (roomM e f).strs=units e.strs:=by
 unfold roomM
 split
 ·rfl
 ·split
  ·rfl
  ·split
   ·rfl
   ·rename_i k hk
    have h:=units_set e.strs k { stAt e k with room:=min ((stAt e k).room+byteAt f.body 0) 31 } (atM_some hk).1
    have e1:unit { stAt e k with room:=min ((stAt e k).room+byteAt f.body 0) 31 }=unit (e.strs.getD k st0):=rfl
    rw [e1] at h
    show units (e.strs.set k _)=_
    omega
theorem waitM_units:∀(l:List Fr) (e:En),units (waitM e l).1.strs=units e.strs
 | [],e=>rfl
 | f :: l,e=>(waitM_units l (roomM e f)).trans (roomM_units e f)
end
section
theorem frW_lenE (f:Fr):(frW f).length=4+f.body.length:=by simp [frW]; omega
theorem sayM_short {N:Nat} {e:En} {k:Nat} (hW:EnW N e) (hk:k < e.strs.length) (hh:(stAt e k).head.length≤3):(sayM e k).2.length≤132:=by
 by_cases hm:(stAt e k).state≠1∨(stAt e k).head=[]∨(stAt e k).said=true
 ·have e:sayM e k=(e,[]):=by unfold sayM; simp only; rw [if_pos hm]
  rw [e]; simp
 ·rw [sayM_steps hk hm]
  simp only [List.length_append]
  have hs:=stOk_iff.1 (hW.st hk)
  have h16:=(wordOk_iff.1 hs.2.2.2.2.1).2
  have hl:=headW_len (stAt e k).head e.out e.outM (headOk_iff.1 hs.2.2.1).1 (by have:=(tableOk_parts hW.out).1; omega)
  have h1:(bytes (beg1 e k).2).length≤112:=by
   unfold beg1; split
   ·simp [bytes]
   ·rw [bytes_one,frW_lenE]; simp only; omega
  have hsay:∀x,(beg1 e k).1=x→k < x.strs.length∧(stAt x k).say=(stAt e k).say:=fun x hx=>by
   subst hx
   unfold beg1; split
   ·exact ⟨hk,rfl⟩
   ·refine ⟨by simpa [setSt] using hk,?_⟩
    simp only [stAt_set (show k < ({ e with out:=(headW e.out e.outM (stAt e k).head).1 }:En).strs.length from hk)]
    rfl
  have h2:=hsay _ rfl
  generalize (beg1 e k).1=x at h2
  have h3:(bytes (pie1 x k).2).length≤20:=by
   unfold pie1; split
   ·rw [bytes_one,frW_lenE]; simp only [List.length_take,List.length_drop,h2.2]; omega
   ·simp [bytes]
  omega
theorem saysM_short {N:Nat}:∀(n k:Nat) (e:En),EnW N e→k+n≤e.strs.length→(∀j,j < e.strs.length→(stAt e j).head.length≤3)→(saysM n k e).2.length≤132 * n
 | 0,k,e,_,_,_=>by simp [saysM]
 | n+1,k,e,hW,hk,hh=>by
  obtain ⟨r1,r2⟩:=sayM_w hW (k:=k) (by omega)
  have h1:=sayM_short hW (k:=k) (by omega) (hh k (by omega))
  obtain ⟨w1,w2,w3,w4⟩:=sayM_keeps e k
  have hhead:(stAt (sayM e k).1 k).head=(stAt e k).head:=by
   have hb:∀(x:En) (s:St),(beginM x s).2.1.head=s.head:=fun x s=>by unfold beginM; split <;> rfl
   have hp:∀(x:En) (s:St),(pieceM x s).2.1.head=s.head:=fun x s=>by unfold pieceM; split <;> rfl
   have hlen:k < (pieceM (beginM e (stAt e k)).1 (beginM e (stAt e k)).2.1).1.strs.length:=by
    rw [(pieceM_keeps _ _).2.2.1,(beginM_keeps _ _).2.2.1]; omega
   unfold sayM
   simp only
   split
   ·rfl
   ·simp only [stAt_set hlen]; exact (hp _ _).trans (hb _ _)
  have h2:=saysM_short n (k+1) (sayM e k).1 r1 (by omega) (fun j hj=>by
   by_cases q:j=k
   ·subst q; rw [hhead]; exact hh j (by omega)
   ·rw [w4 j q]; exact hh j (by rw [w3] at hj; exact hj))
  show ((sayM e k).2++(saysM n (k+1) (sayM e k).1).2).length≤_
  rw [List.length_append]; omega
theorem waits_short:∀l:List Fr,(∀f ∈ l,f.body.length≤1)→(bytes l).length≤5 * l.length
 | [],_=>by simp [bytes]
 | f :: l,h=>by
  have h1:=h f (by simp)
  have h2:=waits_short l (fun g hg=>h g (by simp [hg]))
  rw [bytes_cons,List.length_append,frW_lenE,List.length_cons]; omega
theorem wait_body {e:En} (h:Sid0 e):∀f ∈ e.wait,f.body.length≤1:=fun f hf=>by
 have hfo:=h.w.wait f hf
 rcases h.waits f hf with z | z
 ·unfold frameOk at hfo
  rw [if_neg (by rw [z]; decide),if_neg (by rw [z]; decide),if_pos z] at hfo
  simp only [Bool.and_eq_true,decide_eq_true_eq] at hfo
  omega
 ·unfold frameOk at hfo
  rw [if_neg (by rw [z.1]; decide),if_pos z.1] at hfo
  simp only [Bool.and_eq_true,decide_eq_true_eq] at hfo
  rw [hfo.2]; simp
theorem head_short {e:En} (h:Sid0 e) {k:Nat} (hk:k < e.strs.length):(stAt e k).head.length≤3:=by
 have hat:=h.w.at_ hk
 have hof:=h.w.of hk
 cases ha:e.ans with
 | false =>
  obtain ⟨path,q⟩:=(h.sc ha _ ⟨k,hat⟩).head
  rw [hof] at q; rw [q]; simp [callHead]
 | true =>
  by_cases h0:(stAt e k).head=[]
  ·rw [h0]; simp
  ·have:=((h.sa ha (stAt e k).id).ask (by rw [hof]; exact h0)).2.1
   rw [hof] at this; rw [this]; simp
section
variable {c a:En} {fu fd:List Fr}
theorem J0.shortUp (h:J0 c a fu fd):(writeM c).2.length≤800:=by
 obtain ⟨w1,w2⟩:=J0.waitUp c.wait h rfl
 have hl:=(waitM_w c.wait c h.C.w).2.1
 have h1:=waits_short c.wait (wait_body h.C)
 have h2:=h.C.w.len
 have h3:=saysM_short c.strs.length 0 { (waitM c c.wait).1 with wait:=[] } w1.C.w (by simp [hl]) (fun j hj=>head_short w1.C hj)
 have h4:=stsOk_len h.C.w.sts
 have e:(writeM c).2=(waitM c c.wait).2++(saysM c.strs.length 0 { (waitM c c.wait).1 with wait:=[] }).2:=rfl
 rw [e,List.length_append,w2]
 omega
theorem J0.shortDown (h:J0 c a fu fd):(writeM a).2.length≤800:=by
 obtain ⟨w1,w2⟩:=J0.waitDown a.wait h rfl
 have hl:=(waitM_w a.wait a h.A.w).2.1
 have h1:=waits_short a.wait (wait_body h.A)
 have h2:=h.A.w.len
 have h3:=saysM_short a.strs.length 0 { (waitM a a.wait).1 with wait:=[] } w1.A.w (by simp [hl]) (fun j hj=>head_short w1.A hj)
 have h4:=stsOk_len h.A.w.sts
 have e:(writeM a).2=(waitM a a.wait).2++(saysM a.strs.length 0 { (waitM a a.wait).1 with wait:=[] }).2:=rfl
 rw [e,List.length_append,w2]
 omega
theorem J0.decUp (h:J0 c a [] []) (ha:a.wait=[]):units (writeM c).1.strs≤dec (units c.strs):=by
 obtain ⟨w1,w2⟩:=J0.waitUp c.wait h rfl
 have hl:=(waitM_w c.wait c h.C.w).2.1
 have hu:=waitM_units c.wait c
 have hsend:(waitM c c.wait).1.send=16:=by
  have h1:=w1.u.flow
  have h2:=w1.A.sum
  have hd0:dat 0 ([]++c.wait)=0:=dat_none (fun f hf=>by rcases h.C.waits f (by simpa using hf) with z | z; rw [z]; decide; rw [z.1]; decide)
  rw [hd0] at h1
  rw [ha] at h2
  simp only [mor] at h1 h2
  have h1:(waitM c c.wait).1.send+((0:Nat):Int)+((0:Nat):Int)=a.room:=h1
  omega
 have hown:∀j,j≠0→(stOf { (waitM c c.wait).1 with wait:=[] } j).send=8:=fun j hj=>by
  have h1:=w1.u.own j hj
  have h2:=w1.A.more j hj
  have hd0:dat j ([]++c.wait)=0:=dat_none (fun f hf=>by rcases h.C.waits f (by simpa using hf) with z | z; rw [z]; decide; rw [z.1]; decide)
  rw [hd0] at h1
  rw [ha] at h2
  simp only [mor] at h1 h2
  exact (by omega:∀x y:Int,x+((0:Nat):Int)+((0:Nat):Int)=y→y+((0:Nat):Int)=8→x=8) _ _ h1 h2
 have h8:∀j,j < ({ (waitM c c.wait).1 with wait:=[] }:En).strs.length→(stAt { (waitM c c.wait).1 with wait:=[] } j).send=8∧StI (stAt { (waitM c c.wait).1 with wait:=[] } j):=fun j hj=>by
  have e:=w1.C.w.of hj
  have hid:=strm_pos (stOk_iff.1 (w1.C.w.st hj)).1
  have k1:=hown _ hid
  have k2:=w1.C.si (stAt { (waitM c c.wait).1 with wait:=[] } j).id
  rw [e] at k1 k2
  exact ⟨k1,k2⟩
 have hd:=saysM_dec (e:={ (waitM c c.wait).1 with wait:=[] }) w1.C.w h8 (by show 16≤(waitM c c.wait).1.send; omega)
 have e:(writeM c).1=(saysM c.strs.length 0 { (waitM c c.wait).1 with wait:=[] }).1:=rfl
 have e2:({ (waitM c c.wait).1 with wait:=[] }:En).strs.length=c.strs.length:=hl
 rw [e2] at hd
 rw [e,←hu]
 exact hd
theorem J0.decDown (h:J0 c a [] []) (ha:c.wait=[]):units (writeM a).1.strs≤dec (units a.strs):=by
 obtain ⟨w1,w2⟩:=J0.waitDown a.wait h rfl
 have hl:=(waitM_w a.wait a h.A.w).2.1
 have hu:=waitM_units a.wait a
 have hsend:(waitM a a.wait).1.send=16:=by
  have h1:=w1.d.flow
  have h2:=w1.C.sum
  have hd0:dat 0 ([]++a.wait)=0:=dat_none (fun f hf=>by rcases h.A.waits f (by simpa using hf) with z | z; rw [z]; decide; rw [z.1]; decide)
  rw [hd0] at h1
  rw [ha] at h2
  simp only [mor] at h1 h2
  have h1:(waitM a a.wait).1.send+((0:Nat):Int)+((0:Nat):Int)=c.room:=h1
  omega
 have hown:∀j,j≠0→(stOf { (waitM a a.wait).1 with wait:=[] } j).send=8:=fun j hj=>by
  have h1:=w1.d.own j hj
  have h2:=w1.C.more j hj
  have hd0:dat j ([]++a.wait)=0:=dat_none (fun f hf=>by rcases h.A.waits f (by simpa using hf) with z | z; rw [z]; decide; rw [z.1]; decide)
  rw [hd0] at h1
  rw [ha] at h2
  simp only [mor] at h1 h2
  exact (by omega:∀x y:Int,x+((0:Nat):Int)+((0:Nat):Int)=y→y+((0:Nat):Int)=8→x=8) _ _ h1 h2
 have h8:∀j,j < ({ (waitM a a.wait).1 with wait:=[] }:En).strs.length→(stAt { (waitM a a.wait).1 with wait:=[] } j).send=8∧StI (stAt { (waitM a a.wait).1 with wait:=[] } j):=fun j hj=>by
  have e:=w1.A.w.of hj
  have hid:=strm_pos (stOk_iff.1 (w1.A.w.st hj)).1
  have k1:=hown _ hid
  have k2:=w1.A.si (stAt { (waitM a a.wait).1 with wait:=[] } j).id
  rw [e] at k1 k2
  exact ⟨k1,k2⟩
 have hd:=saysM_dec (e:={ (waitM a a.wait).1 with wait:=[] }) w1.A.w h8 (by show 16≤(waitM a a.wait).1.send; omega)
 have e:(writeM a).1=(saysM a.strs.length 0 { (waitM a a.wait).1 with wait:=[] }).1:=rfl
 have e2:({ (waitM a a.wait).1 with wait:=[] }:En).strs.length=a.strs.length:=hl
 rw [e2] at hd
 rw [e,←hu]
 exact hd
end
theorem writeM_le {N:Nat} {e:En} (h:EnW N e):units (writeM e).1.strs≤units e.strs:=by
 obtain ⟨w1,w2,w3⟩:=waitM_w e.wait e h
 have hu:=waitM_units e.wait e
 have:=saysM_le e.strs.length 0 { (waitM e e.wait).1 with wait:=[] } w1.noWait (by simp [w2])
 have e1:(writeM e).1=(saysM e.strs.length 0 { (waitM e e.wait).1 with wait:=[] }).1:=rfl
 rw [e1,←hu]
 exact this
theorem writeM_zero {e:En} (h:units e.strs=0):writeM e=({ (waitM e e.wait).1 with wait:=[] },(waitM e e.wait).2):=by
 have hu:=waitM_units e.wait e
 have:∀(n k:Nat) (x:En),units x.strs=0→k+n≤x.strs.length→saysM n k x=(x,[]):=fun n=>by
  induction n with
  | zero=>intro k x _ _; rfl
  | succ n ih =>
   intro k x hx hk
   have h0:unit (stAt x k)=0:=by have:=units_at x.strs k (by omega); rw [hx] at this; exact Nat.le_zero.1 this
   show (let (e1,o1):=sayM x k; let (e2,o2):=saysM n (k+1) e1; (e2,o1++o2))=_
   rw [sayM_zero h0]
   simp only
   rw [ih (k+1) x hx (by omega)]
   rfl
 by_cases hl:e.strs.length≤(waitM e e.wait).1.strs.length
 ·show (let (e1,o1):=waitM e e.wait; let (e2,o2):=saysM e.strs.length 0 { e1 with wait:=[] }; (e2,o1++o2))=_
  simp only
  rw [this e.strs.length 0 { (waitM e e.wait).1 with wait:=[] } (hu.trans h) (by simpa using hl)]
  simp
 ·exfalso
  have hle:∀(l:List Fr) (x:En),(waitM x l).1.strs.length=x.strs.length:=fun l=>by
   induction l with
   | nil=>intro x; rfl
   | cons f l ih =>
    intro x
    refine (ih (roomM x f)).trans ?_
    unfold roomM; split
    ·rfl
    ·split
     ·rfl
     ·split
      ·rfl
      ·simp [setSt]
  exact hl (by rw [hle]; exact Nat.le_refl _)
theorem units_setSt {e:En} {k:Nat} {s:St} (hk:k < e.strs.length) (h:unit s≤unit (stAt e k)):units (setSt e k s).strs≤units e.strs:=by
 have:=units_set e.strs k s hk
 show units (e.strs.set k s)≤_
 have h:unit s≤unit (e.strs.getD k st0):=h
 omega
theorem frameM_c {e:En} (ha:e.ans=false) (f:Fr):units (frameM e f).strs≤units e.strs:=by
 have hdone:∀s:St,unit (doneM false s)≤unit s:=fun s=>by
  unfold doneM
  split
  ·rename_i h
   have:unit { s with heard:=true }=0:=zero_unit (.inl h)
   rw [this]; omega
  ·rw [if_neg (by decide)]
   have:unit { s with heard:=true,state:=2 }=0:=zero_unit (.inl (show ¬((2:Int)=1) by decide))
   rw [this]; omega
 unfold frameM
 split
 ·unfold headFM
  rw [growM_caller ha]
  simp only
  split
  ·rename_i t hd k hr hk
   split
   ·exact Nat.le_refl _
   ·refine units_setSt (e:={ e with inn:=t }) (atM_some hk).1 ?_
    have h0:unit { stAt e k with got:=hd }=unit (stAt e k):=rfl
    split
    ·rw [ha]; exact Nat.le_trans (hdone _) (Nat.le_of_eq h0)
    ·exact Nat.le_of_eq h0
  ·exact Nat.le_refl _
 ·split
  ·unfold dataM
   split
   ·exact Nat.le_refl _
   ·rename_i k hk
    simp only
    split
    ·exact Nat.le_refl _
    ·refine units_setSt (e:={ e with room:=_,wait:=_ }) (atM_some hk).1 ?_
     have h0:unit { stAt e k with text:=(stAt e k).text++f.body,room:=(stAt e k).room - f.body.length }=unit (stAt e k):=rfl
     split
     ·rw [ha]; exact Nat.le_trans (hdone _) (Nat.le_of_eq h0)
     ·exact Nat.le_of_eq h0
  ·split
   ·unfold moreM
    split
    ·exact Nat.le_refl _
    ·split
     ·exact Nat.le_refl _
     ·rename_i k hk
      exact units_setSt (e:={ e with bad:=_ }) (atM_some hk).1 (Nat.le_refl _)
   ·split
    ·exact Nat.le_refl _
    ·exact Nat.le_refl _
theorem hearsM_c:∀(n:Nat) (e:En),e.ans=false→units (hearsM n e).strs≤units e.strs
 | 0,e,_=>Nat.le_refl _
 | n+1,e,ha=>by
  unfold hearsM
  split
  ·exact Nat.le_refl _
  ·simp only
   split
   ·exact Nat.le_refl _
   ·split
    ·exact Nat.le_refl _
    ·have h1:=frameM_c (e:={ e with came:=e.came.drop (frR e.came).2.1 }) ha (frR e.came).1
     exact Nat.le_trans (hearsM_c n _ ((frameM_ans _ _).trans ha)) h1
theorem frameM_quiet {e:En} {f:Fr} (h0:f.kind≠0) (h1:f.kind≠1):units (frameM e f).strs≤units e.strs∧(frameM e f).wait=e.wait:=by
 unfold frameM
 rw [if_neg h1,if_neg h0]
 split
 ·unfold moreM
  split
  ·exact ⟨Nat.le_refl _,rfl⟩
  ·split
   ·exact ⟨Nat.le_refl _,rfl⟩
   ·rename_i k hk
    exact ⟨units_setSt (e:={ e with bad:=_ }) (atM_some hk).1 (Nat.le_refl _),rfl⟩
 ·split
  ·exact ⟨Nat.le_refl _,rfl⟩
  ·rename_i k hk
   split
   ·exact ⟨Nat.le_refl _,rfl⟩
   ·refine ⟨units_setSt (atM_some hk).1 ?_,rfl⟩
    have:unit { stAt e k with state:=3 }=0:=zero_unit (.inl (show ¬((3:Int)=1) by decide))
    rw [this]; omega
theorem hearsM_quiet:∀(n:Nat) (e:En) (fs:List Fr) (rest:List UInt8),e.came++rest=bytes fs→(∀f ∈ fs,frameOk f=true)→(∀f ∈ fs,f.kind≠0∧f.kind≠1) →
  units (hearsM n e).strs≤units e.strs∧(hearsM n e).wait=e.wait∧∃gs,(hearsM n e).came++rest=bytes gs∧(∀f ∈ gs,frameOk f=true)∧(∀f ∈ gs,f.kind≠0∧f.kind≠1)
 | 0,e,fs,rest,hb,hok,hq=>⟨Nat.le_refl _,rfl,fs,hb,hok,hq⟩
 | n+1,e,fs,rest,hb,hok,hq=>by
  unfold hearsM
  split
  ·exact ⟨Nat.le_refl _,rfl,fs,hb,hok,hq⟩
  ·simp only
   rcases frR_bytes hb hok with ⟨z,_⟩ | ⟨f,gs,rfl,q,hd⟩
   ·rw [if_neg (by omega),if_pos z]; exact ⟨Nat.le_refl _,rfl,fs,hb,hok,hq⟩
   ·rw [q,if_neg (show ¬((1:Int) < 0) by decide),if_neg (show ¬((1:Int)=0) by decide)]
    simp only
    obtain ⟨q0,q1⟩:=hq f (by simp)
    obtain ⟨u1,u2⟩:=frameM_quiet (e:={ e with came:=e.came.drop (4+f.body.length) }) q0 q1
    obtain ⟨v1,v2,v3⟩:=hearsM_quiet n (frameM { e with came:=e.came.drop (4+f.body.length) } f) gs rest (by rw [frameM_came]; exact hd) (fun g hg=>hok g (by simp [hg])) (fun g hg=>hq g (by simp [hg]))
    exact ⟨Nat.le_trans v1 u1,v2.trans u2,v3⟩
end
end Go.Proofs.YtaamlddnpamomaaGreatDoor
