/- A part of the proof: contracts of functions, or plain facts on which these lean. -/
import Derived.Test.YtaamlddnpamomaaGreatDoorMf25
namespace Go.Proofs.YtaamlddnpamomaaGreatDoor
open Go
set_option linter.unusedVariables false
set_option linter.unusedSimpArgs false
set_option maxRecDepth 100000
set_option maxHeartbeats 16000000

section
def more0:List Fr→Nat
 | []=>0
 | f :: l=>(if f.kind=8∧f.stream=0 then byteAt f.body 0 else 0)+more0 l
theorem more0_app:∀l k:List Fr,more0 (l++k)=more0 l+more0 k
 | [],k=>by simp [more0]
 | f :: l,k=>by simp only [List.cons_append,more0,more0_app l k]; omega
def gone:List St→Nat
 | []=>0
 | s :: l=>(if s.state=3 then 1 else 0)+gone l
theorem gone_app:∀l k:List St,gone (l++k)=gone l+gone k
 | [],k=>by simp [gone]
 | f :: l,k=>by simp only [List.cons_append,gone,gone_app l k]; omega
theorem gone_le:∀l:List St,gone l≤l.length
 | []=>by simp [gone]
 | s :: l=>by have:=gone_le l; simp only [gone,List.length_cons]; split <;> omega
theorem gone_set:∀(l:List St) (k:Nat) (s:St),((l.getD k st0).state=3→s.state=3)→gone l≤gone (l.set k s)
 | [],k,s,_=>by simp
 | a :: l,0,s,hs=>by
  have h:a.state=3→s.state=3:=hs
  simp only [List.set_cons_zero,gone]
  by_cases q:a.state=3
  ·rw [if_pos q,if_pos (h q)]; exact Nat.le_refl _
  ·rw [if_neg q]; split <;> omega
 | a :: l,k+1,s,hs=>by
  have:=gone_set l k s (by simpa using hs)
  simp only [List.set_cons_succ,gone]; omega
theorem gone_more:∀(l:List St) (k:Nat) (s:St),k < l.length→(l.getD k st0).state≠3→s.state=3→gone (l.set k s)=gone l+1
 | [],k,s,h,_,_=>by simp at h
 | a :: l,0,s,_,hs,h3=>by
  have h:a.state≠3:=hs
  simp only [List.set_cons_zero,gone,if_neg h,if_pos h3]; omega
 | a :: l,k+1,s,h,hs,h3=>by
  have:=gone_more l k s (by simpa using h) (by simpa using hs) h3
  simp only [List.set_cons_succ,gone]; omega
structure Loc (e:En):Prop where
 sum:e.room+more0 e.wait=16
 len:e.wait.length≤2 * more0 e.wait+gone e.strs
 four:e.strs.length≤4
theorem Loc.wait {e:En} (h:Loc e) (hr:0≤e.room):e.wait.length≤36:=by
 have:=h.sum; have:=h.len; have:=h.four; have:=gone_le e.strs; omega
theorem Loc.setSt {e:En} {k:Nat} {s:St} (h:Loc e) (hs:(stAt e k).state=3→s.state=3):Loc (setSt e k s) :=
 ⟨h.sum,Nat.le_trans h.len (Nat.add_le_add_left (gone_set e.strs k s hs) _),Nat.le_trans (Nat.le_of_eq (List.length_set ..)) h.four⟩
theorem Loc.bad {e:En} (h:Loc e):Loc (badM e):=⟨h.sum,h.len,h.four⟩
theorem loc_new (a:Bool):Loc (newEn a):=⟨rfl,by simp [newEn],by simp [newEn]⟩
theorem callM_loc {e:En} (h:Loc e) (p t:List UInt8):Loc (callM e p t).1:=by
 unfold callM
 split
 ·exact h
 ·rename_i hc
  have h2:¬2 * (e.strs.length:Int)+1 > 7:=fun q=>hc (.inr (.inl q))
  refine ⟨h.sum,?_,by simp; omega⟩
  have:=h.len
  simp only [gone_app]; omega
theorem leaveM_loc {e:En} (h:Loc e) (id:Int):Loc (leaveM e id).1:=by
 unfold leaveM
 split
 ·exact h
 ·rename_i k hk
  obtain ⟨h1,h2⟩:=atM_some hk
  split
  ·exact h
  ·rename_i hc
   have hs:(stAt e k).state=1:=by simpa using fun q=>hc (.inr q)
   have hg:=gone_more e.strs k { stAt e k with state:=3 } h1 (by show (stAt e k).state≠3; rw [hs]; decide) rfl
   have:=h.len
   have:=h.sum
   refine ⟨?_,?_,by simpa [setSt] using h.four⟩
   ·show e.room+more0 (if _ then _ else _)=16
    split
    ·rw [more0_app]; simpa [more0] using h.sum
    ·exact h.sum
   ·show (if _ then _ else _:List Fr).length≤2 * more0 (if _ then _ else _)+gone (e.strs.set k _)
    rw [hg]
    split
    ·rw [more0_app]; simp [more0]; omega
    ·omega
theorem beginM_keeps (e:En) (s:St):(beginM e s).1.room=e.room∧(beginM e s).1.wait=e.wait∧(beginM e s).1.strs=e.strs∧(beginM e s).2.1.state=s.state:=by unfold beginM; split <;> exact ⟨rfl,rfl,rfl,rfl⟩
theorem pieceM_keeps (e:En) (s:St):(pieceM e s).1.room=e.room∧(pieceM e s).1.wait=e.wait∧(pieceM e s).1.strs=e.strs∧(pieceM e s).2.1.state=s.state:=by unfold pieceM; split <;> exact ⟨rfl,rfl,rfl,rfl⟩
theorem sayM_room (e:En) (k:Nat):(sayM e k).1.room=e.room∧(sayM e k).1.wait=e.wait∧(sayM e k).1.strs.length=e.strs.length∧gone e.strs≤gone (sayM e k).1.strs:=by
 unfold sayM
 simp only
 split
 ·exact ⟨rfl,rfl,rfl,Nat.le_refl _⟩
 ·rename_i hc
  have hs:(stAt e k).state=1:=by simpa using fun q=>hc (.inl q)
  obtain ⟨b1,b2,b3,b4⟩:=beginM_keeps e (stAt e k)
  obtain ⟨c1,c2,c3,c4⟩:=pieceM_keeps (beginM e (stAt e k)).1 (beginM e (stAt e k)).2.1
  refine ⟨c1.trans b1,c2.trans b2,by simp [setSt,c3,b3],?_⟩
  simp only [setSt,c3,b3]
  refine gone_set _ _ _ (fun q=>?_)
  exact absurd (hs.symm.trans q) (by decide)
theorem saysM_room:∀(n k:Nat) (e:En),(saysM n k e).1.room=e.room∧(saysM n k e).1.wait=e.wait∧(saysM n k e).1.strs.length=e.strs.length∧gone e.strs≤gone (saysM n k e).1.strs
 | 0,k,e=>⟨rfl,rfl,rfl,Nat.le_refl _⟩
 | n+1,k,e=>by
  obtain ⟨a1,a2,a3,a4⟩:=sayM_room e k
  obtain ⟨b1,b2,b3,b4⟩:=saysM_room n (k+1) (sayM e k).1
  exact ⟨b1.trans a1,b2.trans a2,b3.trans a3,Nat.le_trans a4 b4⟩
theorem roomM_room (e:En) (f:Fr) (h:e.room+more0 [f]≤31):(roomM e f).room=e.room+more0 [f]∧(roomM e f).strs.length=e.strs.length∧gone e.strs≤gone (roomM e f).strs:=by
 unfold roomM
 split
 ·rename_i h8
  refine ⟨?_,rfl,Nat.le_refl _⟩
  simp [more0,h8]
 ·rename_i h8
  have h8:f.kind=8:=by simpa using h8
  split
  ·rename_i h0
   refine ⟨?_,rfl,Nat.le_refl _⟩
   simp only [more0,h8,h0,and_self,if_true,Nat.add_zero] at h ⊢
   omega
  ·rename_i h0
   have e0:more0 [f]=0:=by simp [more0,h0]
   rw [e0]
   split
   ·exact ⟨by simp,rfl,Nat.le_refl _⟩
   ·rename_i k hk
    exact ⟨by simp [setSt],by simp [setSt],gone_set _ _ _ (fun q=>q)⟩
theorem waitM_room:∀(l:List Fr) (e:En),e.room+more0 l≤31→(waitM e l).1.room=e.room+more0 l∧(waitM e l).1.strs.length=e.strs.length∧gone e.strs≤gone (waitM e l).1.strs
 | [],e,h=>⟨by simp [waitM,more0],rfl,Nat.le_refl _⟩
 | f :: l,e,h=>by
  have hm:more0 (f :: l)=more0 [f]+more0 l:=by simp [more0]
  obtain ⟨a1,a2,a3⟩:=roomM_room e f (by omega)
  obtain ⟨b1,b2,b3⟩:=waitM_room l (roomM e f) (by omega)
  exact ⟨by show (waitM (roomM e f) l).1.room=_; omega,b2.trans a2,Nat.le_trans a3 b3⟩
theorem writeM_loc {e:En} (h:Loc e):Loc (writeM e).1∧(writeM e).1.wait=[]:=by
 obtain ⟨a1,a2,a3⟩:=waitM_room e.wait e (by have:=h.sum; omega)
 obtain ⟨b1,b2,b3,b4⟩:=saysM_room e.strs.length 0 { (waitM e e.wait).1 with wait:=[] }
 have hw:(writeM e).1=(saysM e.strs.length 0 { (waitM e e.wait).1 with wait:=[] }).1:=rfl
 rw [hw]
 refine ⟨⟨?_,?_,?_⟩,b2⟩
 ·rw [b1,b2]; simp only [more0]; have:=h.sum; simp only [a1]; omega
 ·rw [b2]; simp [more0]
 ·rw [b3]; simp only [a2]; exact h.four
theorem doneM_state (ans:Bool) (s:St) (h:s.state=3):(doneM ans s).state=3:=by unfold doneM; rw [if_pos (by rw [h]; decide)]; exact h
theorem growM_loc {N:Nat} {e:En} (h:Loc e) (hw:EnW N e) {id:Int} (hid:strmOk id=true):Loc (growM e id):=by
 have hg:=growM_w hw hid
 have h4:=stsOk_len hg.sts
 revert h4
 unfold growM
 split
 ·intro h4
  refine ⟨h.sum,?_,h4⟩
  have:=h.len
  simp only [gone_app]; omega
 ·intro _; exact h
theorem headFM_loc {N:Nat} {e:En} (h:Loc e) (hw:EnW N e) {f:Fr} (hid:strmOk f.stream=true):Loc (headFM e f):=by
 unfold headFM
 have hg:=growM_loc h hw hid
 simp only
 split
 ·rename_i t hd k hr hk
  split
  ·exact hg.bad
  ·have hw:Loc { growM e f.stream with inn:=t }:=⟨hg.sum,hg.len,hg.four⟩
   refine hw.setSt (fun q=>?_)
   split
   ·exact doneM_state _ _ q
   ·exact q
 ·exact hg.bad
theorem dataM_loc {N:Nat} {e:En} (h:Loc e) (hw:EnW N e) {f:Fr}:Loc (dataM e f):=by
 unfold dataM
 split
 ·exact h.bad
 ·rename_i k hk
  obtain ⟨h1,h2⟩:=atM_some hk
  simp only
  split
  ·exact h.bad
  ·rename_i hc
   have c1:¬(f.body.length:Int) > e.room:=fun q=>hc (.inr (.inr (.inl q)))
   have hf:=flowOk_iff.1 hw.flow
   have hs:=(stOk_iff.1 (hw.st h1)).1
   have hi:(stAt e k).id≠0:=by rcases strmOk_cases hs with q | q | q | q <;> rw [q] <;> decide
   have hb:byteAt [by8 f.body.length] 0=f.body.length:=by8_toNat (by omega)
   have:=h.sum
   have:=h.len
   have hl:Loc { e with room:=e.room - f.body.length,wait:=if f.body=[] then e.wait else e.wait++[⟨8,false,0,[by8 f.body.length]⟩,⟨8,false,(stAt e k).id,[by8 f.body.length]⟩] }:=by
    by_cases hne:f.body=[]
    ·rw [if_pos hne]; rw [hne]; exact ⟨by simpa using h.sum,h.len,h.four⟩
    ·rw [if_neg hne]
     have hpos:=List.length_pos_iff.2 hne
     have hm:more0 (e.wait++[⟨8,false,0,[by8 f.body.length]⟩,⟨8,false,(stAt e k).id,[by8 f.body.length]⟩])=more0 e.wait+f.body.length:=by
      rw [more0_app]; simp [more0,hi,hb]
     refine ⟨?_,?_,h.four⟩
     ·simp only [hm]; omega
     ·simp only [hm]; rw [List.length_append]; simp only [List.length_cons,List.length_nil]; omega
   refine hl.setSt (fun q=>?_)
   split
   ·exact doneM_state _ _ q
   ·exact q
theorem moreM_loc {e:En} (h:Loc e) {f:Fr}:Loc (moreM e f):=by
 unfold moreM
 split
 ·exact ⟨h.sum,h.len,h.four⟩
 ·split
  ·exact h.bad
  ·rename_i k hk
   have hw:Loc { e with bad:=e.bad || decide ((stAt e k).send+byteAt f.body 0 > 31) }:=⟨h.sum,h.len,h.four⟩
   exact hw.setSt (fun q=>q)
theorem frameM_loc {N:Nat} {e:En} (h:Loc e) (hw:EnW N e) {f:Fr} (hf:frameOk f=true):Loc (frameM e f):=by
 unfold frameM
 split
 ·rename_i h1
  unfold frameOk at hf
  rw [if_pos (.inr h1)] at hf
  simp only [Bool.and_eq_true,decide_eq_true_eq] at hf
  exact headFM_loc h hw hf.1
 ·split
  ·exact dataM_loc h hw
  ·split
   ·exact moreM_loc h
   ·split
    ·exact h.bad
    ·split
     ·exact h.bad
     ·exact h.setSt (fun _=>rfl)
theorem hearsM_loc:∀(n N:Nat) (e:En),EnW N e→Loc e→Loc (hearsM n e)
 | 0,N,e,_,h=>h
 | n+1,N,e,hw,h=>by
  unfold hearsM
  split
  ·exact h
  ·simp only
   split
   ·exact h.bad
   ·split
    ·exact h
    ·rename_i h1 h2
     obtain ⟨g1,g2,g3,g4⟩:=frR_some (b:=e.came) (by omega)
     have hc:=hw.withCame (c:=e.came.drop (frR e.came).2.1) (by have:=hw.came; rw [List.length_drop]; omega)
     have hl:Loc { e with came:=e.came.drop (frR e.came).2.1 }:=⟨h.sum,h.len,h.four⟩
     exact hearsM_loc n (N+2) _ (frameM_w hc g1) (frameM_loc hl hc g1)
theorem hearM_loc {N:Nat} {e:En} (hw:EnW N e) (h:Loc e) {b:List UInt8} (hb:e.came.length+b.length≤600):Loc (hearM e b) :=
 hearsM_loc _ N _ (hw.withCame (by rw [List.length_append]; omega)) ⟨h.sum,h.len,h.four⟩
theorem hearWM_loc {N:Nat} {e:En} (hw:EnW N e) (h:Loc e) (b:List UInt8):Loc (hearWM e b):=by
 unfold hearWM
 split
 ·exact h
 ·rename_i hc
  have:¬e.came.length+b.length > 300:=fun q=>hc (.inr (.inl q))
  exact hearM_loc hw h (by omega)
theorem Loc.w {N:Nat} {e:En} (h:Loc e) (hw:EnW N e):EnW 36 e:=⟨hw.sts,hw.wait,hw.out,hw.inn,hw.flow,hw.came,h.wait (flowOk_iff.1 hw.flow).2.2.1⟩
structure WoL (w:Wo):Prop where
 caller:Loc w.caller
 answerer:Loc w.answerer
theorem WoL.w {N:Nat} {w:Wo} (h:WoL w) (hw:WoW N w):WoW 36 w:=⟨h.caller.w hw.caller,h.answerer.w hw.answerer,hw.calls,hw.answers,hw.up,hw.down⟩
theorem sayWM_loc {w:Wo} (h:WoL w) (side:Int):WoL (sayWM w side):=by
 unfold sayWM
 split
 ·split
  ·exact ⟨(writeM_loc h.caller).1,h.answerer⟩
  ·exact h
 ·split
  ·split
   ·exact ⟨h.caller,(writeM_loc h.answerer).1⟩
   ·exact h
  ·exact h
theorem passM_loc {N:Nat} {w:Wo} (hw:WoW N w) (h:WoL w) (way n:Int):WoL (passM w way n):=by
 unfold passM
 split
 ·split
  ·exact ⟨h.caller,hearWM_loc hw.answerer h.answerer _⟩
  ·split
   ·exact ⟨hearWM_loc hw.caller h.caller _,h.answerer⟩
   ·exact h
 ·exact h
theorem doM_loc {N:Nat} {w:Wo} (hw:WoW N w) (h:WoL w) (v:Ev):WoL (doM w v):=by
 unfold doM
 split
 ·exact ⟨callM_loc h.caller _ _,h.answerer⟩
 ·split
  ·exact ⟨leaveM_loc h.caller _,h.answerer⟩
  ·split
   ·exact sayWM_loc h _
   ·split
    ·exact passM_loc hw h _ _
    ·exact h
theorem doM_all {w:Wo} (hw:WoW 36 w) (h:WoL w) (v:Ev):WoW 36 (doM w v)∧WoL (doM w v):=by
 have h1:=doM_loc hw h v
 exact ⟨h1.w (doM_w (hw.mono (show 36≤642 by decide)) (Nat.le_refl _) v),h1⟩
theorem play_all:∀(l:List Ev) (w:Wo),WoW 36 w→WoL w→WoW 36 (l.foldl doM w)∧WoL (l.foldl doM w)
 | [],w,hw,h=>⟨hw,h⟩
 | v :: l,w,hw,h=>by
  obtain ⟨a,b⟩:=doM_all hw h v
  exact play_all l (doM w v) a b
theorem playM_all (l:List Ev):WoW 36 (playM l)∧WoL (playM l):=play_all l newWo (newWo_w.mono (by decide)) ⟨loc_new _,loc_new _⟩
theorem WoW.ok {w:Wo} (h:WoW 36 w):woOk w=true:=woOk_iff.2 (h.mono (by decide))
end
section
def Inc (e:En):Prop:=e.bad=true∨(frR e.came).2.2=0
theorem hearsM_stops:∀(n:Nat) (e:En),e.came.length < n→Inc (hearsM n e)
 | 0,e,h=>absurd h (Nat.not_lt_zero _)
 | n+1,e,h=>by
  unfold hearsM
  split
  ·rename_i hb; exact .inl hb
  ·simp only
   split
   ·exact .inl rfl
   ·split
    ·rename_i h0; exact .inr h0
    ·rename_i h1 h2
     obtain ⟨g1,g2,g3,g4⟩:=frR_some (b:=e.came) (by omega)
     refine hearsM_stops n _ ?_
     rw [frameM_came]
     simp only [List.length_drop]; omega
theorem hearM_inc (e:En) (b:List UInt8):Inc (hearM e b):=hearsM_stops _ _ (by simp)
theorem hearWM_inc {e:En} (h:Inc e) (b:List UInt8):Inc (hearWM e b):=by
 unfold hearWM
 split
 ·exact h
 ·exact hearM_inc e b
theorem hearsM_idle {e:En} (h:Inc e):∀n,hearsM n e=e
 | 0=>rfl
 | n+1=>by
  unfold hearsM
  rcases h with h | h
  ·rw [if_pos h]
  ·split
   ·rfl
   ·simp only
    rw [if_neg (by omega),if_pos h]
theorem hearM_idle {e:En} (h:Inc e):hearM e []=e:=by
 unfold hearM
 simp only [List.append_nil]
 exact hearsM_idle h _
theorem hearWM_idle {e:En} (h:Inc e):hearWM e []=e:=by
 unfold hearWM
 split
 ·rfl
 ·exact hearM_idle h
theorem saysM_cb:∀(n k:Nat) (e:En),(saysM n k e).1.came=e.came∧(saysM n k e).1.bad=e.bad
 | 0,k,e=>⟨rfl,rfl⟩
 | n+1,k,e=>by
  obtain ⟨b1,b2⟩:=saysM_cb n (k+1) (sayM e k).1
  have a:(sayM e k).1.came=e.came∧(sayM e k).1.bad=e.bad:=by
   unfold sayM
   simp only
   split
   ·exact ⟨rfl,rfl⟩
   ·have h1:∀x s,(beginM x s).1.came=x.came∧(beginM x s).1.bad=x.bad:=fun x s=>by unfold beginM; split <;> exact ⟨rfl,rfl⟩
    have h2:∀x s,(pieceM x s).1.came=x.came∧(pieceM x s).1.bad=x.bad:=fun x s=>by unfold pieceM; split <;> exact ⟨rfl,rfl⟩
    exact ⟨(h2 _ _).1.trans (h1 _ _).1,(h2 _ _).2.trans (h1 _ _).2⟩
  exact ⟨b1.trans a.1,b2.trans a.2⟩
theorem waitM_cb:∀(l:List Fr) (e:En),(waitM e l).1.came=e.came∧(waitM e l).1.bad=e.bad
 | [],e=>⟨rfl,rfl⟩
 | f :: l,e=>by
  obtain ⟨b1,b2⟩:=waitM_cb l (roomM e f)
  have a:(roomM e f).came=e.came∧(roomM e f).bad=e.bad:=by
   unfold roomM
   split
   ·exact ⟨rfl,rfl⟩
   ·split
    ·exact ⟨rfl,rfl⟩
    ·split <;> exact ⟨rfl,rfl⟩
  exact ⟨b1.trans a.1,b2.trans a.2⟩
theorem writeM_cb (e:En):(writeM e).1.came=e.came∧(writeM e).1.bad=e.bad:=by
 obtain ⟨a1,a2⟩:=waitM_cb e.wait e
 obtain ⟨b1,b2⟩:=saysM_cb e.strs.length 0 { (waitM e e.wait).1 with wait:=[] }
 exact ⟨b1.trans a1,b2.trans a2⟩
theorem callM_cb (e:En) (p t:List UInt8):(callM e p t).1.came=e.came∧(callM e p t).1.bad=e.bad:=by unfold callM; split <;> exact ⟨rfl,rfl⟩
theorem leaveM_cb (e:En) (id:Int):(leaveM e id).1.came=e.came∧(leaveM e id).1.bad=e.bad:=by
 unfold leaveM
 split
 ·exact ⟨rfl,rfl⟩
 ·split <;> exact ⟨rfl,rfl⟩
theorem Inc.of {e x:En} (h:Inc e) (hx:x.came=e.came∧x.bad=e.bad):Inc x:=by unfold Inc at *; rw [hx.1,hx.2]; exact h
structure WoI (w:Wo):Prop where
 caller:Inc w.caller
 answerer:Inc w.answerer
theorem doM_inc {w:Wo} (h:WoI w) (v:Ev):WoI (doM w v):=by
 unfold doM
 split
 ·exact ⟨h.caller.of (callM_cb _ _ _),h.answerer⟩
 ·split
  ·exact ⟨h.caller.of (leaveM_cb _ _),h.answerer⟩
  ·split
   ·unfold sayWM
    split
    ·split
     ·exact ⟨h.caller.of (writeM_cb _),h.answerer⟩
     ·exact h
    ·split
     ·split
      ·exact ⟨h.caller,h.answerer.of (writeM_cb _)⟩
      ·exact h
     ·exact h
   ·split
    ·unfold passM
     split
     ·split
      ·exact ⟨h.caller,hearWM_inc h.answerer _⟩
      ·split
       ·exact ⟨hearWM_inc h.caller _,h.answerer⟩
       ·exact h
     ·exact h
    ·exact h
theorem newEn_inc (a:Bool):Inc (newEn a):=.inr rfl
theorem play_inc:∀(l:List Ev) (w:Wo),WoI w→WoI (l.foldl doM w)
 | [],w,h=>h
 | v :: l,w,h=>play_inc l (doM w v) (doM_inc h v)
theorem playM_inc (l:List Ev):WoI (playM l):=play_inc l newWo ⟨newEn_inc _,newEn_inc _⟩
structure WoP (w:Wo):Prop where
 loc:WoL w
 inc:WoI w
theorem playM_p (l:List Ev):WoP (playM l):=⟨(playM_all l).2,playM_inc l⟩
def WoAll (w:Wo):Prop:=WoW 36 w∧WoP w
theorem WoP.all {w:Wo} (h:WoP w) (hok:woOk w=true):WoAll w:=⟨h.loc.w (woOk_iff.1 hok),h⟩
theorem WoAll.step {w:Wo} (h:WoAll w) (v:Ev):WoAll (doM w v):=⟨(doM_all h.1 h.2.loc v).1,(doM_all h.1 h.2.loc v).2,doM_inc h.2.inc v⟩
theorem WoAll.ok {w:Wo} (h:WoAll w):woOk w=true:=h.1.ok
theorem WoAll.idle {w:Wo} (h:WoAll w):(w.up=[]→passM w 0 90=w)∧(w.down=[]→passM w 1 90=w):=by
 constructor
 ·intro q
  unfold passM
  rw [if_pos (by decide),if_pos rfl,q]
  simp only [List.take_nil,List.drop_nil,hearWM_idle h.2.inc.answerer]
  rw [←q]
 ·intro q
  unfold passM
  rw [if_pos (by decide),if_neg (by decide),if_pos rfl,q]
  simp only [List.take_nil,List.drop_nil,hearWM_idle h.2.inc.caller]
  rw [←q]
end
section
theorem atM_map (l:List St) (i:Int):atM l i=(l.map St.id).findIdx? (fun x=>decide (x=i)):=by
 rw [atM,List.findIdx?_map]; rfl
theorem atM_eq {l k:List St} (h:l.map St.id=k.map St.id) (i:Int):atM l i=atM k i:=by rw [atM_map,atM_map,h]
theorem map_set {l:List St} {k:Nat} {s:St} (hid:s.id=(l.getD k st0).id):(l.set k s).map St.id=l.map St.id:=by
 refine List.ext_getElem (by simp) (fun i h1 h2=>?_)
 simp only [List.getElem_map,List.getElem_set]
 split
 ·rename_i e
  subst e
  rw [hid,getD_lt st0 (by simpa using h2)]
 ·rfl
theorem atM_snoc (l:List St) (s:St) (i:Int):atM (l++[s]) i=match atM l i with | some k=>some k | none=>if s.id=i then some l.length else none:=by
 unfold atM
 rw [List.findIdx?_append]
 cases h:List.findIdx? (fun s=>decide (s.id=i)) l with
 | some k=>simp
 | none =>
  by_cases e:s.id=i
  ·simp [List.findIdx?_cons,e]
  ·simp [List.findIdx?_cons,e]
def stOf (e:En) (i:Int):St:=match atM e.strs i with
 | some k=>stAt e k
 | none=>newSt i
def Has (e:En) (i:Int):Prop:=∃k,atM e.strs i=some k
theorem stOf_some {e:En} {i:Int} {k:Nat} (h:atM e.strs i=some k):stOf e i=stAt e k:=by rw [stOf,h]
theorem stOf_none {e:En} {i:Int} (h:¬Has e i):stOf e i=newSt i:=by
 rw [stOf]
 cases q:atM e.strs i with
 | none=>rfl
 | some k=>exact absurd ⟨k,q⟩ h
theorem stOf_id (e:En) (i:Int):(stOf e i).id=i:=by
 rw [stOf]
 cases q:atM e.strs i with
 | none=>rfl
 | some k=>exact (atM_some q).2
theorem Has.of_eq {e x:En} (h:x.strs.map St.id=e.strs.map St.id) {i:Int}:Has x i↔Has e i:=by unfold Has; rw [atM_eq h]
theorem Has.at_ {e:En} {k:Nat} (hk:k < e.strs.length):Has e (stAt e k).id:=by
 unfold Has atM
 cases h:List.findIdx? (fun s=>decide (s.id=(stAt e k).id)) e.strs with
 | some k=>exact ⟨k,rfl⟩
 | none =>
  have:=List.findIdx?_eq_none_iff.1 h (e.strs[k]) (List.getElem_mem hk)
  simp [stAt,List.getD,List.getElem?_eq_getElem hk] at this
theorem setSt_view {e:En} {k:Nat} {s:St} {i:Int} (h:atM e.strs i=some k) (hid:s.id=i) :
  (∀j,stOf (setSt e k s) j=if j=i then s else stOf e j)∧(setSt e k s).strs.map St.id=e.strs.map St.id:=by
 obtain ⟨h1,h2⟩:=atM_some h
 have hm:(setSt e k s).strs.map St.id=e.strs.map St.id:=map_set (by rw [hid,h2])
 refine ⟨fun j=>?_,hm⟩
 have ha:=atM_eq hm j
 rw [stOf,ha]
 by_cases e1:j=i
 ·subst e1
  rw [h,if_pos rfl]
  show (e.strs.set k s).getD k st0=s
  rw [getD_set st0 s h1,if_pos rfl]
 ·rw [if_neg e1,stOf]
  cases q:atM e.strs j with
  | none=>rfl
  | some n =>
   show (e.strs.set k s).getD n st0=e.strs.getD n st0
   rw [getD_set st0 s h1,if_neg]
   rintro rfl
   exact e1 ((atM_some q).2.symm.trans h2)
theorem app_view {e:En} {i:Int} (s:St) (hid:s.id=i) (h:¬Has e i) :
  ∀j,stOf { e with strs:=e.strs++[s] } j=if j=i then s else stOf e j:=by
 intro j
 rw [stOf]
 show (match atM (e.strs++[s]) j with | some k=>(e.strs++[s]).getD k st0 | none=>newSt j)=_
 rw [atM_snoc]
 by_cases e1:j=i
 ·subst e1
  have:atM e.strs j=none:=by
   cases q:atM e.strs j with
   | none=>rfl
   | some k=>exact absurd ⟨k,q⟩ h
  rw [this,if_pos rfl]
  simp only [hid,if_true]
  rw [getD_app,if_neg (by omega),if_pos rfl]
 ·rw [if_neg e1,stOf]
  cases q:atM e.strs j with
  | none=>simp only; rw [if_neg (by rw [hid]; exact fun z=>e1 z.symm)]
  | some n =>
   simp only
   rw [getD_app,if_pos (atM_some q).1]
   rfl
structure Rv where
 g:Bool
 t:List UInt8
 h:Bool
def adv (i:Int) (r:Rv) (f:Fr):Option Rv :=
 if f.stream≠i then some r
 else if f.kind=1 then (if r.h=false∧r.g=false∧r.t=[] then some ⟨true,r.t,f.last⟩ else none)
 else if f.kind=0 then (if r.h=false∧r.g=true then some ⟨true,r.t++f.body,f.last⟩ else none)
 else if f.kind=3 then (if r.g=true then some r else none)
 else some r
def run (i:Int):Rv→List Fr→Option Rv
 | r,[]=>some r
 | r,f :: l=>(adv i r f).bind fun x=>run i x l
theorem run_app (i:Int):∀(l k:List Fr) (r:Rv),run i r (l++k)=(run i r l).bind fun x=>run i x k
 | [],k,r=>rfl
 | f :: l,k,r=>by
  simp only [List.cons_append,run]
  cases adv i r f with
  | none=>rfl
  | some x=>exact run_app i l k x
theorem run_one (i:Int) (r:Rv) (f:Fr):run i r [f]=adv i r f:=by
 simp only [run]; cases adv i r f <;> rfl
theorem run_snoc {i:Int} {l:List Fr} {f:Fr} {r x:Rv} (h:run i r l=some x):run i r (l++[f])=adv i x f:=by
 rw [run_app,h]; exact run_one i x f
theorem adv_keeps {i:Int} {r x:Rv} {f:Fr} (h:adv i r f=some x):(r.g=true→x.g=true)∧(r.h=true→x=r)∧(∃u,x.t=r.t++u)∧(f.stream=i→f.kind=0∨f.kind=1∨f.kind=3→x.g=true)∧(x.h=true→r.h=true∨x.g=true):=by
 unfold adv at h
 split at h
 ·rename_i h0
  cases h
  exact ⟨id,fun _=>rfl,⟨[],by simp⟩,fun q=>absurd q h0,Or.inl⟩
 ·rename_i h0
  split at h
  ·split at h
   ·rename_i h1 h2
    cases h
    exact ⟨fun _=>rfl,fun q=>(by rw [h2.1] at q; cases q),⟨[],by simp⟩,fun _ _=>rfl,fun _=>.inr rfl⟩
   ·cases h
  ·split at h
   ·split at h
    ·rename_i h1 h2 h3
     cases h
     exact ⟨fun _=>rfl,fun q=>(by rw [h3.1] at q; cases q),⟨_,rfl⟩,fun _ _=>rfl,fun _=>.inr rfl⟩
    ·cases h
   ·split at h
    ·split at h
     ·rename_i h1 h2 h3 h4
      cases h
      exact ⟨id,fun _=>rfl,⟨[],by simp⟩,fun _ _=>h4,Or.inl⟩
     ·cases h
    ·rename_i h1 h2 h3
     cases h
     exact ⟨id,fun _=>rfl,⟨[],by simp⟩,fun _ q=>(by rcases q with q | q | q; exact absurd q h2; exact absurd q h1; exact absurd q h3),Or.inl⟩
theorem run_keeps {i:Int}:∀{l:List Fr} {r x:Rv},run i r l=some x→(r.g=true→x.g=true)∧(r.h=true→x=r)∧(∃u,x.t=r.t++u)∧(∀f ∈ l,f.stream=i→f.kind=0∨f.kind=1∨f.kind=3→x.g=true)∧(x.h=true→r.h=true∨x.g=true)
 | [],r,x,h=>by
  cases h
  exact ⟨id,fun _=>rfl,⟨[],by simp⟩,fun f hf=>absurd hf (by simp),Or.inl⟩
 | f :: l,r,x,h=>by
  simp only [run] at h
  cases hy:adv i r f with
  | none=>rw [hy] at h; cases h
  | some y =>
   rw [hy] at h
   obtain ⟨a1,a2,⟨u,a3⟩,a4,a5⟩:=adv_keeps hy
   obtain ⟨b1,b2,⟨v,b3⟩,b4,b5⟩:=run_keeps (show run i y l=some x from h)
   refine ⟨fun q=>b1 (a1 q),fun q=>?_,⟨u++v,by rw [b3,a3,List.append_assoc]⟩,fun g hg hs hk=>?_,fun q=>?_⟩
   ·have:=a2 q; subst this; exact b2 q
   ·rcases List.mem_cons.1 hg with rfl | hg
    ·exact b1 (a4 hs hk)
    ·exact b4 g hg hs hk
   ·rcases b5 q with q | q
    ·rcases a5 q with q | q
     ·exact .inl q
     ·exact .inr (b1 q)
    ·exact .inr q
theorem adv_none {i:Int} {r x:Rv} {f:Fr} (h:adv i r f=some x) (hg:r.g=false) (hx:x.g=true):r.t=[]∧r.h=false:=by
 unfold adv at h
 split at h
 ·cases h; rw [hg] at hx; cases hx
 ·split at h
  ·split at h
   ·rename_i q; exact ⟨q.2.2,q.1⟩
   ·cases h
  ·split at h
   ·split at h
    ·rename_i q; rw [hg] at q; cases q.2
    ·cases h
   ·split at h
    ·split at h
     ·cases h; rw [hg] at hx; cases hx
     ·cases h
    ·cases h; rw [hg] at hx; cases hx
theorem run_none {i:Int}:∀{l:List Fr} {r x:Rv},run i r l=some x→r.g=false→x.g=true→r.t=[]∧r.h=false
 | [],r,x,h,hg,hx=>by cases h; rw [hg] at hx; cases hx
 | f :: l,r,x,h,hg,hx=>by
  simp only [run] at h
  cases hy:adv i r f with
  | none=>rw [hy] at h; cases h
  | some y =>
   rw [hy] at h
   have h':run i y l=some x:=h
   cases hyg:y.g with
   | true=>exact adv_none hy hg hyg
   | false =>
    obtain ⟨a1,a2,⟨u,a3⟩,a4,a5⟩:=adv_keeps hy
    obtain ⟨b1,b2⟩:=run_none h' hyg hx
    rw [a3] at b1
    refine ⟨(List.append_eq_nil_iff.1 b1).1,?_⟩
    cases hh:r.h with
    | false=>rfl
    | true=>have:=a2 hh; subst this; rw [hh] at b2; cases b2
theorem run_skip {i:Int}:∀{l:List Fr} {r:Rv},(∀f ∈ l,f.kind=8)→run i r l=some r
 | [],r,_=>rfl
 | f :: l,r,h=>by
  have hf:=h f (by simp)
  have:adv i r f=some r:=by
   unfold adv
   split
   ·rfl
   ·rw [if_neg (by rw [hf]; decide),if_neg (by rw [hf]; decide),if_neg (by rw [hf]; decide)]
  simp only [run,this]
  exact run_skip (fun g hg=>h g (by simp [hg]))
def tabOn (hd:Int→List Fd) (m:Int):List Fd→List Fr→List Fd→Prop
 | t,[],t'=>t=t'
 | t,f :: l,t'=>if f.kind=1 then f.body=(headW t m (hd f.stream)).2∧tabOn hd m (headW t m (hd f.stream)).1 l t' else tabOn hd m t l t'
theorem tabOn_app (hd:Int→List Fd) (m:Int):∀(l k:List Fr) (t t':List Fd),tabOn hd m t (l++k) t'↔∃u,tabOn hd m t l u∧tabOn hd m u k t'
 | [],k,t,t'=>by simp [tabOn]
 | f :: l,k,t,t'=>by
  simp only [List.cons_append,tabOn]
  split
  ·rw [tabOn_app hd m l k]
   constructor
   ·rintro ⟨h1,u,h2,h3⟩; exact ⟨u,⟨h1,h2⟩,h3⟩
   ·rintro ⟨u,⟨h1,h2⟩,h3⟩; exact ⟨h1,u,h2,h3⟩
  ·exact tabOn_app hd m l k t t'
theorem tabOn_congr {hd hd':Int→List Fd} {m:Int}:∀{l:List Fr} {t t':List Fd},(∀f ∈ l,f.kind=1→hd f.stream=hd' f.stream)→tabOn hd m t l t'→tabOn hd' m t l t'
 | [],t,t',_,h=>h
 | f :: l,t,t',hq,h=>by
  simp only [tabOn] at h ⊢
  split
  ·rename_i hk
   rw [if_pos hk] at h
   have e:=hq f (by simp) hk
   rw [←e]
   exact ⟨h.1,tabOn_congr (fun g hg=>hq g (by simp [hg])) h.2⟩
  ·rename_i hk
   rw [if_neg hk] at h
   exact tabOn_congr (fun g hg=>hq g (by simp [hg])) h
theorem tabOn_skip {hd:Int→List Fd} {m:Int} {t:List Fd}:∀{l:List Fr},(∀f ∈ l,f.kind≠1)→tabOn hd m t l t
 | [],_=>rfl
 | f :: l,h=>by
  simp only [tabOn]
  rw [if_neg (h f (by simp))]
  exact tabOn_skip (fun g hg=>h g (by simp [hg]))
def dat (i:Int):List Fr→Nat
 | []=>0
 | f :: l=>(if f.kind=0∧(i=0∨f.stream=i) then f.body.length else 0)+dat i l
def mor (i:Int):List Fr→Nat
 | []=>0
 | f :: l=>(if f.kind=8∧f.stream=i then byteAt f.body 0 else 0)+mor i l
theorem dat_app (i:Int):∀l k:List Fr,dat i (l++k)=dat i l+dat i k
 | [],k=>by simp [dat]
 | f :: l,k=>by simp only [List.cons_append,dat,dat_app i l k]; omega
theorem mor_app (i:Int):∀l k:List Fr,mor i (l++k)=mor i l+mor i k
 | [],k=>by simp [mor]
 | f :: l,k=>by simp only [List.cons_append,mor,mor_app i l k]; omega
theorem mor_more0:∀l:List Fr,mor 0 l=more0 l
 | []=>rfl
 | f :: l=>by simp only [mor,more0,mor_more0 l]
theorem dat_none {i:Int}:∀{l:List Fr},(∀f ∈ l,f.kind≠0)→dat i l=0
 | [],_=>rfl
 | f :: l,h=>by
  simp only [dat]
  rw [if_neg (fun q=>h f (by simp) q.1),dat_none (fun g hg=>h g (by simp [hg]))]
theorem mor_none {i:Int}:∀{l:List Fr},(∀f ∈ l,f.kind≠8)→mor i l=0
 | [],_=>rfl
 | f :: l,h=>by
  simp only [mor]
  rw [if_neg (fun q=>h f (by simp) q.1),mor_none (fun g hg=>h g (by simp [hg]))]
def sd (s:St):Rv:=⟨s.begun,s.say.take s.sent.toNat,s.said⟩
def rv (s:St):Rv:=⟨!decide (s.got=[]),s.text,s.heard⟩
structure Dir (S R:En) (q p:List Fr):Prop where
 m:S.outM=R.innM
 tab:tabOn (fun i=>(stOf S i).head) S.outM R.inn q S.out
 run:∀i,run i (rv (stOf R i)) (q++S.wait)=some (sd (stOf S i))
 got:∀i,(stOf R i).got=[]∨(stOf R i).got=(stOf S i).head
 flow:S.send+dat 0 q+mor 0 p=R.room
 own:∀i,i≠0→(stOf S i).send+dat i q+mor i p=(stOf R i).room
 ok:∀f ∈ q,frameOk f=true
structure StI (s:St):Prop where
 not:s.begun=false→s.said=false∧s.sent=0
 beg:s.begun=true→s.said=decide (s.sent=s.say.length)
 head:s.head=[]→s.begun=false
structure StC (s:St):Prop where
 head:∃path,s.head=callHead path s.say
 heard:s.heard=true→s.state≠1
 done:s.state=2→s.heard=true
structure StA (s:St):Prop where
 ask:s.head≠[]→s.heard=true∧s.head=[⟨sStatus,(answerM (getM s.got sPath).1 s.text).1,false⟩,⟨sKind,sText,false⟩]∧s.say=(answerM (getM s.got sPath).1 s.text).2
 asked:s.heard=true→s.state≠3→s.head≠[]
 done:s.state=2→s.said=true
end
end Go.Proofs.YtaamlddnpamomaaGreatDoor
