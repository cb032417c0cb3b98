/- A part of the proof: contracts of functions, or plain facts on which these lean. -/
import Derived.Test.YtaamlddnpamomaaGreatDoorMf40
namespace Go.Proofs.YtaamlddnpamomaaGreatDoor
open Go
set_option linter.unusedVariables false
set_option linter.unusedSimpArgs false
set_option maxRecDepth 100000
set_option maxHeartbeats 16000000

section
theorem Syn.emptyUp {w:Wo} {fu fd:List Fr} (h:Syn w fu fd) (hi:WoI w) (he:w.up=[]):fu=[]∧w.answerer.came=[]:=by
 have hb:=h.up
 rw [he] at hb
 have h0:=hi.answerer.zero h.j.A.nb
 rcases frR_bytes hb h.j.u.ok with ⟨_,_,z⟩ | ⟨f,gs,rfl,e,_⟩
 ·cases fu with
  | nil=>exact ⟨rfl,by simpa [bytes] using hb⟩
  | cons f gs =>
   have h1:=z f gs rfl
   have h2:=congrArg List.length hb
   rw [bytes_cons,List.length_append,List.length_append,frW_lenE] at h2
   simp at h2
   omega
 ·rw [e] at h0; cases h0
theorem Syn.emptyDown {w:Wo} {fu fd:List Fr} (h:Syn w fu fd) (hi:WoI w) (he:w.down=[]):fd=[]∧w.caller.came=[]:=by
 have hb:=h.down
 rw [he] at hb
 have h0:=hi.caller.zero h.j.C.nb
 rcases frR_bytes hb h.j.d.ok with ⟨_,_,z⟩ | ⟨f,gs,rfl,e,_⟩
 ·cases fd with
  | nil=>exact ⟨rfl,by simpa [bytes] using hb⟩
  | cons f gs =>
   have h1:=z f gs rfl
   have h2:=congrArg List.length hb
   rw [bytes_cons,List.length_append,List.length_append,frW_lenE] at h2
   simp at h2
   omega
 ·rw [e] at h0; cases h0
theorem pass_do (w:Wo) (way n:Int):passM w way n=doM w ⟨4,way,n,[],[]⟩:=rfl
theorem say_do (w:Wo) (side:Int):sayWM w side=doM w ⟨3,side,0,[],[]⟩:=rfl
theorem Pl.pass {w:Wo} (h:Pl w) (way n:Int):Pl (passM w way n):=by rw [pass_do]; exact h.step _
theorem Pl.say {w:Wo} (h:Pl w) (side:Int):Pl (sayWM w side):=by rw [say_do]; exact h.step _
theorem Pl.passUp {w:Wo} (h:Pl w):passM w 0 90={ w with answerer:=hearM w.answerer (w.up.take 90),up:=w.up.drop 90 }:=by
 obtain ⟨fu,fd,hs⟩:=h.syn
 have:=(hs.passUp h.all.2.inc (n:=90) (Nat.le_refl _)).1
 unfold passM
 rw [if_pos (by decide),if_pos rfl]
 show ({ w with answerer:=hearWM w.answerer (w.up.take 90),up:=w.up.drop 90 }:Wo)=_
 rw [this]
theorem Pl.passDown {w:Wo} (h:Pl w):passM w 1 90={ w with caller:=hearM w.caller (w.down.take 90),down:=w.down.drop 90 }:=by
 obtain ⟨fu,fd,hs⟩:=h.syn
 have:=(hs.passDown h.all.2.inc (n:=90) (Nat.le_refl _)).1
 unfold passM
 rw [if_pos (by decide),if_neg (by decide),if_pos rfl]
 show ({ w with caller:=hearWM w.caller (w.down.take 90),down:=w.down.drop 90 }:Wo)=_
 rw [this]
def Quiet (came wire:List UInt8):Prop:=∃qs,came++wire=bytes qs∧(∀f ∈ qs,frameOk f=true)∧(∀f ∈ qs,f.kind≠0∧f.kind≠1)
theorem hearM_quiet {e:En} {b wire:List UInt8} {n:Nat} (h:Quiet e.came wire) (hb:b=wire.take n):units (hearM e b).strs≤units e.strs∧(hearM e b).wait=e.wait∧Quiet (hearM e b).came (wire.drop n):=by
 obtain ⟨qs,h1,h2,h3⟩:=h
 subst hb
 obtain ⟨u1,u2,gs,u3⟩:=hearsM_quiet (e.came.length+(wire.take n).length+1) { e with came:=e.came++wire.take n } qs (wire.drop n) (by show (e.came++wire.take n)++wire.drop n=_; rw [List.append_assoc,List.take_append_drop]; exact h1) h2 h3
 exact ⟨u1,u2,gs,u3⟩
theorem all_up:∀(n:Nat) {w:Wo} {fu fd:List Fr},Pl w→Syn w fu fd→w.up.length≤90 * n→0 < n →
  Pl (allM n w 0)∧Syn (allM n w 0) [] fd∧(allM n w 0).up=[]∧(allM n w 0).down=w.down∧(allM n w 0).caller=w.caller∧(Quiet w.answerer.came w.up→units (allM n w 0).answerer.strs≤units w.answerer.strs∧(allM n w 0).answerer.wait=w.answerer.wait)
 | 0,w,fu,fd,_,_,_,h0=>by omega
 | n+1,w,fu,fd,hp,hs,hl,_=>by
  have hx:=hp.passUp
  have hpx:=hp.pass 0 90
  obtain ⟨gs,hsx⟩:=(hs.passUp hp.all.2.inc (n:=90) (Nat.le_refl _)).2
  rw [←hx] at hsx
  have hq:Quiet w.answerer.came w.up→units (passM w 0 90).answerer.strs≤units w.answerer.strs∧(passM w 0 90).answerer.wait=w.answerer.wait∧Quiet (passM w 0 90).answerer.came (passM w 0 90).up:=fun q=>by
   rw [hx]; exact hearM_quiet q rfl
  have hc:(passM w 0 90).caller=w.caller:=by rw [hx]
  have hd:(passM w 0 90).down=w.down:=by rw [hx]
  have hu:(passM w 0 90).up=w.up.drop 90:=by rw [hx]
  unfold allM
  by_cases he:(passM w 0 90).up=[]
  ·rw [if_pos (.inl ⟨rfl,he⟩)]
   have:=(hsx.emptyUp hpx.all.2.inc he).1
   subst this
   exact ⟨hpx,hsx,he,hd,hc,fun q=>⟨(hq q).1,(hq q).2.1⟩⟩
  ·rw [if_neg (by rintro (z | z); exact he z.2; exact absurd z.1 (by decide))]
   have hl':(passM w 0 90).up.length≤90 * n:=by rw [hu,List.length_drop]; omega
   have hn:0 < n:=by
    have:=List.length_pos_iff.2 he
    omega
   obtain ⟨a1,a2,a3,a4,a5,a6⟩:=all_up n hpx hsx hl' hn
   exact ⟨a1,a2,a3,a4.trans hd,a5.trans hc,fun q=>⟨Nat.le_trans (a6 (hq q).2.2).1 (hq q).1,(a6 (hq q).2.2).2.trans (hq q).2.1⟩⟩
structure CState (e x:En):Prop where
 len:x.strs.length=e.strs.length
 at_:∀i,(stAt x i).state=3→(stAt e i).state=3
theorem CState.refl (e:En):CState e e:=⟨rfl,fun _=>id⟩
theorem CState.same {e x:En} (h:x.strs=e.strs):CState e x:=⟨by rw [h],fun i hi=>by rw [stAt,h] at hi; exact hi⟩
theorem CState.trans {e x y:En} (h:CState e x) (k:CState x y):CState e y:=⟨k.len.trans h.len,fun i hi=>h.at_ i (k.at_ i hi)⟩
theorem CState.set {e x:En} {k:Nat} {s:St} (h:CState e x) (hk:k < x.strs.length) (hs:s.state=3→(stAt x k).state=3):CState e (setSt x k s):=by
 refine h.trans ⟨by simp [setSt],fun i hi=>?_⟩
 have hi:((x.strs.set k s).getD i st0).state=3:=hi
 rw [getD_set st0 s hk] at hi
 split at hi
 ·rename_i q; rw [q]; exact hs hi
 ·exact hi
theorem roomM_cs (e:En) (f:Fr):CState e (roomM e f):=by
 unfold roomM
 split
 ·exact .refl e
 ·split
  ·exact .same rfl
  ·split
   ·exact .refl e
   ·rename_i k hk
    exact (CState.refl e).set (atM_some hk).1 id
theorem waitM_cs:∀(l:List Fr) (e:En),CState e (waitM e l).1
 | [],e=>.refl e
 | f :: l,e=>(roomM_cs e f).trans (waitM_cs l _)
theorem sayM_cs {e:En} (ha:e.ans=false) {k:Nat} (hk:k < e.strs.length):CState e (sayM e k).1:=by
 unfold sayM
 simp only
 split
 ·exact .refl e
 ·obtain ⟨b1,b2,b3,b4⟩:=beginM_keeps e (stAt e k)
  obtain ⟨c1,c2,c3,c4⟩:=pieceM_keeps (beginM e (stAt e k)).1 (beginM e (stAt e k)).2.1
  have hst:=c3.trans b3
  have hat:stAt (pieceM (beginM e (stAt e k)).1 (beginM e (stAt e k)).2.1).1 k=stAt e k:=congrArg (fun l:List St=>l.getD k st0) hst
  refine CState.set (.same hst) (by rw [hst]; exact hk) (fun q=>?_)
  rw [hat]
  rw [ha] at q
  have q:(pieceM (beginM e (stAt e k)).1 (beginM e (stAt e k)).2.1).2.1.state=3:=by simpa using q
  rw [c4,b4] at q
  exact q
theorem saysM_cs {N:Nat}:∀(n k:Nat) (e:En),e.ans=false→EnW N e→k+n≤e.strs.length→CState e (saysM n k e).1
 | 0,k,e,_,_,_=>.refl e
 | n+1,k,e,ha,hw,hk=>by
  obtain ⟨r1,r2⟩:=sayM_w hw (k:=k) (by omega)
  exact (sayM_cs ha (by omega)).trans (saysM_cs n (k+1) (sayM e k).1 ((sayM_ans e k).trans ha) r1 (by omega))
theorem writeM_cs {N:Nat} {e:En} (ha:e.ans=false) (hw:EnW N e):CState e (writeM e).1:=by
 obtain ⟨r1,r2,_⟩:=waitM_w e.wait e hw
 have h1:=(waitM_cs e.wait e).trans (.same (x:={ (waitM e e.wait).1 with wait:=[] }) rfl)
 exact h1.trans (saysM_cs (N:=0) e.strs.length 0 { (waitM e e.wait).1 with wait:=[] } ((waitM_ans _ _).trans ha) r1.noWait (by simp [r2]))
theorem doneM_cs {s:St} (h:(doneM false s).state=3):s.state=3:=by
 unfold doneM at h
 split at h
 ·exact h
 ·rw [if_neg (by decide)] at h; exact absurd (show (2:Int)=3 from h) (by decide)
theorem frameM_cs {e:En} (ha:e.ans=false) (f:Fr):CState e (frameM e f):=by
 unfold frameM
 split
 ·unfold headFM
  rw [growM_caller ha]
  simp only
  split
  ·rename_i t hd k hr hk
   split
   ·exact .same rfl
   ·refine CState.set (x:={ e with inn:=t }) (.same rfl) (atM_some hk).1 (fun q=>?_)
    split at q
    ·rw [ha] at q; have:=doneM_cs q; exact this
    ·exact q
  ·exact .same rfl
 ·split
  ·unfold dataM
   split
   ·exact .same rfl
   ·rename_i k hk
    simp only
    split
    ·exact .same rfl
    ·refine CState.set (x:={ e with room:=_,wait:=_ }) (.same rfl) (atM_some hk).1 (fun q=>?_)
     split at q
     ·rw [ha] at q; have:=doneM_cs q; exact this
     ·exact q
  ·split
   ·unfold moreM
    split
    ·exact .same rfl
    ·split
     ·exact .same rfl
     ·rename_i k hk
      exact CState.set (x:={ e with bad:=_ }) (.same rfl) (atM_some hk).1 id
   ·split
    ·exact .same rfl
    ·exact .same rfl
theorem hearsM_cs:∀(n:Nat) (e:En),e.ans=false→CState e (hearsM n e)
 | 0,e,_=>.refl e
 | n+1,e,ha=>by
  unfold hearsM
  split
  ·exact .refl e
  ·simp only
   split
   ·exact .same rfl
   ·split
    ·exact .refl e
    ·have h0:CState e { e with came:=e.came.drop (frR e.came).2.1 }:=.same rfl
     exact (h0.trans (frameM_cs (e:={ e with came:=e.came.drop (frR e.came).2.1 }) ha (frR e.came).1)).trans (hearsM_cs n _ ((frameM_ans _ _).trans ha))
theorem hearM_cs {e:En} (ha:e.ans=false) (b:List UInt8):CState e (hearM e b):=by
 have h0:CState e { e with came:=e.came++b }:=.same rfl
 exact h0.trans (hearsM_cs _ _ ha)
theorem all_down:∀(n:Nat) {w:Wo} {fu fd:List Fr},Pl w→Syn w fu fd→w.down.length≤90 * n→0 < n →
  Pl (allM n w 1)∧Syn (allM n w 1) fu []∧(allM n w 1).down=[]∧(allM n w 1).up=w.up∧(allM n w 1).answerer=w.answerer∧units (allM n w 1).caller.strs≤units w.caller.strs∧CState w.caller (allM n w 1).caller∧(w.down=[]→allM n w 1=w)
 | 0,w,fu,fd,_,_,_,h0=>by omega
 | n+1,w,fu,fd,hp,hs,hl,_=>by
  have hx:=hp.passDown
  have hpx:=hp.pass 1 90
  obtain ⟨gs,hsx⟩:=(hs.passDown hp.all.2.inc (n:=90) (Nat.le_refl _)).2
  rw [←hx] at hsx
  have ha:=hs.j.cans
  have hq:units (passM w 1 90).caller.strs≤units w.caller.strs:=by
   rw [hx]; exact hearsM_c _ { w.caller with came:=w.caller.came++w.down.take 90 } ha
  have hcs:CState w.caller (passM w 1 90).caller:=by rw [hx]; exact hearM_cs ha _
  have hc:(passM w 1 90).answerer=w.answerer:=by rw [hx]
  have hd:(passM w 1 90).up=w.up:=by rw [hx]
  have hu:(passM w 1 90).down=w.down.drop 90:=by rw [hx]
  have hidle:=hp.all.idle.2
  unfold allM
  by_cases he:(passM w 1 90).down=[]
  ·rw [if_pos (.inr ⟨rfl,he⟩)]
   have:=(hsx.emptyDown hpx.all.2.inc he).1
   subst this
   exact ⟨hpx,hsx,he,hd,hc,hq,hcs,hidle⟩
  ·rw [if_neg (by rintro (z | z); exact absurd z.1 (by decide); exact he z.2)]
   have hl':(passM w 1 90).down.length≤90 * n:=by rw [hu,List.length_drop]; omega
   have hn:0 < n:=by
    have:=List.length_pos_iff.2 he
    omega
   obtain ⟨a1,a2,a3,a4,a5,a6,a7,a8⟩:=all_down n hpx hsx hl' hn
   exact ⟨a1,a2,a3,a4.trans hd,a5.trans hc,Nat.le_trans a6 hq,hcs.trans a7,fun z=>absurd (by rw [hu,z]; rfl) he⟩
structure Clr (w:Wo):Prop where
 pl:Pl w
 syn:Syn w [] []
 up:w.up=[]
 down:w.down=[]
theorem Pl.wire {w:Wo} (h:Pl w):w.up.length≤800∧w.down.length≤800:=⟨h.all.1.up,h.all.1.down⟩
theorem roundM_eq (w:Wo):roundM w=allM 12 (sayWM (allM 12 (sayWM w 0) 0) 1) 1:=rfl
theorem say0_keeps (w:Wo):(sayWM w 0).answerer=w.answerer∧(sayWM w 0).down=w.down:=by
 unfold sayWM; rw [if_pos rfl]; split <;> exact ⟨rfl,rfl⟩
theorem say1_keeps (w:Wo):(sayWM w 1).caller=w.caller∧(sayWM w 1).up=w.up:=by
 unfold sayWM; rw [if_neg (by decide),if_pos rfl]; split <;> exact ⟨rfl,rfl⟩
theorem say0_cs {w:Wo} {fu fd:List Fr} (h:Syn w fu fd):CState w.caller (sayWM w 0).caller:=by
 unfold sayWM
 rw [if_pos rfl]
 split
 ·exact writeM_cs h.j.cans h.j.C.w
 ·exact .refl _
theorem round_clr {w:Wo} (h:Pl w):Clr (roundM w)∧CState w.caller (roundM w).caller:=by
 obtain ⟨fu,fd,hs⟩:=h.syn
 have h1:=h.say 0
 obtain ⟨fu1,fd1,hs1⟩:=h1.syn
 obtain ⟨a1,a2,a3,a4,a5,_⟩:=all_up 12 h1 hs1 (by have:=h1.wire; omega) (by decide)
 have h3:=a1.say 1
 obtain ⟨fu3,fd3,hs3⟩:=h3.syn
 have hu3:(sayWM (allM 12 (sayWM w 0) 0) 1).up=[]:=(say1_keeps _).2.trans a3
 have:=(hs3.emptyUp h3.all.2.inc hu3).1
 subst this
 obtain ⟨b1,b2,b3,b4,b5,b6,b7,_⟩:=all_down 12 h3 hs3 (by have:=h3.wire; omega) (by decide)
 refine ⟨⟨b1,b2,b4.trans hu3,b3⟩,?_⟩
 have c1:=say0_cs hs
 rw [←a5] at c1
 have c2:(sayWM (allM 12 (sayWM w 0) 0) 1).caller=(allM 12 (sayWM w 0) 0).caller:=(say1_keeps _).1
 rw [←c2] at c1
 exact c1.trans b7
theorem dec_mono {n m:Nat} (h:n≤m):dec n≤dec m:=by unfold dec; split <;> split <;> omega
theorem round_next {w:Wo} (h:Clr w) :
  Clr (roundM w)∧(roundM w).answerer.wait=[]∧units (roundM w).caller.strs≤units w.caller.strs∧(w.answerer.wait=[]→units (roundM w).caller.strs≤dec (units w.caller.strs)) ∧
  (units w.caller.strs=0→units (roundM w).answerer.strs≤dec (units w.answerer.strs))∧(units w.caller.strs=0→units w.answerer.strs=0→w.answerer.wait=[]→(roundM w).caller.wait=[]):=by
 have hclr:=(round_clr h.pl).1
 have hJ:=h.syn.j
 have e1:sayWM w 0={ w with caller:=(writeM w.caller).1,up:=w.up++(writeM w.caller).2 }:=by
  unfold sayWM; rw [if_pos rfl,if_pos ⟨hJ.C.nb,by rw [h.up]; simpa using hJ.toJ0.shortUp⟩]
 have h1:=h.pl.say 0
 obtain ⟨fu1,fd1,hs1⟩:=h1.syn
 have hd1:(sayWM w 0).down=[]:=(say0_keeps w).2.trans h.down
 have:=(hs1.emptyDown h1.all.2.inc hd1).1
 subst this
 obtain ⟨a1,a2,a3,a4,a5,a6⟩:=all_up 12 h1 hs1 (by have:=h1.wire; omega) (by decide)
 have hcw:(sayWM w 0).caller.wait=[]:=by rw [e1]; exact (writeM_loc hJ.cl).2
 have hcu:units (sayWM w 0).caller.strs≤units w.caller.strs:=by rw [e1]; exact writeM_le hJ.C.w
 have hcd:w.answerer.wait=[]→units (sayWM w 0).caller.strs≤dec (units w.caller.strs):=fun q=>by rw [e1]; exact hJ.toJ0.decUp q
 have hqu:units w.caller.strs=0→Quiet (sayWM w 0).answerer.came (sayWM w 0).up:=fun q=>by
  have e2:(sayWM w 0).up=bytes w.caller.wait:=by
   rw [e1,h.up,writeM_zero q]
   exact (J0.waitUp w.caller.wait hJ.toJ0 rfl).2
  refine ⟨w.caller.wait,?_,hJ.C.w.wait,fun f hf=>?_⟩
  ·rw [e2,(say0_keeps w).1,(h.syn.emptyUp h.pl.all.2.inc h.up).2]; rfl
  ·rcases hJ.C.waits f hf with z | z
   ·rw [z]; exact ⟨by decide,by decide⟩
   ·rw [z.1]; exact ⟨by decide,by decide⟩
 have hau:units w.caller.strs=0→units (allM 12 (sayWM w 0) 0).answerer.strs≤units w.answerer.strs∧(allM 12 (sayWM w 0) 0).answerer.wait=w.answerer.wait:=fun q=>by
  have:=a6 (hqu q)
  rw [(say0_keeps w).1] at this
  exact this
 rw [roundM_eq] at hclr ⊢
 generalize allM 12 (sayWM w 0) 0=x at *
 have hJx:=a2.j
 have hdx:x.down=[]:=a4.trans hd1
 have e3:sayWM x 1={ x with answerer:=(writeM x.answerer).1,down:=x.down++(writeM x.answerer).2 }:=by
  unfold sayWM; rw [if_neg (by decide),if_pos rfl,if_pos ⟨hJx.A.nb,by rw [hdx]; simpa using hJx.toJ0.shortDown⟩]
 have h3:=a1.say 1
 obtain ⟨fu3,fd3,hs3⟩:=h3.syn
 obtain ⟨b1,b2,b3,b4,b5,b6,b7,b8⟩:=all_down 12 h3 hs3 (by have:=h3.wire; omega) (by decide)
 have hxc:(sayWM x 1).caller=(sayWM w 0).caller:=((say1_keeps x).1).trans a5
 have hxw:x.caller.wait=[]:=by rw [a5]; exact hcw
 rw [hxc] at b6
 refine ⟨hclr,?_,Nat.le_trans b6 hcu,fun q=>Nat.le_trans b6 (hcd q),fun q=>?_,fun q1 q2 q3=>?_⟩
 ·rw [b5,e3]; exact (writeM_loc hJx.al).2
 ·rw [b5,e3]
  exact Nat.le_trans (hJx.toJ0.decDown hxw) (dec_mono (hau q).1)
 ·obtain ⟨u1,u2⟩:=hau q1
  have hz:units x.answerer.strs=0:=by omega
  have hw0:x.answerer.wait=[]:=u2.trans q3
  have hd3:(sayWM x 1).down=[]:=by
   rw [e3,hdx,writeM_zero hz,hw0]; rfl
  rw [b8 hd3,(say1_keeps x).1]
  exact hxw
structure Rest (w:Wo):Prop extends Clr w where
 cw:w.caller.wait=[]
 aw:w.answerer.wait=[]
 cu:units w.caller.strs=0
 au:units w.answerer.strs=0
theorem Rest.round {w:Wo} (h:Rest w):roundM w=w:=by
 have key:∀e:En,units e.strs=0→e.wait=[]→writeM e=(e,[]):=fun e h0 hw=>by
  rw [writeM_zero h0,hw]
  show (({ e with wait:=[] }:En),_)=_
  cases e; simp only at hw; subst hw; rfl
 obtain ⟨i1,i2⟩:=h.pl.all.idle
 have e1:sayWM w 0=w:=by
  unfold sayWM
  rw [if_pos rfl,key _ h.cu h.cw]
  split
  ·simp
  ·rfl
 have e2:allM 12 w 0=w:=by
  unfold allM
  rw [i1 h.up,if_pos (.inl ⟨rfl,h.up⟩)]
 have e3:sayWM w 1=w:=by
  unfold sayWM
  rw [if_neg (by decide),if_pos rfl,key _ h.au h.aw]
  split
  ·simp
  ·rfl
 have e4:allM 12 w 1=w:=by
  unfold allM
  rw [i2 h.down,if_pos (.inr ⟨rfl,h.down⟩)]
 rw [roundM_eq,e1,e2,e3,e4]
theorem rounds_cs:∀(n:Nat) {w:Wo},Pl w→Pl (roundsM n w)∧CState w.caller (roundsM n w).caller
 | 0,w,h=>⟨h,.refl _⟩
 | n+1,w,h=>by
  obtain ⟨h1,h2⟩:=rounds_cs n h
  rw [roundsM_snoc]
  obtain ⟨h3,h4⟩:=round_clr h1
  exact ⟨h3.pl,h2.trans h4⟩
theorem allM_grow:∀(n:Nat) (way:Int) {w:Wo},Pl w→EnGrow w.caller (allM n w way).caller∧Pl (allM n w way)
 | 0,way,w,h=>⟨.refl _,h⟩
 | n+1,way,w,h=>by
  have h1:EnGrow w.caller (passM w way 90).caller:=by rw [pass_do]; exact (doM_grow h.all.1 _).1
  unfold allM
  split
  ·exact ⟨h1,h.pass way 90⟩
  ·obtain ⟨a,b⟩:=allM_grow n way (h.pass way 90)
   exact ⟨h1.trans a,b⟩
theorem say_grow {w:Wo} (h:Pl w) (side:Int):EnGrow w.caller (sayWM w side).caller:=by rw [say_do]; exact (doM_grow h.all.1 _).1
theorem rounds_grow:∀(n:Nat) {w:Wo},Pl w→EnGrow w.caller (roundsM n w).caller
 | 0,w,h=>.refl _
 | n+1,w,h=>by
  have h1:=rounds_grow n h
  have hp:=(rounds_cs n h).1
  rw [roundsM_snoc,roundM_eq]
  obtain ⟨a1,a2⟩:=allM_grow 12 0 (hp.say 0)
  obtain ⟨b1,b2⟩:=allM_grow 12 1 (a2.say 1)
  exact (((h1.trans (say_grow hp 0)).trans a1).trans (say_grow a2 1)).trans b1
theorem units8 {N:Nat} {e:En} (h:EnW N e):units e.strs≤8:=by
 have:=units_le e.strs; have:=stsOk_len h.sts; omega
def bnd:Nat→Nat
 | 0=>8
 | n+1=>dec (bnd n)
theorem bnd5:bnd 5=0:=by decide
theorem calm_seq (f:Nat→Wo) (hf:∀n,f (n+1)=roundM (f n)) (h:Pl (f 0)):Rest (f 13):=by
 have h1:Clr (f 1):=by rw [hf]; exact (round_clr h).1
 have h2:Clr (f 2)∧(f 2).answerer.wait=[]:=by rw [hf]; obtain ⟨a,b,_⟩:=round_next h1; exact ⟨a,b⟩
 have up:∀n,Clr (f (2+n))∧(f (2+n)).answerer.wait=[]∧units (f (2+n)).caller.strs≤bnd n:=by
  intro n
  induction n with
  | zero=>exact ⟨h2.1,h2.2,units8 h2.1.syn.j.C.w⟩
  | succ n ih =>
   obtain ⟨a,b,c⟩:=ih
   rw [show 2+(n+1)=(2+n)+1 by omega,hf]
   obtain ⟨x1,x2,x3,x4,_⟩:=round_next a
   exact ⟨x1,x2,Nat.le_trans (x4 b) (dec_mono c)⟩
 obtain ⟨d1,d2,d3⟩:=up 5
 rw [bnd5] at d3
 have d3:units (f 7).caller.strs=0:=Nat.le_zero.1 d3
 have dn:∀n,Clr (f (7+n))∧(f (7+n)).answerer.wait=[]∧units (f (7+n)).caller.strs=0∧units (f (7+n)).answerer.strs≤bnd n:=by
  intro n
  induction n with
  | zero=>exact ⟨d1,d2,d3,units8 d1.syn.j.A.w⟩
  | succ n ih =>
   obtain ⟨a,b,c0,c⟩:=ih
   rw [show 7+(n+1)=(7+n)+1 by omega,hf]
   obtain ⟨x1,x2,x3,x4,x5,_⟩:=round_next a
   exact ⟨x1,x2,by omega,Nat.le_trans (x5 c0) (dec_mono c)⟩
 obtain ⟨f1,f2,f3,f4⟩:=dn 5
 rw [bnd5] at f4
 have f4:units (f 12).answerer.strs=0:=Nat.le_zero.1 f4
 have f3:units (f 12).caller.strs=0:=f3
 rw [hf]
 obtain ⟨x1,x2,x3,x4,x5,x6⟩:=round_next f1
 have:=x5 f3
 rw [show units (f (7+5)).answerer.strs=0 from f4] at this
 exact ⟨x1,x6 f3 f4 f2,x2,Nat.le_zero.1 (f3 ▸ x3),Nat.le_zero.1 this⟩
theorem calm_rest {w:Wo} (h:Pl w):Rest (roundsM 13 w):=calm_seq (fun n=>roundsM n w) (fun n=>roundsM_snoc n w) h
theorem calm_all {w:Wo} (h:Pl w) {n:Nat} (hn:13≤n):Rest (roundsM n w):=by
 have e:∀(f:Nat→Wo),(∀n,f (n+1)=roundM (f n))→Rest (f 13)→∀k,Rest (f (13+k)):=fun f hf h0 k=>by
  induction k with
  | zero=>exact h0
  | succ k ih=>rw [show 13+(k+1)=(13+k)+1 by omega,hf,ih.round]; exact ih
 have:=e (fun n=>roundsM n w) (fun n=>roundsM_snoc n w) (calm_rest h) (n - 13)
 rwa [show 13+(n - 13)=n by omega] at this
theorem Rest.calls {w:Wo} (h:Rest w) {i:Nat} (hi:i < w.caller.strs.length):(stAt w.caller i).state=2∨(stAt w.caller i).state=3:=by
 have hJ:=h.syn.j
 have hr:=(stOk_iff.1 (hJ.C.w.st hi)).2.1
 by_cases h1:(stAt w.caller i).state=1
 ·exfalso
  have hof:=hJ.C.w.of hi
  have hat:Has w.caller (stAt w.caller i).id:=Has.at_ hi
  generalize hid:(stAt w.caller i).id=id at *
  have hsc:=hJ.C.sc hJ.cans id hat
  have hne:(stOf w.caller id).head≠[]:=by obtain ⟨path,e⟩:=hsc.head; rw [e]; simp [callHead]
  have h0:unit (stAt w.caller i)=0:=by have:=units_at w.caller.strs i hi; rw [h.cu] at this; exact Nat.le_zero.1 this
  have hsd:(stOf w.caller id).said=true:=by
   rcases unit_zero h0 with z | z | z
   ·exact absurd h1 z
   ·rw [hof] at hne; exact absurd z hne
   ·rw [hof]; exact z
  have hru:=hJ.u.run id
  rw [h.cw] at hru
  have hru:rv (stOf w.answerer id)=sd (stOf w.caller id):=Option.some.inj hru
  have hah:(stOf w.answerer id).heard=true:=(congrArg Rv.h hru).trans hsd
  have has:=hJ.A.sa hJ.aans id
  have hs3:(stOf w.answerer id).state≠3:=fun z=>by
   have:=hJ.gone id (.inl z)
   rw [hof,h1] at this; cases this
  have hane:=has.asked hah hs3
  obtain ⟨k,hk⟩:=got_has ((hJ.u.all hJ.C.si hah).2.2.2.2)
  have ha0:unit (stAt w.answerer k)=0:=by have:=units_at w.answerer.strs k (atM_some hk).1; rw [h.au] at this; exact Nat.le_zero.1 this
  have haof:=stOf_some hk
  have hasd:(stOf w.answerer id).said=true:=by
   rw [haof] at hane hs3 has ⊢
   have hrr:=(stOk_iff.1 (hJ.A.w.st (atM_some hk).1)).2.1
   rcases unit_zero ha0 with z | z | z
   ·have:(stAt w.answerer k).state=2:=by omega
    exact has.done this
   ·exact absurd z hane
   ·exact z
  have hrd:=hJ.d.run id
  rw [h.aw] at hrd
  have hrd:rv (stOf w.caller id)=sd (stOf w.answerer id):=Option.some.inj hrd
  have hch:(stOf w.caller id).heard=true:=(congrArg Rv.h hrd).trans hasd
  exact hsc.heard hch (by rw [hof]; exact h1)
 ·omega
theorem Rest.flow {w:Wo} (h:Rest w):w.caller.send=16∧w.caller.room=16∧w.answerer.send=16∧w.answerer.room=16:=by
 have hJ:=h.syn.j
 have h1:=hJ.u.flow
 have h2:=hJ.d.flow
 have h3:=hJ.C.sum
 have h4:=hJ.A.sum
 rw [h.cw] at h3
 rw [h.aw] at h4
 simp only [dat,mor] at h1 h2 h3 h4
 omega
end
end Go.Proofs.YtaamlddnpamomaaGreatDoor
