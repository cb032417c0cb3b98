/- A part of the proof: contracts of functions, or plain facts on which these lean. -/
import Derived.Test.YtmfamfjfnjckeaaGreatDoorNa25
import Derived.Test.YtmfamfjfnjckeaaGreatDoorNa35
import Derived.Test.YtmfamfjfnjckeaaGreatDoorNa39
namespace Go.Proofs.YtmfamfjfnjckeaaGreatDoor
open Go
set_option linter.unusedVariables false
set_option linter.unusedSimpArgs false
set_option maxRecDepth 100000
set_option maxHeartbeats 16000000

section
structure StGrow (a b:St):Prop where
 id:b.id=a.id
 text:∃t,b.text=a.text++t
 say:b.say=a.say
 sent:a.sent≤b.sent
 state:a.state≠1→b.state=a.state
theorem StGrow.refl (a:St):StGrow a a:=⟨rfl,⟨[],(List.append_nil _).symm⟩,rfl,Int.le_refl _,fun _=>rfl⟩
theorem StGrow.trans {a b c:St} (h:StGrow a b) (k:StGrow b c):StGrow a c:=by
 obtain ⟨t,ht⟩:=h.text
 obtain ⟨u,hu⟩:=k.text
 exact ⟨k.id.trans h.id,⟨t++u,by rw [hu,ht,List.append_assoc]⟩,k.say.trans h.say,Int.le_trans h.sent k.sent,fun q=>by rw [k.state (by rw [h.state q]; exact q),h.state q]⟩
structure EnGrow (e x:En):Prop where
 len:e.strs.length≤x.strs.length
 at_:∀i,i < e.strs.length→StGrow (stAt e i) (stAt x i)
theorem EnGrow.same {e x:En} (h:x.strs=e.strs):EnGrow e x:=⟨by rw [h]; exact Nat.le_refl _,fun i _=>by rw [stAt,stAt,h]; exact .refl _⟩
theorem EnGrow.refl (e:En):EnGrow e e:=.same rfl
theorem EnGrow.trans {e x y:En} (h:EnGrow e x) (k:EnGrow x y):EnGrow e y:=⟨Nat.le_trans h.len k.len,fun i hi=>(h.at_ i hi).trans (k.at_ i (Nat.lt_of_lt_of_le hi h.len))⟩
theorem EnGrow.set {e x:En} {k:Nat} {s:St} (h:EnGrow e x) (hk:k < x.strs.length) (hs:StGrow (stAt x k) s):EnGrow e (setSt x k s):=by
 refine h.trans ⟨by simp [setSt],fun i hi=>?_⟩
 show StGrow (stAt x i) ((x.strs.set k s).getD i st0)
 rw [getD_set st0 s hk]
 split
 ·rename_i q; subst q; exact hs
 ·exact .refl _
theorem EnGrow.app {e x:En} {s:St} (h:EnGrow e x):EnGrow e { x with strs:=x.strs++[s] }:=by
 refine h.trans ⟨by simp,fun i hi=>?_⟩
 show StGrow (stAt x i) ((x.strs++[s]).getD i st0)
 rw [getD_app st0 s,if_pos hi]
 exact .refl _
theorem leaveM_grow (e:En) (id:Int):EnGrow e (leaveM e id).1∧(leaveM e id).1.strs.length=e.strs.length:=by
 unfold leaveM
 split
 ·exact ⟨.refl e,rfl⟩
 ·rename_i k hk
  obtain ⟨h1,h2⟩:=atM_some hk
  split
  ·exact ⟨.refl e,rfl⟩
  ·rename_i hc
   have hs:(stAt e k).state=1:=by simpa using fun q=>hc (.inr q)
   refine ⟨EnGrow.set (e:=e) (x:={ e with wait:=_ }) (.same rfl) h1 ⟨rfl,⟨[],(List.append_nil _).symm⟩,rfl,Int.le_refl _,fun q=>absurd hs q⟩,by simp [setSt]⟩
theorem sayM_grow {e:En} (ha:e.ans=false) {N:Nat} (hw:EnW N e) {k:Nat} (hk:k < e.strs.length):EnGrow e (sayM e k).1:=by
 unfold sayM
 simp only
 split
 ·exact .refl e
 ·rename_i hc
  have hs:(stAt e k).state=1:=by simpa using fun q=>hc (.inl q)
  obtain ⟨b1,b2,b3,b4⟩:=beginM_keeps e (stAt e k)
  obtain ⟨c1,c2,c3,c4⟩:=pieceM_keeps (beginM e (stAt e k)).1 (beginM e (stAt e k)).2.1
  have e1:∀x s,(beginM x s).2.1.id=s.id∧(beginM x s).2.1.text=s.text∧(beginM x s).2.1.say=s.say∧(beginM x s).2.1.sent=s.sent:=fun x s=>by unfold beginM; split <;> exact ⟨rfl,rfl,rfl,rfl⟩
  have e2:∀x s,(pieceM x s).2.1.id=s.id∧(pieceM x s).2.1.text=s.text∧(pieceM x s).2.1.say=s.say∧s.sent≤(pieceM x s).2.1.sent:=fun x s=>by
   unfold pieceM
   split
   ·rename_i h; exact ⟨rfl,rfl,rfl,by simp only; omega⟩
   ·exact ⟨rfl,rfl,rfl,Int.le_refl _⟩
  obtain ⟨d1,d2,d3,d4⟩:=e1 e (stAt e k)
  obtain ⟨f1,f2,f3,f4⟩:=e2 (beginM e (stAt e k)).1 (beginM e (stAt e k)).2.1
  have hst:(pieceM (beginM e (stAt e k)).1 (beginM e (stAt e k)).2.1).1.strs=e.strs:=c3.trans b3
  refine EnGrow.set (.same hst) (by rw [hst]; exact hk) ?_
  have hat:stAt (pieceM (beginM e (stAt e k)).1 (beginM e (stAt e k)).2.1).1 k=stAt e k:=congrArg (fun l:List St=>l.getD k st0) hst
  rw [hat]
  exact ⟨f1.trans d1,⟨[],by simp only [List.append_nil]; exact f2.trans d2⟩,f3.trans d3,by rw [d4] at f4; exact f4,fun q=>absurd hs q⟩
theorem saysM_grow {N:Nat}:∀(n k:Nat) (e:En),e.ans=false→EnW N e→k+n≤e.strs.length→EnGrow e (saysM n k e).1
 | 0,k,e,_,_,_=>.refl e
 | n+1,k,e,ha,hw,hk=>by
  obtain ⟨r1,r2⟩:=sayM_w hw (k:=k) (by omega)
  exact (sayM_grow ha hw (by omega)).trans (saysM_grow n (k+1) (sayM e k).1 ((sayM_ans e k).trans ha) r1 (by omega))
theorem roomM_grow (e:En) (f:Fr):EnGrow e (roomM e f):=by
 unfold roomM
 split
 ·exact .refl e
 ·split
  ·exact .same rfl
  ·split
   ·exact .refl e
   ·rename_i k hk
    exact (EnGrow.refl e).set (atM_some hk).1 ⟨rfl,⟨[],(List.append_nil _).symm⟩,rfl,Int.le_refl _,fun _=>rfl⟩
theorem waitM_grow:∀(l:List Fr) (e:En),EnGrow e (waitM e l).1
 | [],e=>.refl e
 | f :: l,e=>(roomM_grow e f).trans (waitM_grow l (roomM e f))
theorem writeM_grow {N:Nat} {e:En} (ha:e.ans=false) (hw:EnW N e):EnGrow e (writeM e).1∧(writeM e).1.strs.length=e.strs.length:=by
 obtain ⟨r1,r2,_⟩:=waitM_w e.wait e hw
 have h1:=(waitM_grow e.wait e).trans (.same (x:={ (waitM e e.wait).1 with wait:=[] }) rfl)
 have h2:=saysM_grow (N:=0) e.strs.length 0 { (waitM e e.wait).1 with wait:=[] } ((waitM_ans _ _).trans ha) r1.noWait (by simp [r2])
 exact ⟨h1.trans h2,(saysM_w e.strs.length 0 _ r1.noWait (by simp [r2])).2.trans r2⟩
theorem doneM_grow {s:St}:StGrow s (doneM false s):=by
 unfold doneM
 split
 ·exact ⟨rfl,⟨[],(List.append_nil _).symm⟩,rfl,Int.le_refl _,fun _=>rfl⟩
 ·rename_i h
  exact ⟨rfl,⟨[],(List.append_nil _).symm⟩,rfl,Int.le_refl _,fun q=>absurd (by simpa using h) q⟩
theorem growM_caller {e:En} (ha:e.ans=false) (id:Int):growM e id=e:=by unfold growM; rw [if_neg (by rw [ha]; simp)]
theorem frameM_grow {e:En} (ha:e.ans=false) (f:Fr):EnGrow e (frameM e f)∧(frameM e f).strs.length=e.strs.length:=by
 unfold frameM
 split
 ·unfold headFM
  rw [growM_caller ha]
  simp only
  split
  ·rename_i t hd k hr hk
   split
   ·exact ⟨.same rfl,rfl⟩
   ·refine ⟨EnGrow.set (x:={ e with inn:=t }) (.same rfl) (atM_some hk).1 ?_,by simp [setSt]⟩
    have h0:StGrow (stAt e k) { stAt e k with got:=hd }:=⟨rfl,⟨[],(List.append_nil _).symm⟩,rfl,Int.le_refl _,fun _=>rfl⟩
    split
    ·rw [ha]; exact h0.trans doneM_grow
    ·exact h0
  ·exact ⟨.same rfl,rfl⟩
 ·split
  ·unfold dataM
   split
   ·exact ⟨.same rfl,rfl⟩
   ·rename_i k hk
    simp only
    split
    ·exact ⟨.same rfl,rfl⟩
    ·refine ⟨EnGrow.set (x:={ e with room:=_,wait:=_ }) (.same rfl) (atM_some hk).1 ?_,by simp [setSt]⟩
     have h0:StGrow (stAt e k) { stAt e k with text:=(stAt e k).text++f.body,room:=(stAt e k).room - f.body.length }:=⟨rfl,⟨f.body,rfl⟩,rfl,Int.le_refl _,fun _=>rfl⟩
     by_cases hl:f.last=true
     ·rw [if_pos hl,ha]; exact h0.trans doneM_grow
     ·rw [if_neg hl]; exact h0
  ·split
   ·unfold moreM
    split
    ·exact ⟨.same rfl,rfl⟩
    ·split
     ·exact ⟨.same rfl,rfl⟩
     ·rename_i k hk
      exact ⟨EnGrow.set (x:={ e with bad:=_ }) (.same rfl) (atM_some hk).1 ⟨rfl,⟨[],(List.append_nil _).symm⟩,rfl,Int.le_refl _,fun _=>rfl⟩,by simp [setSt]⟩
   ·split
    ·exact ⟨.same rfl,rfl⟩
    ·exact ⟨.same rfl,rfl⟩
theorem hearsM_grow:∀(n:Nat) (e:En),e.ans=false→EnGrow e (hearsM n e)∧(hearsM n e).strs.length=e.strs.length
 | 0,e,_=>⟨.refl e,rfl⟩
 | n+1,e,ha=>by
  unfold hearsM
  split
  ·exact ⟨.refl e,rfl⟩
  ·simp only
   split
   ·exact ⟨.same rfl,rfl⟩
   ·split
    ·exact ⟨.refl e,rfl⟩
    ·obtain ⟨a1,a2⟩:=frameM_grow (e:={ e with came:=e.came.drop (frR e.came).2.1 }) ha (frR e.came).1
     obtain ⟨b1,b2⟩:=hearsM_grow n (frameM { e with came:=e.came.drop (frR e.came).2.1 } (frR e.came).1) ((frameM_ans _ _).trans ha)
     have h0:EnGrow e { e with came:=e.came.drop (frR e.came).2.1 }:=.same rfl
     exact ⟨(h0.trans a1).trans b1,b2.trans a2⟩
theorem hearWM_grow {e:En} (ha:e.ans=false) (b:List UInt8):EnGrow e (hearWM e b)∧(hearWM e b).strs.length=e.strs.length:=by
 unfold hearWM
 split
 ·exact ⟨.refl e,rfl⟩
 ·obtain ⟨a1,a2⟩:=hearsM_grow (e.came.length+b.length+1) { e with came:=e.came++b } ha
  have h0:EnGrow e { e with came:=e.came++b }:=.same rfl
  exact ⟨h0.trans a1,a2⟩
end
section
theorem frW_lenE (f:Fr):(frW f).length=4+f.body.length:=by simp [frW]; omega
section
variable {c a:En} {fu fd:List Fr}
end
end
section
theorem Syn.emptyUp {w:Wo} {fu fd:List Fr} (h:Syn w fu fd) (hi:WoI w) (he:w.up=[]):fu=[]∧w.answerer.came=[]:=by
 have hb:=h.up
 rw [he] at hb
 have h0:=hi.answerer.zero h.j.A.nb
 rcases frR_bytes hb h.j.u.ok with ⟨_,_,z⟩ | ⟨f,gs,rfl,e,_⟩
 ·cases fu with
  | nil=>exact ⟨rfl,by simpa [bytes] using hb⟩
  | cons f gs =>
   have h1:=z f gs rfl
   have h2:=congrArg List.length hb
   rw [bytes_cons,List.length_append,List.length_append,frW_lenE] at h2
   simp at h2
   omega
 ·rw [e] at h0; cases h0
theorem Syn.emptyDown {w:Wo} {fu fd:List Fr} (h:Syn w fu fd) (hi:WoI w) (he:w.down=[]):fd=[]∧w.caller.came=[]:=by
 have hb:=h.down
 rw [he] at hb
 have h0:=hi.caller.zero h.j.C.nb
 rcases frR_bytes hb h.j.d.ok with ⟨_,_,z⟩ | ⟨f,gs,rfl,e,_⟩
 ·cases fd with
  | nil=>exact ⟨rfl,by simpa [bytes] using hb⟩
  | cons f gs =>
   have h1:=z f gs rfl
   have h2:=congrArg List.length hb
   rw [bytes_cons,List.length_append,List.length_append,frW_lenE] at h2
   simp at h2
   omega
 ·rw [e] at h0; cases h0
theorem pass_do (w:Wo) (way n:Int):passM w way n=doM w ⟨4,way,n,[],[]⟩:=rfl
theorem say_do (w:Wo) (side:Int):sayWM w side=doM w ⟨3,side,0,[],[]⟩:=rfl
theorem Pl.pass {w:Wo} (h:Pl w) (way n:Int):Pl (passM w way n):=by rw [pass_do]; exact h.step _
theorem Pl.say {w:Wo} (h:Pl w) (side:Int):Pl (sayWM w side):=by rw [say_do]; exact h.step _
theorem Pl.passUp {w:Wo} (h:Pl w):passM w 0 90={ w with answerer:=hearM w.answerer (w.up.take 90),up:=w.up.drop 90 }:=by
 obtain ⟨fu,fd,hs⟩:=h.syn
 have:=(hs.passUp h.all.2.inc (n:=90) (Nat.le_refl _)).1
 unfold passM
 rw [if_pos (by decide),if_pos rfl]
 show ({ w with answerer:=hearWM w.answerer (w.up.take 90),up:=w.up.drop 90 }:Wo)=_
 rw [this]
theorem Pl.passDown {w:Wo} (h:Pl w):passM w 1 90={ w with caller:=hearM w.caller (w.down.take 90),down:=w.down.drop 90 }:=by
 obtain ⟨fu,fd,hs⟩:=h.syn
 have:=(hs.passDown h.all.2.inc (n:=90) (Nat.le_refl _)).1
 unfold passM
 rw [if_pos (by decide),if_neg (by decide),if_pos rfl]
 show ({ w with caller:=hearWM w.caller (w.down.take 90),down:=w.down.drop 90 }:Wo)=_
 rw [this]
structure CState (e x:En):Prop where
 len:x.strs.length=e.strs.length
 at_:∀i,(stAt x i).state=3→(stAt e i).state=3
theorem CState.refl (e:En):CState e e:=⟨rfl,fun _=>id⟩
theorem CState.trans {e x y:En} (h:CState e x) (k:CState x y):CState e y:=⟨k.len.trans h.len,fun i hi=>h.at_ i (k.at_ i hi)⟩
theorem CState.set {e x:En} {k:Nat} {s:St} (h:CState e x) (hk:k < x.strs.length) (hs:s.state=3→(stAt x k).state=3):CState e (setSt x k s):=by
 refine h.trans ⟨by simp [setSt],fun i hi=>?_⟩
 have hi:((x.strs.set k s).getD i st0).state=3:=hi
 rw [getD_set st0 s hk] at hi
 split at hi
 ·rename_i q; rw [q]; exact hs hi
 ·exact hi
theorem Pl.wire {w:Wo} (h:Pl w):w.up.length≤800∧w.down.length≤800:=⟨h.all.1.up,h.all.1.down⟩
end
section
def cntH (i:Int):List Fr→Nat
 | []=>0
 | f :: l=>(if f.kind=1∧f.stream=i then 1 else 0)+cntH i l
theorem cntH_app (i:Int):∀l k:List Fr,cntH i (l++k)=cntH i l+cntH i k
 | [],k=>by simp [cntH]
 | f :: l,k=>by simp only [List.cons_append,cntH,cntH_app i l k]; omega
def lastF (i:Int):Bool→List Fr→Bool
 | b,[]=>b
 | b,f :: l=>lastF i (if (f.kind=1∨f.kind=0)∧f.stream=i then f.last else b) l
theorem lastF_app (i:Int):∀(l k:List Fr) (b:Bool),lastF i b (l++k)=lastF i (lastF i b l) k
 | [],k,b=>rfl
 | f :: l,k,b=>lastF_app i l k _
theorem run_scan {i:Int}:∀{l:List Fr} {r x:Rv} {b:Bool},run i r l=some x→(b=true→r.h=true) →
  (x.g=(r.g || decide (0 < cntH i l)))∧(lastF i b l=true→x.h=true)∧(r.h=true→x.h=true)∧(r.g=true→cntH i l=0)
 | [],r,x,b,h,hb=>by cases h; simp [cntH,lastF]; exact hb
 | f :: l,r,x,b,h,hb=>by
  obtain ⟨y,hy,h'⟩:=run_cons h
  have hstep:(y.g=(r.g || decide (f.kind=1∧f.stream=i)))∧((if (f.kind=1∨f.kind=0)∧f.stream=i then f.last else b)=true→y.h=true)∧(r.h=true→y.h=true)∧(r.g=true→¬(f.kind=1∧f.stream=i)):=by
   unfold adv at hy
   split at hy
   ·rename_i q
    cases hy
    refine ⟨by simp [q],?_,id,fun _ z=>q z.2⟩
    rw [if_neg (fun z=>q z.2)]; exact hb
   ·rename_i q
    have q:f.stream=i:=by simpa using q
    split at hy
    ·rename_i hk
     split at hy
     ·rename_i hc
      cases hy
      refine ⟨by simp [hk,q],?_,fun z=>(by rw [hc.1] at z; cases z),fun z=>(by rw [hc.2.1] at z; cases z)⟩
      rw [if_pos ⟨.inl hk,q⟩]; exact id
     ·cases hy
    ·rename_i hk
     split at hy
     ·rename_i hk0
      split at hy
      ·rename_i hc
       cases hy
       refine ⟨by simp [hk,hc.2],?_,fun z=>(by rw [hc.1] at z; cases z),fun _ z=>hk z.1⟩
       rw [if_pos ⟨.inr hk0,q⟩]; exact id
      ·cases hy
     ·rename_i hk0
      have e:(if (f.kind=1∨f.kind=0)∧f.stream=i then f.last else b)=b:=if_neg (by rintro ⟨z | z,_⟩; exact hk z; exact hk0 z)
      rw [e]
      split at hy
      ·split at hy
       ·cases hy; exact ⟨by simp [hk],hb,id,fun _ z=>hk z.1⟩
       ·cases hy
      ·cases hy; exact ⟨by simp [hk],hb,id,fun _ z=>hk z.1⟩
  obtain ⟨s1,s2,s3,s4⟩:=hstep
  obtain ⟨t1,t2,t3,t4⟩:=run_scan h' s2
  refine ⟨?_,t2,fun z=>t3 (s3 z),fun z=>?_⟩
  ·rw [t1,s1]
   simp only [cntH]
   by_cases hc:f.kind=1∧f.stream=i
   ·simp [hc]; exact .inr (by omega)
   ·simp [hc]
  ·simp only [cntH]
   rw [if_neg (s4 z),t4 (by rw [s1,z]; rfl)]
theorem Dir.once {S R:En} {q p:List Fr} (d:Dir S R q p) {a b:List Fr} {f:Fr} (hq:q=a++f :: b) (hk:f.kind=1∨f.kind=0) :
  lastF f.stream false a=false∧(stOf R f.stream).heard=false∧(f.kind=1→(stOf R f.stream).got=[]∧cntH f.stream a=0)∧(f.kind=0→(stOf R f.stream).got≠[]∨0 < cntH f.stream a):=by
 have hr:=d.run f.stream
 rw [hq,List.append_assoc,run_app] at hr
 cases hx:Go.Proofs.YtmfamfjfnjckeaaGreatDoor.run f.stream (rv (stOf R f.stream)) a with
 | none=>rw [hx] at hr; cases hr
 | some x =>
  rw [hx] at hr
  have hr:Go.Proofs.YtmfamfjfnjckeaaGreatDoor.run f.stream x (f :: b++S.wait)=_:=hr
  obtain ⟨y,hy,_⟩:=run_cons hr
  obtain ⟨s1,s2,s3,s4⟩:=run_scan (b:=false) hx (fun z=>by cases z)
  have key:x.h=false∧(f.kind=1→x.g=false)∧(f.kind=0→x.g=true):=by
   rcases hk with k | k
   ·obtain ⟨a1,a2,_⟩:=adv_head k hy
    exact ⟨a1,fun _=>a2,fun z=>(by rw [k] at z; cases z)⟩
   ·obtain ⟨a1,a2,_⟩:=adv_data k hy
    exact ⟨a1,fun z=>(by rw [k] at z; cases z),fun _=>a2⟩
  refine ⟨?_,?_,fun k=>?_,fun k=>?_⟩
  ·cases z:lastF f.stream false a with
   | false=>rfl
   | true=>have:=s2 z; rw [key.1] at this; cases this
  ·cases z:(stOf R f.stream).heard with
   | false=>rfl
   | true=>have:=s3 z; rw [key.1] at this; cases this
  ·have:=key.2.1 k
   rw [s1] at this
   simp [rv] at this
   exact ⟨this.1,by omega⟩
  ·have:=key.2.2 k
   rw [s1] at this
   simp [rv] at this
   rcases this with z | z
   ·exact .inl z
   ·exact .inr z
theorem J0.askedAll {c a:En} {fu fd:List Fr} (h:J0 c a fu fd) {i:Nat} (hi:i < a.strs.length) :
  ∃k,atM c.strs (stAt a i).id=some k∧(stAt a i).got=(stAt c k).head∧(∃u,(stAt c k).say.take (stAt c k).sent.toNat=(stAt a i).text++u) ∧
   ((stAt a i).head≠[]→(stAt a i).heard=true∧(stAt a i).text=(stAt c k).say∧(stAt a i).say=(answerM (getM (stAt c k).head sPath).1 (stAt c k).say).2)∧((stAt a i).heard=true→(stAt a i).text=(stAt c k).say):=by
 have hha:Has a (stAt a i).id:=Has.at_ hi
 obtain ⟨k,hk⟩:=h.hasUp hha
 have e1:=h.A.w.of hi
 have e2:=stOf_some hk
 refine ⟨k,hk,?_,?_,fun hh=>?_,fun hh=>?_⟩
 ·have:=(h.u.got (stAt a i).id).resolve_left (h.has _ hha)
  rwa [e1,e2] at this
 ·have:=h.u.front (stAt a i).id
  rwa [e1,e2] at this
 ·obtain ⟨k1,k2,k3,k4,k5,k6,k7⟩:=h.asked (i:=(stAt a i).id) (by rw [e1]; exact hh)
  rw [e1,e2] at k2 k7
  rw [e1] at k1
  exact ⟨k1,k2,k7⟩
 ·have:=(h.u.all h.C.si (i:=(stAt a i).id) (by rw [e1]; exact hh)).2.2.1
  rwa [e1,e2] at this
def passesM:Nat→Wo→Wo
 | 0,w=>w
 | n+1,w=>passesM n (passM (passM w 0 90) 1 90)
theorem passes_p:∀(n:Nat) {w:Wo},Pl w→Pl (passesM n w)∧(passesM n w).up=w.up.drop (90 * n)∧(passesM n w).down=w.down.drop (90 * n)
 | 0,w,h=>⟨h,by simp [passesM],by simp [passesM]⟩
 | n+1,w,h=>by
  have h1:=h.pass 0 90
  have e1:(passM w 0 90).up=w.up.drop 90∧(passM w 0 90).down=w.down:=by rw [h.passUp]; exact ⟨rfl,rfl⟩
  have e2:(passM (passM w 0 90) 1 90).up=(passM w 0 90).up∧(passM (passM w 0 90) 1 90).down=(passM w 0 90).down.drop 90:=by rw [h1.passDown]; exact ⟨rfl,rfl⟩
  obtain ⟨a1,a2,a3⟩:=passes_p n (h1.pass 1 90)
  refine ⟨a1,?_,?_⟩
  ·show (passesM n _).up=_
   rw [a2,e2.1,e1.1,List.drop_drop]; congr 1; omega
  ·show (passesM n _).down=_
   rw [a3,e2.2,e1.2,List.drop_drop]; congr 1; omega
theorem passes_snoc:∀(n:Nat) (w:Wo),passesM (n+1) w=passM (passM (passesM n w) 0 90) 1 90
 | 0,w=>rfl
 | n+1,w=>passes_snoc n (passM (passM w 0 90) 1 90)
structure OneM (x:Wo):Prop where
 pl:Pl x
 up:x.up=[]
 down:x.down=[]
 t1:x.answerer.inn=x.caller.out∧x.caller.outM=x.answerer.innM
 t2:x.caller.inn=x.answerer.out∧x.answerer.outM=x.caller.innM
 c1:x.caller.came=[]
 c2:x.answerer.came=[]
theorem passes_one {w:Wo} (h:Pl w):OneM (passesM 12 w):=by
 obtain ⟨a1,a2,a3⟩:=passes_p 12 h
 have hw:=h.wire
 have hu:(passesM 12 w).up=[]:=by rw [a2]; exact List.drop_eq_nil_of_le (by omega)
 have hd:(passesM 12 w).down=[]:=by rw [a3]; exact List.drop_eq_nil_of_le (by omega)
 obtain ⟨fu,fd,hs⟩:=a1.syn
 obtain ⟨rfl,c2⟩:=hs.emptyUp a1.all.2.inc hu
 obtain ⟨rfl,c1⟩:=hs.emptyDown a1.all.2.inc hd
 exact ⟨a1,hu,hd,⟨hs.j.u.tab,hs.j.u.m⟩,⟨hs.j.d.tab,hs.j.d.m⟩,c1,c2⟩
end
section
def lenE (n:Nat) (v:Ev):Nat:=if v.kind=1∧¬(2 * (n:Int)+1 > 7∨headOk (callHead v.path v.text)=false∨wordOk v.text=false) then n+1 else n
theorem doM_len {N:Nat} {w:Wo} (h:WoW N w) (v:Ev):(doM w v).caller.strs.length=lenE w.caller.strs.length v:=by
 have ha:=h.calls
 unfold doM lenE
 by_cases h1:v.kind=1
 ·rw [if_pos h1]
  unfold callM
  by_cases hc:2 * (w.caller.strs.length:Int)+1 > 7∨headOk (callHead v.path v.text)=false∨wordOk v.text=false
  ·rw [if_pos (.inr hc),if_neg (fun z=>z.2 hc)]
  ·rw [if_neg (by rintro (z | z); (rw [ha] at z; cases z); exact hc z),if_pos ⟨h1,hc⟩]; simp
 ·have e2:(if v.kind=1∧¬(2 * (w.caller.strs.length:Int)+1 > 7∨headOk (callHead v.path v.text)=false∨wordOk v.text=false) then w.caller.strs.length+1 else w.caller.strs.length)=w.caller.strs.length:=if_neg (fun z=>h1 z.1)
  rw [e2,if_neg h1]
  split
  ·exact (leaveM_grow w.caller v.a).2
  ·split
   ·unfold sayWM
    split
    ·split
     ·exact (writeM_grow ha h.caller).2
     ·rfl
    ·split
     ·split <;> rfl
     ·rfl
   ·split
    ·unfold passM
     split
     ·split
      ·rfl
      ·split
       ·exact (hearWM_grow ha _).2
       ·rfl
     ·rfl
    ·rfl
def quietL (l:List Ev):List Ev:=l.filter (fun v=>decide (v.kind≠3))
theorem len_fold:∀(l:List Ev) (w:Wo),Pl w→(l.foldl doM w).caller.strs.length=l.foldl lenE w.caller.strs.length
 | [],w,_=>rfl
 | v :: l,w,h=>by
  rw [List.foldl_cons,List.foldl_cons,←doM_len h.all.1 v]
  exact len_fold l (doM w v) (h.step v)
theorem len_quiet:∀(l:List Ev) (n:Nat),(quietL l).foldl lenE n=l.foldl lenE n
 | [],n=>rfl
 | v :: l,n=>by
  by_cases h3:v.kind=3
  ·have e:quietL (v :: l)=quietL l:=by simp [quietL,h3]
   have e2:lenE n v=n:=by unfold lenE; rw [if_neg (fun z=>by rw [h3] at z; cases z.1)]
   rw [e,List.foldl_cons,e2]
   exact len_quiet l n
  ·have e:quietL (v :: l)=v :: quietL l:=by simp [quietL,h3]
   rw [e,List.foldl_cons,List.foldl_cons]
   exact len_quiet l (lenE n v)
structure Hush (w:Wo):Prop where
 up:w.up=[]
 down:w.down=[]
 none:w.answerer.strs=[]
theorem Hush.step {w:Wo} (h:Hush w) (hi:WoI w) {v:Ev} (h3:v.kind≠3):Hush (doM w v):=by
 unfold doM
 split
 ·exact ⟨h.up,h.down,h.none⟩
 ·split
  ·exact ⟨h.up,h.down,h.none⟩
  ·split
   ·unfold passM
    split
    ·split
     ·refine ⟨by simp [h.up],h.down,?_⟩
      rw [h.up,List.take_nil,hearWM_idle hi.answerer]
      exact h.none
     ·split
      ·exact ⟨h.up,by simp [h.down],h.none⟩
      ·exact h
    ·exact h
   ·exact h
theorem hush_fold:∀(l:List Ev) (w:Wo),Pl w→Hush w→(∀v ∈ l,v.kind≠3)→Hush (l.foldl doM w)
 | [],w,_,h,_=>h
 | v :: l,w,hp,h,hv=>hush_fold l (doM w v) (hp.step v) (h.step hp.all.2.inc (hv v (by simp))) (fun u hu=>hv u (by simp [hu]))
theorem quiet_play (l:List Ev):Hush (playM (quietL l))∧(playM (quietL l)).caller.strs.length=(playM l).caller.strs.length:=by
 refine ⟨hush_fold _ newWo newWo_pl ⟨rfl,rfl,rfl⟩ (fun v hv=>by simpa using (List.mem_filter.1 hv).2),?_⟩
 unfold playM
 rw [len_fold _ _ newWo_pl,len_fold _ _ newWo_pl,len_quiet]
end
end Go.Proofs.YtmfamfjfnjckeaaGreatDoor
