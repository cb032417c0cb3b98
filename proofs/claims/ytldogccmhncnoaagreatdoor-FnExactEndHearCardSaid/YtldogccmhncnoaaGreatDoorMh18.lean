/- A part of the proof: contracts of functions, or plain facts on which these lean. -/
import Derived.Test.YtldogccmhncnoaaGreatDoorMh17
namespace Go.Proofs.YtldogccmhncnoaaGreatDoor
open Go
set_option linter.unusedVariables false
set_option linter.unusedSimpArgs false
set_option maxRecDepth 100000
set_option maxHeartbeats 16000000

section
open Go
structure Fr where
 kind:Int
 last:Bool
 stream:Int
 body:List UInt8
 deriving DecidableEq
structure St where
 id:Int
 state:Int
 head:List Fd
 say:List UInt8
 begun:Bool
 said:Bool
 sent:Int
 got:List Fd
 text:List UInt8
 heard:Bool
 send:Int
 room:Int
structure En where
 ans:Bool
 out:List Fd
 outM:Int
 inn:List Fd
 innM:Int
 came:List UInt8
 strs:List St
 send:Int
 room:Int
 wait:List Fr
 bad:Bool
def fr0:Fr:=⟨0,false,0,[]⟩
def st0:St:=⟨0,0,[],[],false,false,0,[],[],false,0,0⟩
def en0:En:=⟨false,[],0,[],0,[],[],0,0,[],false⟩
def strmOk (n:Int):Bool:=decide (1≤n) && decide (n≤7) && decide (n.tmod 2=1)
def byteAt (b:List UInt8) (i:Nat):Nat:=(b.getD i 0).toNat
def frameOk (f:Fr):Bool :=
 if f.kind=0∨f.kind=1 then strmOk f.stream && decide (f.body.length≤200)
 else if f.kind=3 then strmOk f.stream && !f.last && decide (f.body=[])
 else if f.kind=8 then (decide (f.stream=0) || strmOk f.stream) && !f.last && decide (f.body.length=1) && decide (1≤byteAt f.body 0) && decide (byteAt f.body 0≤31)
 else false
def frW (f:Fr):List UInt8:=[by8 f.body.length,by8 f.kind.toNat,if f.last then 1 else 0,by8 f.stream.toNat]++f.body
def frR (b:List UInt8):Fr × Nat × Int :=
 if b.length < 4 then (fr0,0,0)
 else if byteAt b 0 > 200∨byteAt b 2 > 1 then (fr0,0,-1)
 else if b.length < 4+byteAt b 0 then (fr0,0,0)
 else if frameOk ⟨byteAt b 1,decide (byteAt b 2=1),byteAt b 3,(b.drop 4).take (byteAt b 0)⟩ then (⟨byteAt b 1,decide (byteAt b 2=1),byteAt b 3,(b.drop 4).take (byteAt b 0)⟩,4+byteAt b 0,1)
 else (fr0,0,-1)
def flowOk (s r:Int):Bool:=(decide (0≤s) && decide (s≤31)) && (decide (0≤r) && decide (r≤31))
def stOk (s:St):Bool:=strmOk s.id && (decide (1≤s.state) && decide (s.state≤3)) && headOk s.head && headOk s.got && wordOk s.say && wordOk s.text && (decide (0≤s.sent) && decide (s.sent≤s.say.length)) && flowOk s.send s.room
def okAt (ans:Bool) (l:List St) (i:Nat):Bool:=stOk (l.getD i st0) && (decide (i=0) || decide ((l.getD (i - 1) st0).id < (l.getD i st0).id)) && (ans || decide ((l.getD i st0).id=2 * i+1))
def stsOk (ans:Bool) (l:List St):Bool:=(List.range l.length).all (okAt ans l)
def endOk (e:En):Bool:=stsOk e.ans e.strs && e.wait.all frameOk && tableOk e.out e.outM && tableOk e.inn e.innM && flowOk e.send e.room && decide (e.came.length≤600) && decide (e.wait.length≤60)
def newEn (ans:Bool):En:=⟨ans,[],64,[],64,[],[],16,16,[],false⟩
def newSt (id:Int):St:=⟨id,1,[],[],false,false,0,[],[],false,8,8⟩
def decM (n:Nat):List UInt8:=if h:n < 10 then [by8 (48+n)] else decM (n / 10)++[by8 (48+n % 10)]
 termination_by n
 decreasing_by omega
def sPath:List UInt8:=[58,112,97,116,104]
def sStatus:List UInt8:=[58,115,116,97,116,117,115]
def sKind:List UInt8:=[107,105,110,100]
def sText:List UInt8:=[116,101,120,116]
def sSize:List UInt8:=[115,105,122,101]
def sEcho:List UInt8:=[47,101,99,104,111]
def sUp:List UInt8:=[47,117,112]
def sLen:List UInt8:=[47,108,101,110]
def callHead (path text:List UInt8):List Fd:=[⟨sPath,path,false⟩,⟨sKind,sText,false⟩,⟨sSize,decM text.length,false⟩]
def callM (e:En) (path text:List UInt8):En × Int × Bool :=
 if e.ans=true∨2 * (e.strs.length:Int)+1 > 7∨headOk (callHead path text)=false∨wordOk text=false then (e,0,false)
 else ({ e with strs:=e.strs++[{ newSt (2 * e.strs.length+1) with head:=callHead path text,say:=text }] },2 * e.strs.length+1,true)
def atM (l:List St) (id:Int):Option Nat:=l.findIdx? (fun s=>decide (s.id=id))
def setSt (e:En) (k:Nat) (s:St):En:={ e with strs:=e.strs.set k s }
def stAt (e:En) (k:Nat):St:=e.strs.getD k st0
def leaveM (e:En) (id:Int):En × Bool :=
 match atM e.strs id with
 | none=>(e,false)
 | some k=>if e.ans=true∨(stAt e k).state≠1 then (e,false) else
   (setSt { e with wait:=if (stAt e k).begun then e.wait++[⟨3,false,id,[]⟩] else e.wait } k { stAt e k with state:=3 },true)
def mayM (e:En) (s:St):Int:=min ((s.say.length:Int) - s.sent) (min s.send e.send)
def beginM (e:En) (s:St):En × St × List UInt8 :=
 if s.begun then (e,s,[]) else
  ({ e with out:=(headW e.out e.outM s.head).1 },{ s with begun:=true,said:=decide (s.say=[]) },frW ⟨1,decide (s.say=[]),s.id,(headW e.out e.outM s.head).2⟩)
def pieceM (e:En) (s:St):En × St × List UInt8 :=
 if s.said=false∧0 < mayM e s then
  ({ e with send:=e.send - mayM e s },{ s with send:=s.send - mayM e s,said:=decide (s.sent+mayM e s=s.say.length),sent:=s.sent+mayM e s },
   frW ⟨0,decide (s.sent+mayM e s=s.say.length),s.id,(s.say.drop s.sent.toNat).take (mayM e s).toNat⟩)
 else (e,s,[])
def sayM (e:En) (k:Nat):En × List UInt8 :=
 let s:=stAt e k
 if s.state≠1∨s.head=[]∨s.said=true then (e,[]) else
  let (e1,s1,o1):=beginM e s
  let (e2,s2,o2):=pieceM e1 s1
  (setSt e2 k { s2 with state:=if e.ans && s2.said then 2 else s2.state },o1++o2)
def roomM (e:En) (f:Fr):En :=
 if f.kind≠8 then e
 else if f.stream=0 then { e with room:=min (e.room+byteAt f.body 0) 31 }
 else match atM e.strs f.stream with
  | none=>e
  | some k=>setSt e k { stAt e k with room:=min ((stAt e k).room+byteAt f.body 0) 31 }
def waitM:En→List Fr→En × List UInt8
 | e,[]=>(e,[])
 | e,f :: l=>let (x,o):=waitM (roomM e f) l; (x,frW f++o)
def saysM:Nat→Nat→En→En × List UInt8
 | 0,_,e=>(e,[])
 | n+1,k,e=>let (e1,o1):=sayM e k; let (e2,o2):=saysM n (k+1) e1; (e2,o1++o2)
def upM (t:List UInt8):List UInt8:=t.map fun b=>if 97≤b.toNat∧b.toNat < 122 then by8 (b.toNat+1) else b
def answerM (path text:List UInt8):List UInt8 × List UInt8 :=
 if path=sEcho then ([48],text) else if path=sUp then ([48],upM text) else if path=sLen then ([48],decM text.length) else ([49,50],[])
def getM (h:List Fd) (name:List UInt8):List UInt8 × Bool:=match h.find? (fun f=>decide (f.name=name)) with
 | some f=>(f.val,true)
 | none=>([],false)
def askM (s:St):St :=
 let a:=answerM (getM s.got sPath).1 s.text
 { s with head:=[⟨sStatus,a.1,false⟩,⟨sKind,sText,false⟩],say:=a.2,begun:=false,said:=false,sent:=0 }
def doneM (ans:Bool) (s:St):St :=
 if s.state≠1 then { s with heard:=true } else if ans then askM { s with heard:=true } else { s with heard:=true,state:=2 }
def growM (e:En) (id:Int):En :=
 if atM e.strs id=none∧e.ans=true∧(e.strs=[]∨(e.strs.getD (e.strs.length - 1) st0).id < id) then { e with strs:=e.strs++[newSt id] } else e
def badM (e:En):En:={ e with bad:=true }
def headFM (e:En) (f:Fr):En :=
 let g:=growM e f.stream
 match headR f.body.length e.inn e.innM f.body 0,atM g.strs f.stream with
 | some (t,h),some k=>if (stAt g k).heard=true∨(stAt g k).got≠[]∨h=[] then badM g else
   setSt { g with inn:=t } k (if f.last then doneM e.ans { stAt g k with got:=h } else { stAt g k with got:=h })
 | _,_=>badM g
def dataM (e:En) (f:Fr):En :=
 match atM e.strs f.stream with
 | none=>badM e
 | some k =>
  let s:=stAt e k
  if s.heard=true∨s.got=[]∨(f.body.length:Int) > e.room∨(f.body.length:Int) > s.room∨wordOk (s.text++f.body)=false then badM e else
   let s1:={ s with text:=s.text++f.body,room:=s.room - f.body.length }
   setSt { e with room:=e.room - f.body.length,wait:=if f.body=[] then e.wait else e.wait++[⟨8,false,0,[by8 f.body.length]⟩,⟨8,false,s.id,[by8 f.body.length]⟩] } k (if f.last then doneM e.ans s1 else s1)
def moreM (e:En) (f:Fr):En :=
 if f.stream=0 then { e with send:=min (e.send+byteAt f.body 0) 31,bad:=e.bad || decide (e.send+byteAt f.body 0 > 31) }
 else match atM e.strs f.stream with
  | none=>badM e
  | some k=>setSt { e with bad:=e.bad || decide ((stAt e k).send+byteAt f.body 0 > 31) } k { stAt e k with send:=min ((stAt e k).send+byteAt f.body 0) 31 }
def frameM (e:En) (f:Fr):En :=
 if f.kind=1 then headFM e f else if f.kind=0 then dataM e f else if f.kind=8 then moreM e f
 else match atM e.strs f.stream with
  | none=>badM e
  | some k=>if e.ans=false then badM e else setSt e k { stAt e k with state:=3 }
def hearsM:Nat→En→En
 | 0,e=>e
 | n+1,e=>if e.bad then e else
  let r:=frR e.came
  if r.2.2 < 0 then badM e else if r.2.2=0 then e else hearsM n (frameM { e with came:=e.came.drop r.2.1 } r.1)
def hearM (e:En) (b:List UInt8):En:=hearsM (e.came.length+b.length+1) { e with came:=e.came++b }
def hearWM (e:En) (b:List UInt8):En:=if e.bad=true∨e.came.length+b.length > 300∨e.wait.length > 40 then e else hearM e b
def frmC (f:Fr):List V:=[.int .i64 f.kind,.bool f.last,.int .i64 f.stream,.str f.body]
def strC (s:St):List V:=[.int .i64 s.id,.int .i64 s.state,.rows none (s.head.map fV),.str s.say,.bool s.begun,.bool s.said,.int .i64 s.sent,.rows none (s.got.map fV),.str s.text,.bool s.heard,.int .i64 s.send,.int .i64 s.room]
def frmsC (l:List Fr):List V:=l.flatMap frmC
def strsC (l:List St):List V:=l.flatMap strC
end
section
open Go
section
variable {α:Type} {f:α→List V} {n:Nat}
theorem fl_len (hf:∀a,(f a).length=n) (l:List α):(l.flatMap f).length=l.length * n:=by
 induction l with
 | nil=>simp
 | cons a l ih=>rw [List.flatMap_cons,List.length_append,ih,hf,List.length_cons,Nat.add_mul]; omega
theorem fl_at (hf:∀a,(f a).length=n) {l:List α} {i:Nat} (d:α) (h:i < l.length):((l.flatMap f).drop (i * n)).take n=f (l.getD i d):=by
 induction l generalizing i with
 | nil=>simp at h
 | cons a l ih =>
  cases i with
  | zero =>
   rw [Nat.zero_mul,List.drop_zero,List.flatMap_cons,←hf a,List.take_left]
   rfl
  | succ i =>
   rw [List.flatMap_cons,Nat.add_mul,Nat.one_mul,Nat.add_comm,←List.drop_drop]
   conv=>lhs; rw [←hf a]
   rw [List.drop_left,hf a]
   exact ih (by simpa using h)
theorem splice_front:∀(xs ys zs:List V),ys.length=xs.length→splice (ys++zs) 0 xs=xs++zs
 | [],ys,zs,h=>by
  have:ys=[]:=List.length_eq_zero_iff.1 h
  subst this
  cases zs <;> simp [splice]
 | x :: xs,[],zs,h=>by simp at h
 | x :: xs,y :: ys,zs,h=>by
  rw [List.cons_append,splice,splice_front xs ys zs (by simpa using h),List.cons_append]
theorem splice_skip:∀(us bs:List V) (k:Nat) (xs:List V),splice (us++bs) (us.length+k) xs=us++splice bs k xs
 | [],bs,k,xs=>by simp
 | a :: us,bs,k,xs=>by
  rw [List.cons_append,List.length_cons,show us.length+1+k=us.length+k+1 by omega,splice,splice_skip us bs k xs,List.cons_append]
theorem fl_set (hf:∀a,(f a).length=n) {l:List α} {i:Nat} (a:α) (h:i < l.length):splice (l.flatMap f) (i * n) (f a)=(l.set i a).flatMap f:=by
 induction l generalizing i with
 | nil=>simp at h
 | cons b l ih =>
  cases i with
  | zero =>
   rw [Nat.zero_mul,List.set_cons_zero,List.flatMap_cons,List.flatMap_cons]
   exact splice_front _ _ _ (by rw [hf,hf])
  | succ i =>
   rw [List.set_cons_succ,List.flatMap_cons,List.flatMap_cons,←ih (i:=i) (by simpa using h),Nat.add_mul,Nat.one_mul,Nat.add_comm,←hf b]
   exact splice_skip _ _ _ _
end
theorem strC_len (s:St):(strC s).length=12:=rfl
theorem frmC_len (f:Fr):(frmC f).length=4:=rfl
theorem strsC_len (l:List St):(strsC l).length=l.length * 12:=fl_len strC_len l
theorem frmsC_len (l:List Fr):(frmsC l).length=l.length * 4:=fl_len frmC_len l
theorem strsC_at {l:List St} {i:Nat} (h:i < l.length):((strsC l).drop (i * 12)).take 12=strC (l.getD i st0):=fl_at strC_len st0 h
theorem frmsC_at {l:List Fr} {i:Nat} (h:i < l.length):((frmsC l).drop (i * 4)).take 4=frmC (l.getD i fr0):=fl_at frmC_len fr0 h
theorem strsC_set {l:List St} {i:Nat} (s:St) (h:i < l.length):splice (strsC l) (i * 12) (strC s)=strsC (l.set i s):=fl_set strC_len s h
theorem strsC_app (l k:List St):strsC (l++k)=strsC l++strsC k:=by simp [strsC]
theorem frmsC_app (l k:List Fr):frmsC (l++k)=frmsC l++frmsC k:=by simp [frmsC]
def Upd (bs:List Nat) (S S':List Blk):Prop:=S.length≤S'.length∧∀j,j < S.length→j ∉ bs→S'[j]?=S[j]?
theorem Upd.refl (bs:List Nat) (S:List Blk):Upd bs S S:=⟨Nat.le_refl _,fun _ _ _=>rfl⟩
theorem Upd.mono {bs cs:List Nat} {S S':List Blk} (h:Upd bs S S') (hs:∀j,j < S.length→j ∈ bs→j ∈ cs):Upd cs S S':=⟨h.1,fun j hj hn=>h.2 j hj (fun hm=>hn (hs j hj hm))⟩
theorem Upd.trans {bs:List Nat} {S S1 S2:List Blk} (h:Upd bs S S1) (k:Upd bs S1 S2):Upd bs S S2:=⟨Nat.le_trans h.1 k.1,fun j hj hn=>(k.2 j (Nat.lt_of_lt_of_le hj h.1) hn).trans (h.2 j hj hn)⟩
theorem Upd.then_ {bs cs:List Nat} {S S1 S2:List Blk} (h:Upd bs S S1) (k:Upd cs S1 S2) (hs:∀j,j < S.length→j ∈ cs→j ∈ bs):Upd bs S S2 :=
 ⟨Nat.le_trans h.1 k.1,fun j hj hn=>(k.2 j (Nat.lt_of_lt_of_le hj h.1) (fun hm=>hn (hs j hj hm))).trans (h.2 j hj hn)⟩
theorem Upd.app {bs:List Nat} {S S1:List Blk} (h:Upd bs S S1) (X:List Blk):Upd bs S (S1++X):=by
 refine ⟨by rw [List.length_append]; have:=h.1; omega,fun j hj hn=>?_⟩
 rw [List.getElem?_append_left (Nat.lt_of_lt_of_le hj h.1)]
 exact h.2 j hj hn
theorem Upd.set {bs:List Nat} {S S1:List Blk} (h:Upd bs S S1) {i:Nat} (B:Blk) (hi:S.length≤i∨i ∈ bs):Upd bs S (S1.set i B):=by
 refine ⟨by rw [List.length_set]; exact h.1,fun j hj hn=>?_⟩
 have hne:i≠j:=by
  rintro rfl
  rcases hi with hi | hi
  ·omega
  ·exact hn hi
 rw [List.getElem?_set_ne hne]
 exact h.2 j hj hn
theorem Upd.get {bs:List Nat} {S S1:List Blk} (h:Upd bs S S1) {j:Nat} {B:Blk} (hS:S[j]?=some B) (hn:j ∉ bs):S1[j]?=some B:=by
 have hlt:j < S.length:=by
  rcases Nat.lt_or_ge j S.length with g | g
  ·exact g
  ·rw [List.getElem?_eq_none g] at hS; cases hS
 rw [h.2 j hlt hn]
 exact hS
theorem lt_of_some {S:List Blk} {j:Nat} {B:Blk} (h:S[j]?=some B):j < S.length:=by
 rcases Nat.lt_or_ge j S.length with g | g
 ·exact g
 ·rw [List.getElem?_eq_none g] at h; cases h
end
section
open Go
def frV (f:Fr):V:=.agg (frmC f)
def stV (s:St):V:=.agg (strC s)
def enC (v w:V) (e:En):List V:=[.bool e.ans,.rows none (e.out.map fV),.int .i64 e.outM,.rows none (e.inn.map fV),.int .i64 e.innM,.str e.came,v,.int .i64 e.send,.int .i64 e.room,w,.bool e.bad]
def enV (v w:V) (e:En):V:=.agg (enC v w e)
@[push_cast] theorem frmC_eq (f:Fr):frmC f=[.int .i64 f.kind,.bool f.last,.int .i64 f.stream,.str f.body]:=rfl
@[push_cast] theorem frV_eq (f:Fr):frV f=.agg [.int .i64 f.kind,.bool f.last,.int .i64 f.stream,.str f.body]:=rfl
@[push_cast] theorem strC_eq (s:St):strC s=[.int .i64 s.id,.int .i64 s.state,.rows none (s.head.map fV),.str s.say,.bool s.begun,.bool s.said,.int .i64 s.sent,.rows none (s.got.map fV),.str s.text,.bool s.heard,.int .i64 s.send,.int .i64 s.room]:=rfl
@[push_cast] theorem stV_eq (s:St):stV s=.agg [.int .i64 s.id,.int .i64 s.state,.rows none (s.head.map fV),.str s.say,.bool s.begun,.bool s.said,.int .i64 s.sent,.rows none (s.got.map fV),.str s.text,.bool s.heard,.int .i64 s.send,.int .i64 s.room]:=rfl
@[push_cast] theorem enC_eq (v w:V) (e:En):enC v w e=[.bool e.ans,.rows none (e.out.map fV),.int .i64 e.outM,.rows none (e.inn.map fV),.int .i64 e.innM,.str e.came,v,.int .i64 e.send,.int .i64 e.room,w,.bool e.bad]:=rfl
@[push_cast] theorem enV_eq (v w:V) (e:En):enV v w e=.agg [.bool e.ans,.rows none (e.out.map fV),.int .i64 e.outM,.rows none (e.inn.map fV),.int .i64 e.innM,.str e.came,v,.int .i64 e.send,.int .i64 e.room,w,.bool e.bad]:=rfl
def EnAt (S:List Blk) (b c:Nat) (e:En):Prop:=S[b]?=some (.cells 12 (strsC e.strs))∧S[c]?=some (.cells 4 (frmsC e.wait))
theorem EnAt.ne {S:List Blk} {b c:Nat} {e:En} (h:EnAt S b c e):b≠c:=by
 rintro rfl
 have:=h.1.symm.trans h.2
 simp at this
theorem EnAt.upd {S S':List Blk} {bs:List Nat} {b c:Nat} {e:En} (h:EnAt S b c e) (hu:Upd bs S S') (hb:b ∉ bs) (hc:c ∉ bs):EnAt S' b c e:=⟨hu.get h.1 hb,hu.get h.2 hc⟩
end
section
open Go
theorem getD_lt {α:Type} {l:List α} {i:Nat} (d:α) (h:i < l.length):l.getD i d=l[i]:=by
 rw [List.getD,List.getElem?_eq_getElem h]; rfl
theorem getD_set {α:Type} {l:List α} {i k:Nat} (d a:α) (hk:k < l.length):(l.set k a).getD i d=if i=k then a else l.getD i d:=by
 simp only [List.getD,List.getElem?_set]
 by_cases e:k=i
 ·subst e; simp [hk]
 ·simp [e,Ne.symm e]
theorem getD_app {α:Type} {l:List α} {i:Nat} (d a:α):(l++[a]).getD i d=if i < l.length then l.getD i d else if i=l.length then a else d:=by
 simp only [List.getD]
 by_cases h:i < l.length
 ·rw [List.getElem?_append_left h]; simp [h]
 ·rw [List.getElem?_append_right (by omega)]
  by_cases e:i=l.length
  ·subst e; simp
  ·rw [if_neg h,if_neg e,List.getElem?_eq_none (by simp; omega)]; rfl
theorem okAt_iff {ans:Bool} {l:List St} {i:Nat}:okAt ans l i=true↔stOk (l.getD i st0)=true∧(i=0∨(l.getD (i - 1) st0).id < (l.getD i st0).id)∧(ans=true∨(l.getD i st0).id=2 * i+1):=by
 simp [okAt,and_assoc]
theorem stsOk_iff {ans:Bool} {l:List St}:stsOk ans l=true↔∀i,i < l.length→stOk (l.getD i st0)=true∧(i=0∨(l.getD (i - 1) st0).id < (l.getD i st0).id)∧(ans=true∨(l.getD i st0).id=2 * i+1):=by
 simp only [stsOk,List.all_eq_true,List.mem_range,okAt_iff]
theorem stsOk_set {ans:Bool} {l:List St} {k:Nat} {s:St} (h:stsOk ans l=true) (hk:k < l.length) (hs:stOk s=true) (hid:s.id=(l.getD k st0).id):stsOk ans (l.set k s)=true:=by
 rw [stsOk_iff] at h ⊢
 intro i hi
 rw [List.length_set] at hi
 have e:∀j,((l.set k s).getD j st0).id=(l.getD j st0).id:=by
  intro j
  rw [getD_set st0 s hk]
  split
  ·rename_i e; rw [hid,e]
  ·rfl
 rw [e,e]
 refine ⟨?_,(h i hi).2⟩
 rw [getD_set st0 s hk]
 split
 ·exact hs
 ·exact (h i hi).1
theorem stsOk_app {ans:Bool} {l:List St} {s:St} (h:stsOk ans l=true) (hs:stOk s=true) (hl:l=[]∨(l.getD (l.length - 1) st0).id < s.id) (ha:ans=true∨s.id=2 * l.length+1):stsOk ans (l++[s])=true:=by
 rw [stsOk_iff] at h ⊢
 intro i hi
 simp only [List.length_append,List.length_singleton] at hi
 by_cases e:i < l.length
 ·rw [getD_app,getD_app,if_pos e,if_pos (by omega)]
  exact h i e
 ·have:i=l.length:=by omega
  subst this
  rw [getD_app,if_neg e,if_pos rfl]
  refine ⟨hs,?_,ha⟩
  rcases hl with rfl | hl
  ·exact .inl rfl
  ·by_cases h0:l.length=0
   ·exact .inl h0
   ·refine .inr ?_
    rw [getD_app,if_pos (by omega)]
    exact hl
theorem strmOk_iff {n:Int}:strmOk n=true↔1≤n∧n≤7∧n.tmod 2=1:=by simp [strmOk,and_assoc]
theorem strmOk_cases {n:Int} (h:strmOk n=true):n=1∨n=3∨n=5∨n=7:=by
 obtain ⟨h1,h2,h3⟩:=strmOk_iff.1 h
 rw [Int.tmod_eq_emod_of_nonneg (by omega)] at h3
 omega
theorem flowOk_iff {s r:Int}:flowOk s r=true↔0≤s∧s≤31∧0≤r∧r≤31:=by simp [flowOk,and_assoc]
theorem stOk_iff {s:St}:stOk s=true↔strmOk s.id=true∧(1≤s.state∧s.state≤3)∧headOk s.head=true∧headOk s.got=true∧wordOk s.say=true∧wordOk s.text=true∧(0≤s.sent∧s.sent≤s.say.length)∧flowOk s.send s.room=true:=by
 simp only [stOk,Bool.and_eq_true,decide_eq_true_eq]
 constructor
 ·rintro ⟨⟨⟨⟨⟨⟨⟨h1,h2⟩,h3⟩,h4⟩,h5⟩,h6⟩,h7⟩,h8⟩; exact ⟨h1,h2,h3,h4,h5,h6,h7,h8⟩
 ·rintro ⟨h1,h2,h3,h4,h5,h6,h7,h8⟩; exact ⟨⟨⟨⟨⟨⟨⟨h1,h2⟩,h3⟩,h4⟩,h5⟩,h6⟩,h7⟩,h8⟩
theorem stsOk_ids {ans:Bool} {l:List St} (h:stsOk ans l=true):∀i,i < l.length→2 * (i:Int)+1≤(l.getD i st0).id:=by
 rw [stsOk_iff] at h
 intro i
 induction i with
 | zero =>
  intro hi
  have:=strmOk_cases (stOk_iff.1 (h 0 hi).1).1
  omega
 | succ i ih =>
  intro hi
  have h1:=ih (by omega)
  have h2:=strmOk_cases (stOk_iff.1 (h (i+1) hi).1).1
  have h3:=strmOk_cases (stOk_iff.1 (h i (by omega)).1).1
  rcases (h (i+1) hi).2.1 with h4 | h4
  ·omega
  ·rw [Nat.add_sub_cancel] at h4
   omega
theorem stsOk_len {ans:Bool} {l:List St} (h:stsOk ans l=true):l.length≤4:=by
 by_cases h0:l.length≤4
 ·exact h0
 ·have h1:=stsOk_ids h 4 (by omega)
  have h2:=strmOk_cases (stOk_iff.1 (stsOk_iff.1 h 4 (by omega)).1).1
  omega
theorem stsOk_at {ans:Bool} {l:List St} {k:Nat} (h:stsOk ans l=true) (hk:k < l.length):stOk (l.getD k st0)=true:=(stsOk_iff.1 h k hk).1
theorem atM_some {l:List St} {id:Int} {k:Nat} (h:atM l id=some k):k < l.length∧(l.getD k st0).id=id:=by
 unfold atM at h
 have h1:=List.findIdx?_eq_some_iff_getElem.1 h
 obtain ⟨h2,h3,_⟩:=h1
 refine ⟨h2,?_⟩
 rw [getD_lt st0 h2]
 simpa using h3
structure EnW (N:Nat) (e:En):Prop where
 sts:stsOk e.ans e.strs=true
 wait:∀f ∈ e.wait,frameOk f=true
 out:tableOk e.out e.outM=true
 inn:tableOk e.inn e.innM=true
 flow:flowOk e.send e.room=true
 came:e.came.length≤600
 len:e.wait.length≤N
theorem EnW.mono {N M:Nat} {e:En} (h:EnW N e) (hm:N≤M):EnW M e:=⟨h.sts,h.wait,h.out,h.inn,h.flow,h.came,Nat.le_trans h.len hm⟩
theorem endOk_iff {e:En}:endOk e=true↔EnW 60 e:=by
 simp only [endOk,Bool.and_eq_true,List.all_eq_true,decide_eq_true_eq]
 constructor
 ·rintro ⟨⟨⟨⟨⟨⟨h1,h2⟩,h3⟩,h4⟩,h5⟩,h6⟩,h7⟩; exact ⟨h1,h2,h3,h4,h5,h6,h7⟩
 ·rintro ⟨h1,h2,h3,h4,h5,h6,h7⟩; exact ⟨⟨⟨⟨⟨⟨h1,h2⟩,h3⟩,h4⟩,h5⟩,h6⟩,h7⟩
theorem newSt_ok {id:Int} (h:strmOk id=true):stOk (newSt id)=true:=stOk_iff.2 ⟨h,⟨by simp [newSt],by simp [newSt]⟩,rfl,rfl,rfl,rfl,⟨by simp [newSt],by simp [newSt]⟩,rfl⟩
theorem EnW.setSt {N:Nat} {e:En} {k:Nat} {s:St} (h:EnW N e) (hk:k < e.strs.length) (hs:stOk s=true) (hid:s.id=(stAt e k).id):EnW N (setSt e k s) :=
 ⟨stsOk_set h.sts hk hs hid,h.wait,h.out,h.inn,h.flow,h.came,h.len⟩
theorem EnW.st {N:Nat} {e:En} {k:Nat} (h:EnW N e) (hk:k < e.strs.length):stOk (stAt e k)=true:=stsOk_at h.sts hk
theorem word_consts:fieldOk ⟨sPath,[],false⟩=true∧wordOk sPath=true∧wordOk sKind=true∧wordOk sText=true∧wordOk sSize=true∧wordOk sStatus=true∧wordOk [48]=true∧wordOk [49,50]=true:=by decide
theorem decM_small {n:Nat} (h:n < 10):decM n=[by8 (48+n)]:=by rw [decM,dif_pos h]
theorem decM_big {n:Nat} (h:¬n < 10):decM n=decM (n / 10)++[by8 (48+n % 10)]:=by rw [decM,dif_neg h]
theorem fig_ok:∀n,n < 10→0≤signAt (by8 (48+n)):=by decide
theorem wordOk_iff {w:List UInt8}:wordOk w=true↔(∀c ∈ w,0≤signAt c)∧w.length≤16:=by simp [wordOk,List.all_eq_true]
theorem decM_ok {n:Nat} (h:n < 100):wordOk (decM n)=true∧(decM n).length≤2:=by
 by_cases h1:n < 10
 ·rw [decM_small h1,wordOk_iff]
  refine ⟨⟨fun c hc=>?_,by simp⟩,by simp⟩
  rw [List.mem_singleton.1 hc]
  exact fig_ok n h1
 ·rw [decM_big h1,decM_small (by omega),wordOk_iff]
  refine ⟨⟨fun c hc=>?_,by simp⟩,by simp⟩
  rcases List.mem_append.1 hc with hc | hc
  ·rw [List.mem_singleton.1 hc]; exact fig_ok _ (by omega)
  ·rw [List.mem_singleton.1 hc]; exact fig_ok _ (by omega)
theorem fieldOk_iff {f:Fd}:fieldOk f=true↔wordOk f.name=true∧wordOk f.val=true∧f.name≠[]:=by simp [fieldOk,and_assoc]
theorem headOk_iff {h:List Fd}:headOk h=true↔(∀f ∈ h,fieldOk f=true)∧h.length≤6:=by simp [headOk,List.all_eq_true]
theorem reset_ok {id:Int} (h:strmOk id=true):frameOk ⟨3,false,id,[]⟩=true:=by simp [frameOk,h]
theorem mayM_le (e:En) (s:St):mayM e s≤(s.say.length:Int) - s.sent∧mayM e s≤s.send∧mayM e s≤e.send:=by
 unfold mayM; omega
theorem up_sign:∀n,n < 256→0≤signAt (by8 n)→0≤signAt (if 97≤n∧n < 122 then by8 (n+1) else by8 n):=by decide
theorem upM_ok {t:List UInt8} (h:wordOk t=true):wordOk (upM t)=true:=by
 obtain ⟨h1,h2⟩:=wordOk_iff.1 h
 rw [wordOk_iff]
 refine ⟨fun c hc=>?_,by simpa [upM] using h2⟩
 obtain ⟨b,hb,rfl⟩:=List.mem_map.1 hc
 have e:by8 b.toNat=b:=by
  apply UInt8.toNat_inj.1
  rw [by8_toNat (UInt8.toNat_lt b)]
 have:=up_sign b.toNat (UInt8.toNat_lt b) (by rw [e]; exact h1 b hb)
 rwa [e] at this
theorem answerM_ok {path text:List UInt8} (h:wordOk text=true):wordOk (answerM path text).1=true∧wordOk (answerM path text).2=true:=by
 obtain ⟨_,_,_,_,_,_,c0,c12⟩:=word_consts
 have hl:=(wordOk_iff.1 h).2
 unfold answerM
 split
 ·exact ⟨c0,h⟩
 ·split
  ·exact ⟨c0,upM_ok h⟩
  ·split
   ·exact ⟨c0,(decM_ok (by omega)).1⟩
   ·exact ⟨c12,rfl⟩
theorem askM_ok {s:St} (h:stOk s=true):stOk (askM s)=true∧(askM s).id=s.id:=by
 obtain ⟨a1,a2,a3,a4,a5,a6,a7,a8⟩:=stOk_iff.1 h
 obtain ⟨_,_,c2,c3,_,c5,_⟩:=word_consts
 obtain ⟨w1,w2⟩:=answerM_ok (path:=(getM s.got sPath).1) a6
 refine ⟨stOk_iff.2 ⟨a1,a2,?_,a4,w2,a6,⟨Int.le_refl _,by show (0:Int)≤((answerM _ _).2.length:Nat); omega⟩,a8⟩,rfl⟩
 rw [headOk_iff]
 refine ⟨fun f hf=>?_,by simp [askM]⟩
 simp only [askM,List.mem_cons,List.not_mem_nil,or_false] at hf
 rcases hf with rfl | rfl
 ·exact fieldOk_iff.2 ⟨c5,w1,by simp [sStatus]⟩
 ·exact fieldOk_iff.2 ⟨c2,c3,by simp [sKind]⟩
theorem doneM_ok {ans:Bool} {s:St} (h:stOk s=true):stOk (doneM ans s)=true∧(doneM ans s).id=s.id:=by
 obtain ⟨a1,a2,a3,a4,a5,a6,a7,a8⟩:=stOk_iff.1 h
 have hh:stOk { s with heard:=true }=true:=stOk_iff.2 ⟨a1,a2,a3,a4,a5,a6,a7,a8⟩
 unfold doneM
 split
 ·exact ⟨hh,rfl⟩
 ·split
  ·exact askM_ok hh
  ·exact ⟨stOk_iff.2 ⟨a1,⟨by simp,by simp⟩,a3,a4,a5,a6,a7,a8⟩,rfl⟩
theorem EnW.bad {N:Nat} {e:En} (h:EnW N e):EnW N (badM e):=⟨h.sts,h.wait,h.out,h.inn,h.flow,h.came,h.len⟩
theorem growM_w {N:Nat} {e:En} (h:EnW N e) {id:Int} (hid:strmOk id=true):EnW N (growM e id):=by
 unfold growM
 split
 ·rename_i hc
  exact ⟨stsOk_app h.sts (newSt_ok hid) hc.2.2 (.inl hc.2.1),h.wait,h.out,h.inn,h.flow,h.came,h.len⟩
 ·exact h
theorem growM_same (e:En) (id:Int):(growM e id).inn=e.inn∧(growM e id).innM=e.innM∧(growM e id).ans=e.ans∧(growM e id).wait=e.wait:=by
 unfold growM
 split <;> exact ⟨rfl,rfl,rfl,rfl⟩
theorem headFM_w {N:Nat} {e:En} (h:EnW N e) {f:Fr} (hid:strmOk f.stream=true) (hb:f.body.length≤1000):EnW N (headFM e f):=by
 unfold headFM
 have hg:=growM_w h hid
 obtain ⟨g1,g2,g3,g4⟩:=growM_same e f.stream
 simp only
 split
 ·rename_i t hd k hr hk
  split
  ·exact hg.bad
  ·obtain ⟨h1,h2⟩:=atM_some hk
   obtain ⟨x1,x2,x3⟩:=headR_good _ _ _ _ _ _ _ h.inn (by omega) (by omega) hr
   have hs:stOk { stAt (growM e f.stream) k with got:=hd }=true:=by
    obtain ⟨a1,a2,a3,a4,a5,a6,a7,a8⟩:=stOk_iff.1 (hg.st h1)
    exact stOk_iff.2 ⟨a1,a2,a3,headOk_iff.2 ⟨x2,by simp only; omega⟩,a5,a6,a7,a8⟩
   have hw:EnW N { growM e f.stream with inn:=t }:=⟨hg.sts,hg.wait,hg.out,by rw [show ({ growM e f.stream with inn:=t }:En).innM=e.innM from g2]; exact x1,hg.flow,hg.came,hg.len⟩
   refine hw.setSt h1 ?_ ?_
   ·split
    ·exact (doneM_ok hs).1
    ·exact hs
   ·split
    ·exact (doneM_ok hs).2
    ·rfl
 ·exact hg.bad
theorem more_ok {id:Int} (h:id=0∨strmOk id=true) {n:Nat} (hn:1≤n∧n≤31):frameOk ⟨8,false,id,[by8 n]⟩=true:=by
 have e:byteAt [by8 n] 0=n:=by8_toNat (by omega)
 simp only [frameOk,e]
 rcases h with rfl | h
 ·simp; omega
 ·simp [h]; omega
theorem dataM_w {N:Nat} {e:En} (h:EnW N e) {f:Fr}:EnW (N+2) (dataM e f):=by
 unfold dataM
 split
 ·exact h.bad.mono (by omega)
 ·rename_i k hk
  obtain ⟨h1,h2⟩:=atM_some hk
  simp only
  split
  ·exact h.bad.mono (by omega)
  ·rename_i hc
   have c1:¬(f.body.length:Int) > e.room:=fun q=>hc (.inr (.inr (.inl q)))
   have c2:¬(f.body.length:Int) > (stAt e k).room:=fun q=>hc (.inr (.inr (.inr (.inl q))))
   have c3:wordOk ((stAt e k).text++f.body)=true:=by simpa using fun q=>hc (.inr (.inr (.inr (.inr q))))
   have hf:=flowOk_iff.1 h.flow
   obtain ⟨a1,a2,a3,a4,a5,a6,a7,a8⟩:=stOk_iff.1 (h.st h1)
   have hg:=flowOk_iff.1 a8
   have hs:stOk { stAt e k with text:=(stAt e k).text++f.body,room:=(stAt e k).room - f.body.length }=true :=
    stOk_iff.2 ⟨a1,a2,a3,a4,a5,c3,a7,flowOk_iff.2 ⟨hg.1,hg.2.1,by simp only; omega,by simp only; omega⟩⟩
   have hw:EnW (N+2) { e with room:=e.room - f.body.length,wait:=if f.body=[] then e.wait else e.wait++[⟨8,false,0,[by8 f.body.length]⟩,⟨8,false,(stAt e k).id,[by8 f.body.length]⟩] }:=by
    refine ⟨h.sts,fun g hgm=>?_,h.out,h.inn,flowOk_iff.2 ⟨hf.1,hf.2.1,by simp only; omega,by simp only; omega⟩,h.came,?_⟩
    ·simp only at hgm
     split at hgm
     ·exact h.wait g hgm
     ·rename_i hne
      have hpos:=List.length_pos_iff.2 hne
      rcases List.mem_append.1 hgm with q | q
      ·exact h.wait g q
      ·simp only [List.mem_cons,List.not_mem_nil,or_false] at q
       rcases q with rfl | rfl
       ·exact more_ok (.inl rfl) (by omega)
       ·exact more_ok (.inr a1) (by omega)
    ·have:=h.len
     simp only
     split
     ·omega
     ·rw [List.length_append]; simp; omega
   refine hw.setSt h1 ?_ ?_
   ·split
    ·exact (doneM_ok hs).1
    ·exact hs
   ·split
    ·exact (doneM_ok hs).2
    ·rfl
theorem moreM_w {N:Nat} {e:En} (h:EnW N e) {f:Fr}:EnW N (moreM e f):=by
 unfold moreM
 have hf:=flowOk_iff.1 h.flow
 split
 ·exact ⟨h.sts,h.wait,h.out,h.inn,flowOk_iff.2 ⟨by simp only; omega,by simp only; omega,hf.2.2.1,hf.2.2.2⟩,h.came,h.len⟩
 ·split
  ·exact h.bad
  ·rename_i k hk
   obtain ⟨h1,h2⟩:=atM_some hk
   obtain ⟨a1,a2,a3,a4,a5,a6,a7,a8⟩:=stOk_iff.1 (h.st h1)
   have hg:=flowOk_iff.1 a8
   have hw:EnW N { e with bad:=e.bad || decide ((stAt e k).send+byteAt f.body 0 > 31) }:=⟨h.sts,h.wait,h.out,h.inn,h.flow,h.came,h.len⟩
   exact hw.setSt h1 (stOk_iff.2 ⟨a1,a2,a3,a4,a5,a6,a7,flowOk_iff.2 ⟨by simp only; omega,by simp only; omega,hg.2.2.1,hg.2.2.2⟩⟩) rfl
theorem frameM_w {N:Nat} {e:En} (h:EnW N e) {f:Fr} (hf:frameOk f=true):EnW (N+2) (frameM e f):=by
 unfold frameM
 split
 ·rename_i h1
  unfold frameOk at hf
  rw [if_pos (.inr h1)] at hf
  simp only [Bool.and_eq_true,decide_eq_true_eq] at hf
  exact (headFM_w h hf.1 (by omega)).mono (by omega)
 ·split
  ·exact dataM_w h
  ·split
   ·exact (moreM_w h).mono (by omega)
   ·split
    ·exact h.bad.mono (by omega)
    ·rename_i k hk
     obtain ⟨h1,h2⟩:=atM_some hk
     split
     ·exact h.bad.mono (by omega)
     ·obtain ⟨a1,a2,a3,a4,a5,a6,a7,a8⟩:=stOk_iff.1 (h.st h1)
      have hw:=h.setSt (s:={ stAt e k with state:=3 }) h1 (stOk_iff.2 ⟨a1,⟨by simp,by simp⟩,a3,a4,a5,a6,a7,a8⟩) rfl
      exact hw.mono (by omega)
end
section
open Go
theorem frR_some {b:List UInt8} (h:0 < (frR b).2.2):frameOk (frR b).1=true∧4≤(frR b).2.1∧(frR b).2.1≤b.length∧(frR b).2.2=1:=by
 unfold frR at h ⊢
 split
 ·rename_i h1; rw [if_pos h1] at h; exact absurd h (by decide)
 ·rename_i h1
  rw [if_neg h1] at h
  split
  ·rename_i h2; rw [if_pos h2] at h; exact absurd h (by decide)
  ·rename_i h2
   rw [if_neg h2] at h
   split
   ·rename_i h3; rw [if_pos h3] at h; exact absurd h (by decide)
   ·rename_i h3
    rw [if_neg h3] at h
    split
    ·rename_i h4
     exact ⟨h4,by simp only; omega,by simp only; omega,rfl⟩
    ·rename_i h4; rw [if_neg h4] at h; exact absurd h (by decide)
theorem EnW.withCame {N:Nat} {e:En} (h:EnW N e) {c:List UInt8} (hc:c.length≤600):EnW N { e with came:=c }:=⟨h.sts,h.wait,h.out,h.inn,h.flow,hc,h.len⟩
theorem hearsM_w:∀(n N:Nat) (e:En),EnW N e→EnW (N+2 * n) (hearsM n e)
 | 0,N,e,h=>h
 | n+1,N,e,h=>by
  rw [hearsM]
  split
  ·exact h.mono (by omega)
  ·simp only
   split
   ·exact h.bad.mono (by omega)
   ·split
    ·exact h.mono (by omega)
    ·rename_i h1 h2
     obtain ⟨r1,r2,r3,r4⟩:=frR_some (b:=e.came) (by omega)
     have hc:=h.came
     have hw:=frameM_w (h.withCame (c:=e.came.drop (frR e.came).2.1) (by rw [List.length_drop]; omega)) r1
     exact (hearsM_w n (N+2) _ hw).mono (by omega)
theorem hearM_w {N:Nat} {e:En} (h:EnW N e) {b:List UInt8} (hb:e.came.length+b.length≤300):EnW (N+602) (hearM e b):=by
 have hw:=hearsM_w (e.came.length+b.length+1) N _ (h.withCame (c:=e.came++b) (by rw [List.length_append]; omega))
 exact hw.mono (by omega)
theorem frameM_came (e:En) (f:Fr):(frameM e f).came=e.came:=by
 have hg:(growM e f.stream).came=e.came:=by unfold growM; split <;> rfl
 unfold frameM
 split
 ·unfold headFM
  simp only
  split
  ·split
   ·exact hg
   ·exact hg
  ·exact hg
 ·split
  ·unfold dataM
   split
   ·rfl
   ·simp only
    split <;> rfl
  ·split
   ·unfold moreM
    split
    ·rfl
    ·split <;> rfl
   ·split
    ·rfl
    ·split <;> rfl
theorem frameM_ans (e:En) (f:Fr):(frameM e f).ans=e.ans:=by
 have hg:(growM e f.stream).ans=e.ans:=by unfold growM; split <;> rfl
 unfold frameM
 split
 ·unfold headFM
  simp only
  split
  ·split
   ·exact hg
   ·exact hg
  ·exact hg
 ·split
  ·unfold dataM
   split
   ·rfl
   ·simp only
    split <;> rfl
  ·split
   ·unfold moreM
    split
    ·rfl
    ·split <;> rfl
   ·split
    ·rfl
    ·split <;> rfl
theorem hearsM_ans:∀(n:Nat) (e:En),(hearsM n e).ans=e.ans
 | 0,e=>rfl
 | n+1,e=>by
  rw [hearsM]
  split
  ·rfl
  ·simp only
   split
   ·rfl
   ·split
    ·rfl
    ·rw [hearsM_ans n,frameM_ans]
theorem hearM_ans (e:En) (b:List UInt8):(hearM e b).ans=e.ans:=hearsM_ans _ _
theorem callM_ans (e:En) (p t:List UInt8):(callM e p t).1.ans=e.ans:=by unfold callM; split <;> rfl
theorem leaveM_ans (e:En) (id:Int):(leaveM e id).1.ans=e.ans:=by
 unfold leaveM
 split
 ·rfl
 ·split <;> rfl
theorem beginM_ans (e:En) (s:St):(beginM e s).1.ans=e.ans:=by unfold beginM; split <;> rfl
theorem pieceM_ans (e:En) (s:St):(pieceM e s).1.ans=e.ans:=by unfold pieceM; split <;> rfl
theorem sayM_ans (e:En) (k:Nat):(sayM e k).1.ans=e.ans:=by
 unfold sayM
 simp only
 split
 ·rfl
 ·exact (pieceM_ans _ _).trans (beginM_ans _ _)
theorem saysM_ans:∀(n k:Nat) (e:En),(saysM n k e).1.ans=e.ans
 | 0,k,e=>rfl
 | n+1,k,e=>(saysM_ans n (k+1) _).trans (sayM_ans e k)
theorem roomM_ans (e:En) (f:Fr):(roomM e f).ans=e.ans:=by
 unfold roomM
 split
 ·rfl
 ·split
  ·rfl
  ·split <;> rfl
theorem waitM_ans:∀(l:List Fr) (e:En),(waitM e l).1.ans=e.ans
 | [],e=>rfl
 | f :: l,e=>(waitM_ans l _).trans (roomM_ans e f)
theorem newEn_w (a:Bool):EnW 0 (newEn a):=⟨rfl,by simp [newEn],rfl,rfl,rfl,by simp [newEn],by simp [newEn]⟩
theorem hearWM_w {N:Nat} {e:En} (h:EnW N e) (hN:642≤N) (b:List UInt8):EnW N (hearWM e b)∧(hearWM e b).ans=e.ans:=by
 unfold hearWM
 split
 ·exact ⟨h,rfl⟩
 ·rename_i hc
  have h1:¬e.came.length+b.length > 300:=fun q=>hc (.inr (.inl q))
  have h2:¬e.wait.length > 40:=fun q=>hc (.inr (.inr q))
  have h40:EnW 40 e:=⟨h.sts,h.wait,h.out,h.inn,h.flow,h.came,by omega⟩
  exact ⟨(hearM_w h40 (by omega)).mono (by omega),hearM_ans e b⟩
end
section
open Go
theorem l12Stream_ok (n:Int) (S:List Blk):VCall Tryz.prog 111 [.int .i64 n] S fun r S'=>r=.bool (strmOk n)∧S'=S:=by
 refine VCall.en hD Tryz.func111 Tryz.ntmps111 Tryz.results111 ?_
 by_cases h:1≤n∧n≤7
 ·simp -implicitDefEqProofs (disch:=omega) only [push_cast,simprocAttr,↓gd]
  refine (l6In_t h S).to ?_
  simp -implicitDefEqProofs (disch:=omega) only [push_cast,simprocAttr,↓gd]
  exact fin0 (by simp [strmOk,h])
 ·simp -implicitDefEqProofs (disch:=omega) only [push_cast,simprocAttr,↓gd]
  refine (l6In_f h S).to ?_
  simp -implicitDefEqProofs (disch:=omega) only [push_cast,simprocAttr,↓gd]
  exact fin0 (by simp [strmOk]; omega)
theorem isStream_ok (n:Int) (S:List Blk):VCall Tryz.prog 82 [.int .i64 n] S fun r S'=>r=.bool (strmOk n)∧S'=S:=by
 refine VCall.en hD Tryz.func82 Tryz.ntmps82 Tryz.results82 ?_
 by_cases h:1≤n∧n≤7
 ·simp -implicitDefEqProofs (disch:=omega) only [push_cast,simprocAttr,↓gd]
  refine (in_t h S).to ?_
  simp -implicitDefEqProofs (disch:=omega) only [push_cast,simprocAttr,↓gd]
  exact fin0 (by simp [strmOk,h])
 ·simp -implicitDefEqProofs (disch:=omega) only [push_cast,simprocAttr,↓gd]
  refine (in_f h S).to ?_
  simp -implicitDefEqProofs (disch:=omega) only [push_cast,simprocAttr,↓gd]
  exact fin0 (by simp [strmOk]; omega)
theorem sFlowOk_ok (s r:Int) (S:List Blk):VCall Tryz.prog 75 [.agg [.int .i64 s,.int .i64 r]] S fun x S'=>x=.bool (flowOk s r)∧S'=S:=by
 refine VCall.en hD Tryz.func75 Tryz.ntmps75 Tryz.results75 ?_
 by_cases h:0≤s∧s≤31
 ·simp -implicitDefEqProofs (disch:=omega) only [push_cast,simprocAttr,↓gd]
  refine (l6In_t h _).to ?_
  simp -implicitDefEqProofs (disch:=omega) only [push_cast,simprocAttr,↓gd]
  refine (l6In_ok r 0 31 _).to ?_
  simp -implicitDefEqProofs (disch:=omega) only [push_cast,simprocAttr,↓gd]
  exact fin1 (.bool _) (by simp [flowOk,h])
 ·simp -implicitDefEqProofs (disch:=omega) only [push_cast,simprocAttr,↓gd]
  refine (l6In_f h _).to ?_
  simp -implicitDefEqProofs (disch:=omega) only [push_cast,simprocAttr,↓gd]
  exact fin1 (.bool _) (by simp [flowOk]; omega)
theorem FlowOk_ok (s r:Int) (S:List Blk):VCall Tryz.prog 88 [.agg [.int .i64 s,.int .i64 r]] S fun x S'=>x=.bool (flowOk s r)∧S'=S:=by
 refine VCall.en hD Tryz.func88 Tryz.ntmps88 Tryz.results88 ?_
 by_cases h:0≤s∧s≤31
 ·simp -implicitDefEqProofs (disch:=omega) only [push_cast,simprocAttr,↓gd]
  refine (in_t h _).to ?_
  simp -implicitDefEqProofs (disch:=omega) only [push_cast,simprocAttr,↓gd]
  refine (in_ok r 0 31 _).to ?_
  simp -implicitDefEqProofs (disch:=omega) only [push_cast,simprocAttr,↓gd]
  exact fin1 (.bool _) (by simp [flowOk,h])
 ·simp -implicitDefEqProofs (disch:=omega) only [push_cast,simprocAttr,↓gd]
  refine (in_f h _).to ?_
  simp -implicitDefEqProofs (disch:=omega) only [push_cast,simprocAttr,↓gd]
  exact fin1 (.bool _) (by simp [flowOk]; omega)
theorem sFrameOk_ok (f:Fr) (S:List Blk):VCall Tryz.prog 73 [frV f] S fun r S'=>r=.bool (frameOk f)∧S'=S:=by
 obtain ⟨k,l,s,b⟩:=f
 refine VCall.en hD Tryz.func73 Tryz.ntmps73 Tryz.results73 ?_
 by_cases k0:k=0
 ·subst k0
  simp -implicitDefEqProofs (disch:=omega) only [push_cast,simprocAttr,↓gd]
  refine (l12Stream_ok s _).to ?_
  cases hs:strmOk s
  ·simp -implicitDefEqProofs (disch:=omega) only [push_cast,simprocAttr,↓gd]
   exact fin1 (.bool _) (by simp [frameOk,hs])
  ·simp -implicitDefEqProofs (disch:=omega) only [push_cast,simprocAttr,↓gd]
   exact fin1 (.bool _) (by simp [frameOk,hs]; try omega)
 by_cases k1:k=1
 ·subst k1
  simp -implicitDefEqProofs (disch:=omega) only [push_cast,simprocAttr,↓gd]
  refine (l12Stream_ok s _).to ?_
  cases hs:strmOk s
  ·simp -implicitDefEqProofs (disch:=omega) only [push_cast,simprocAttr,↓gd]
   exact fin1 (.bool _) (by simp [frameOk,hs])
  ·simp -implicitDefEqProofs (disch:=omega) only [push_cast,simprocAttr,↓gd]
   exact fin1 (.bool _) (by simp [frameOk,hs]; try omega)
 by_cases k3:k=3
 ·subst k3
  simp -implicitDefEqProofs (disch:=omega) only [push_cast,simprocAttr,↓gd]
  refine (l12Stream_ok s _).to ?_
  cases hs:strmOk s
  ·simp -implicitDefEqProofs (disch:=omega) only [push_cast,simprocAttr,↓gd]
   exact fin1 (.bool _) (by simp [frameOk,hs])
  ·cases l
   ·simp -implicitDefEqProofs (disch:=omega) only [push_cast,simprocAttr,↓gd]
    exact fin1 (.bool _) (by simp [frameOk,hs])
   ·simp -implicitDefEqProofs (disch:=omega) only [push_cast,simprocAttr,↓gd]
    exact fin1 (.bool _) (by simp [frameOk,hs])
 by_cases k8:k=8
 ·subst k8
  have fin:∀X:List Blk,(s=0∨strmOk s=true)→l=false→b.length=1→∃r S2,Wk S (.bool (decide ((1:Int)≤((b.getD 0 0).toNat:Nat)) && decide (((b.getD 0 0).toNat:Int)≤31))) (S++X) r S2∧r=.bool (frameOk ⟨8,l,s,b⟩)∧S2=S:=by
   intro X h1 h2 h3
   refine fin1 (.bool _) ?_
   subst h2
   have e:(decide (s=0) || strmOk s)=true:=by simpa using h1
   have e2:frameOk ⟨8,false,s,b⟩=(decide (1≤(b.getD 0 0).toNat) && decide ((b.getD 0 0).toNat≤31)):=by
    simp only [frameOk]
    rw [if_neg (by decide),if_neg (by decide),if_pos trivial,e,h3]
    simp [byteAt]
   rw [e2]
   have e3:decide ((1:Int)≤((b.getD 0 0).toNat:Nat))=decide (1≤(b.getD 0 0).toNat):=decide_eq_decide.2 (by omega)
   have e4:decide (((b.getD 0 0).toNat:Int)≤31)=decide ((b.getD 0 0).toNat≤31):=decide_eq_decide.2 (by omega)
   rw [e3,e4]
  have hbt:=UInt8.toNat_lt (b.getD 0 0)
  by_cases hs0:s=0
  ·subst hs0
   cases l
   ·by_cases hb1:b.length=1
    ·simp -implicitDefEqProofs (disch:=omega) only [push_cast,simprocAttr,hb1,↓gd]
     refine (l6In_ok _ 1 31 _).to ?_
     simp -implicitDefEqProofs (disch:=omega) only [push_cast,simprocAttr,↓gd]
     exact fin _ (.inl rfl) rfl hb1
    ·have hb1':¬(b.length:Int)=1:=by omega
     simp -implicitDefEqProofs (disch:=omega) only [push_cast,simprocAttr,hb1',↓gd]
     exact fin1 (.bool _) (by simp [frameOk,hb1])
   ·simp -implicitDefEqProofs (disch:=omega) only [push_cast,simprocAttr,↓gd]
    exact fin1 (.bool _) (by simp [frameOk])
  ·simp -implicitDefEqProofs (disch:=omega) only [push_cast,simprocAttr,hs0,↓gd]
   refine (l12Stream_ok s _).to ?_
   cases hs:strmOk s
   ·simp -implicitDefEqProofs (disch:=omega) only [push_cast,simprocAttr,↓gd]
    exact fin1 (.bool _) (by simp [frameOk,hs,hs0])
   ·cases l
    ·by_cases hb1:b.length=1
     ·simp -implicitDefEqProofs (disch:=omega) only [push_cast,simprocAttr,hb1,↓gd]
      refine (l6In_ok _ 1 31 _).to ?_
      simp -implicitDefEqProofs (disch:=omega) only [push_cast,simprocAttr,↓gd]
      exact fin _ (.inr hs) rfl hb1
     ·have hb1':¬(b.length:Int)=1:=by omega
      simp -implicitDefEqProofs (disch:=omega) only [push_cast,simprocAttr,hb1',↓gd]
      exact fin1 (.bool _) (by simp [frameOk,hb1])
    ·simp -implicitDefEqProofs (disch:=omega) only [push_cast,simprocAttr,↓gd]
     exact fin1 (.bool _) (by simp [frameOk])
 ·simp -implicitDefEqProofs (disch:=omega) only [push_cast,simprocAttr,k0,k1,k3,k8,↓gd]
  exact fin1 (.bool _) (by simp [frameOk,k0,k1,k3,k8])
end
end Go.Proofs.YtldogccmhncnoaaGreatDoor
