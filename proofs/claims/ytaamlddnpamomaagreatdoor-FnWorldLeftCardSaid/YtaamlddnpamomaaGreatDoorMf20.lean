/- A part of the proof: contracts of functions, or plain facts on which these lean. -/
import Derived.Test.YtaamlddnpamomaaGreatDoorMf16
import Derived.Test.YtaamlddnpamomaaGreatDoorMf19
namespace Go.Proofs.YtaamlddnpamomaaGreatDoor
open Go
set_option linter.unusedVariables false
set_option linter.unusedSimpArgs false
set_option maxRecDepth 100000
set_option maxHeartbeats 16000000

section
open Go
theorem getD_lt {α:Type} {l:List α} {i:Nat} (d:α) (h:i < l.length):l.getD i d=l[i]:=by
 rw [List.getD,List.getElem?_eq_getElem h]; rfl
theorem getD_set {α:Type} {l:List α} {i k:Nat} (d a:α) (hk:k < l.length):(l.set k a).getD i d=if i=k then a else l.getD i d:=by
 simp only [List.getD,List.getElem?_set]
 by_cases e:k=i
 ·subst e; simp [hk]
 ·simp [e,Ne.symm e]
theorem getD_app {α:Type} {l:List α} {i:Nat} (d a:α):(l++[a]).getD i d=if i < l.length then l.getD i d else if i=l.length then a else d:=by
 simp only [List.getD]
 by_cases h:i < l.length
 ·rw [List.getElem?_append_left h]; simp [h]
 ·rw [List.getElem?_append_right (by omega)]
  by_cases e:i=l.length
  ·subst e; simp
  ·rw [if_neg h,if_neg e,List.getElem?_eq_none (by simp; omega)]; rfl
theorem okAt_iff {ans:Bool} {l:List St} {i:Nat}:okAt ans l i=true↔stOk (l.getD i st0)=true∧(i=0∨(l.getD (i - 1) st0).id < (l.getD i st0).id)∧(ans=true∨(l.getD i st0).id=2 * i+1):=by
 simp [okAt,and_assoc]
theorem stsOk_iff {ans:Bool} {l:List St}:stsOk ans l=true↔∀i,i < l.length→stOk (l.getD i st0)=true∧(i=0∨(l.getD (i - 1) st0).id < (l.getD i st0).id)∧(ans=true∨(l.getD i st0).id=2 * i+1):=by
 simp only [stsOk,List.all_eq_true,List.mem_range,okAt_iff]
theorem stsOk_set {ans:Bool} {l:List St} {k:Nat} {s:St} (h:stsOk ans l=true) (hk:k < l.length) (hs:stOk s=true) (hid:s.id=(l.getD k st0).id):stsOk ans (l.set k s)=true:=by
 rw [stsOk_iff] at h ⊢
 intro i hi
 rw [List.length_set] at hi
 have e:∀j,((l.set k s).getD j st0).id=(l.getD j st0).id:=by
  intro j
  rw [getD_set st0 s hk]
  split
  ·rename_i e; rw [hid,e]
  ·rfl
 rw [e,e]
 refine ⟨?_,(h i hi).2⟩
 rw [getD_set st0 s hk]
 split
 ·exact hs
 ·exact (h i hi).1
theorem stsOk_app {ans:Bool} {l:List St} {s:St} (h:stsOk ans l=true) (hs:stOk s=true) (hl:l=[]∨(l.getD (l.length - 1) st0).id < s.id) (ha:ans=true∨s.id=2 * l.length+1):stsOk ans (l++[s])=true:=by
 rw [stsOk_iff] at h ⊢
 intro i hi
 simp only [List.length_append,List.length_singleton] at hi
 by_cases e:i < l.length
 ·rw [getD_app,getD_app,if_pos e,if_pos (by omega)]
  exact h i e
 ·have:i=l.length:=by omega
  subst this
  rw [getD_app,if_neg e,if_pos rfl]
  refine ⟨hs,?_,ha⟩
  rcases hl with rfl | hl
  ·exact .inl rfl
  ·by_cases h0:l.length=0
   ·exact .inl h0
   ·refine .inr ?_
    rw [getD_app,if_pos (by omega)]
    exact hl
theorem strmOk_iff {n:Int}:strmOk n=true↔1≤n∧n≤7∧n.tmod 2=1:=by simp [strmOk,and_assoc]
theorem strmOk_cases {n:Int} (h:strmOk n=true):n=1∨n=3∨n=5∨n=7:=by
 obtain ⟨h1,h2,h3⟩:=strmOk_iff.1 h
 rw [Int.tmod_eq_emod_of_nonneg (by omega)] at h3
 omega
theorem flowOk_iff {s r:Int}:flowOk s r=true↔0≤s∧s≤31∧0≤r∧r≤31:=by simp [flowOk,and_assoc]
theorem stOk_iff {s:St}:stOk s=true↔strmOk s.id=true∧(1≤s.state∧s.state≤3)∧headOk s.head=true∧headOk s.got=true∧wordOk s.say=true∧wordOk s.text=true∧(0≤s.sent∧s.sent≤s.say.length)∧flowOk s.send s.room=true:=by
 simp only [stOk,Bool.and_eq_true,decide_eq_true_eq]
 constructor
 ·rintro ⟨⟨⟨⟨⟨⟨⟨h1,h2⟩,h3⟩,h4⟩,h5⟩,h6⟩,h7⟩,h8⟩; exact ⟨h1,h2,h3,h4,h5,h6,h7,h8⟩
 ·rintro ⟨h1,h2,h3,h4,h5,h6,h7,h8⟩; exact ⟨⟨⟨⟨⟨⟨⟨h1,h2⟩,h3⟩,h4⟩,h5⟩,h6⟩,h7⟩,h8⟩
theorem stsOk_ids {ans:Bool} {l:List St} (h:stsOk ans l=true):∀i,i < l.length→2 * (i:Int)+1≤(l.getD i st0).id:=by
 rw [stsOk_iff] at h
 intro i
 induction i with
 | zero =>
  intro hi
  have:=strmOk_cases (stOk_iff.1 (h 0 hi).1).1
  omega
 | succ i ih =>
  intro hi
  have h1:=ih (by omega)
  have h2:=strmOk_cases (stOk_iff.1 (h (i+1) hi).1).1
  have h3:=strmOk_cases (stOk_iff.1 (h i (by omega)).1).1
  rcases (h (i+1) hi).2.1 with h4 | h4
  ·omega
  ·rw [Nat.add_sub_cancel] at h4
   omega
theorem stsOk_len {ans:Bool} {l:List St} (h:stsOk ans l=true):l.length≤4:=by
 by_cases h0:l.length≤4
 ·exact h0
 ·have h1:=stsOk_ids h 4 (by omega)
  have h2:=strmOk_cases (stOk_iff.1 (stsOk_iff.1 h 4 (by omega)).1).1
  omega
theorem stsOk_at {ans:Bool} {l:List St} {k:Nat} (h:stsOk ans l=true) (hk:k < l.length):stOk (l.getD k st0)=true:=(stsOk_iff.1 h k hk).1
theorem atM_some {l:List St} {id:Int} {k:Nat} (h:atM l id=some k):k < l.length∧(l.getD k st0).id=id:=by
 unfold atM at h
 have h1:=List.findIdx?_eq_some_iff_getElem.1 h
 obtain ⟨h2,h3,_⟩:=h1
 refine ⟨h2,?_⟩
 rw [getD_lt st0 h2]
 simpa using h3
structure EnW (N:Nat) (e:En):Prop where
 sts:stsOk e.ans e.strs=true
 wait:∀f ∈ e.wait,frameOk f=true
 out:tableOk e.out e.outM=true
 inn:tableOk e.inn e.innM=true
 flow:flowOk e.send e.room=true
 came:e.came.length≤600
 len:e.wait.length≤N
theorem EnW.mono {N M:Nat} {e:En} (h:EnW N e) (hm:N≤M):EnW M e:=⟨h.sts,h.wait,h.out,h.inn,h.flow,h.came,Nat.le_trans h.len hm⟩
theorem endOk_iff {e:En}:endOk e=true↔EnW 60 e:=by
 simp only [endOk,Bool.and_eq_true,List.all_eq_true,decide_eq_true_eq]
 constructor
 ·rintro ⟨⟨⟨⟨⟨⟨h1,h2⟩,h3⟩,h4⟩,h5⟩,h6⟩,h7⟩; exact ⟨h1,h2,h3,h4,h5,h6,h7⟩
 ·rintro ⟨h1,h2,h3,h4,h5,h6,h7⟩; exact ⟨⟨⟨⟨⟨⟨h1,h2⟩,h3⟩,h4⟩,h5⟩,h6⟩,h7⟩
theorem newSt_ok {id:Int} (h:strmOk id=true):stOk (newSt id)=true:=stOk_iff.2 ⟨h,⟨by simp [newSt],by simp [newSt]⟩,rfl,rfl,rfl,rfl,⟨by simp [newSt],by simp [newSt]⟩,rfl⟩
theorem EnW.setSt {N:Nat} {e:En} {k:Nat} {s:St} (h:EnW N e) (hk:k < e.strs.length) (hs:stOk s=true) (hid:s.id=(stAt e k).id):EnW N (setSt e k s) :=
 ⟨stsOk_set h.sts hk hs hid,h.wait,h.out,h.inn,h.flow,h.came,h.len⟩
theorem EnW.st {N:Nat} {e:En} {k:Nat} (h:EnW N e) (hk:k < e.strs.length):stOk (stAt e k)=true:=stsOk_at h.sts hk
theorem word_consts:fieldOk ⟨sPath,[],false⟩=true∧wordOk sPath=true∧wordOk sKind=true∧wordOk sText=true∧wordOk sSize=true∧wordOk sStatus=true∧wordOk [48]=true∧wordOk [49,50]=true:=by decide
theorem decM_small {n:Nat} (h:n < 10):decM n=[by8 (48+n)]:=by rw [decM,dif_pos h]
theorem decM_big {n:Nat} (h:¬n < 10):decM n=decM (n / 10)++[by8 (48+n % 10)]:=by rw [decM,dif_neg h]
theorem fig_ok:∀n,n < 10→0≤signAt (by8 (48+n)):=by decide
theorem wordOk_iff {w:List UInt8}:wordOk w=true↔(∀c ∈ w,0≤signAt c)∧w.length≤16:=by simp [wordOk,List.all_eq_true]
theorem decM_ok {n:Nat} (h:n < 100):wordOk (decM n)=true∧(decM n).length≤2:=by
 by_cases h1:n < 10
 ·rw [decM_small h1,wordOk_iff]
  refine ⟨⟨fun c hc=>?_,by simp⟩,by simp⟩
  rw [List.mem_singleton.1 hc]
  exact fig_ok n h1
 ·rw [decM_big h1,decM_small (by omega),wordOk_iff]
  refine ⟨⟨fun c hc=>?_,by simp⟩,by simp⟩
  rcases List.mem_append.1 hc with hc | hc
  ·rw [List.mem_singleton.1 hc]; exact fig_ok _ (by omega)
  ·rw [List.mem_singleton.1 hc]; exact fig_ok _ (by omega)
theorem fieldOk_iff {f:Fd}:fieldOk f=true↔wordOk f.name=true∧wordOk f.val=true∧f.name≠[]:=by simp [fieldOk,and_assoc]
theorem headOk_iff {h:List Fd}:headOk h=true↔(∀f ∈ h,fieldOk f=true)∧h.length≤6:=by simp [headOk,List.all_eq_true]
theorem callHead_ok {path text:List UInt8} (ht:wordOk text=true):headOk (callHead path text)=wordOk path:=by
 have hlen:=(wordOk_iff.1 ht).2
 obtain ⟨_,c1,c2,c3,c4,_⟩:=word_consts
 have hd:=(decM_ok (n:=text.length) (by omega)).1
 cases hp:wordOk path with
 | true =>
  rw [headOk_iff]
  refine ⟨fun f hf=>?_,by simp [callHead]⟩
  simp only [callHead,List.mem_cons,List.not_mem_nil,or_false] at hf
  rcases hf with rfl | rfl | rfl
  ·exact fieldOk_iff.2 ⟨c1,hp,by simp [sPath]⟩
  ·exact fieldOk_iff.2 ⟨c2,c3,by simp [sKind]⟩
  ·exact fieldOk_iff.2 ⟨c4,hd,by simp [sSize]⟩
 | false =>
  rw [Bool.eq_false_iff]
  intro h
  have:=(fieldOk_iff.1 ((headOk_iff.1 h).1 ⟨sPath,path,false⟩ (by simp [callHead]))).2.1
  rw [hp] at this; cases this
theorem callM_w {N:Nat} {e:En} (h:EnW N e) (path text:List UInt8):EnW N (callM e path text).1:=by
 unfold callM
 split
 ·exact h
 ·rename_i hc
  have hn:e.ans=false:=by simpa using fun he=>hc (.inl he)
  have h7:¬2 * (e.strs.length:Int)+1 > 7:=fun he=>hc (.inr (.inl he))
  have hho:headOk (callHead path text)=true:=by simpa using fun he=>hc (.inr (.inr (.inl he)))
  have hwo:wordOk text=true:=by simpa using fun he=>hc (.inr (.inr (.inr he)))
  refine ⟨stsOk_app h.sts ?_ ?_ (.inr rfl),h.wait,h.out,h.inn,h.flow,h.came,h.len⟩
  ·have hid:strmOk (2 * (e.strs.length:Int)+1)=true:=strmOk_iff.2 ⟨by omega,by omega,by rw [Int.tmod_eq_emod_of_nonneg (by omega)]; omega⟩
   obtain ⟨a1,a2,a3,a4,a5,a6,a7,a8⟩:=stOk_iff.1 (newSt_ok hid)
   exact stOk_iff.2 ⟨a1,a2,hho,a4,hwo,a6,⟨Int.le_refl _,by show (0:Int)≤text.length; omega⟩,a8⟩
  ·by_cases h0:e.strs=[]
   ·exact .inl h0
   ·refine .inr ?_
    have hp:=List.length_pos_iff.2 h0
    have:=(stsOk_iff.1 h.sts (e.strs.length - 1) (by omega)).2.2
    rw [hn] at this
    rcases this with q | q
    ·cases q
    ·rw [q]; show _ < 2 * (e.strs.length:Int)+1; omega
theorem reset_ok {id:Int} (h:strmOk id=true):frameOk ⟨3,false,id,[]⟩=true:=by simp [frameOk,h]
theorem leaveM_w {N:Nat} {e:En} (h:EnW N e) (id:Int):EnW (N+1) (leaveM e id).1:=by
 unfold leaveM
 split
 ·exact h.mono (by omega)
 ·rename_i k hk
  obtain ⟨h1,h2⟩:=atM_some hk
  split
  ·exact h.mono (by omega)
  ·have hs:=stOk_iff.1 (h.st h1)
   have hw:EnW (N+1) { e with wait:=if (stAt e k).begun then e.wait++[⟨3,false,id,[]⟩] else e.wait }:=by
    refine ⟨h.sts,fun f hf=>?_,h.out,h.inn,h.flow,h.came,?_⟩
    ·simp only at hf
     split at hf
     ·rcases List.mem_append.1 hf with g | g
      ·exact h.wait f g
      ·rw [List.mem_singleton.1 g]
       exact reset_ok (by rw [←h2]; exact hs.1)
     ·exact h.wait f hf
    ·have:=h.len
     simp only
     split
     ·rw [List.length_append,List.length_singleton]; omega
     ·omega
   refine hw.setSt h1 ?_ rfl
   obtain ⟨a1,a2,a3,a4,a5,a6,a7,a8⟩:=hs
   exact stOk_iff.2 ⟨a1,⟨by simp,by simp⟩,a3,a4,a5,a6,a7,a8⟩
theorem EnW.withOut {N:Nat} {e:En} (h:EnW N e) {l:List Fd} (hl:tableOk l e.outM=true):EnW N { e with out:=l }:=⟨h.sts,h.wait,hl,h.inn,h.flow,h.came,h.len⟩
theorem mayM_le (e:En) (s:St):mayM e s≤(s.say.length:Int) - s.sent∧mayM e s≤s.send∧mayM e s≤e.send:=by
 unfold mayM; omega
theorem beginM_w {N:Nat} {e:En} {s:St} (h:EnW N e) (hs:stOk s=true):EnW N (beginM e s).1∧stOk (beginM e s).2.1=true∧(beginM e s).2.1.id=s.id∧(beginM e s).1.strs=e.strs:=by
 unfold beginM
 split
 ·exact ⟨h,hs,rfl,rfl⟩
 ·obtain ⟨a1,a2,a3,a4,a5,a6,a7,a8⟩:=stOk_iff.1 hs
  exact ⟨h.withOut (tableOk_headW _ _ _ h.out (headOk_parts a3).1),stOk_iff.2 ⟨a1,a2,a3,a4,a5,a6,a7,a8⟩,rfl,rfl⟩
theorem pieceM_w {N:Nat} {e:En} {s:St} (h:EnW N e) (hs:stOk s=true):EnW N (pieceM e s).1∧stOk (pieceM e s).2.1=true∧(pieceM e s).2.1.id=s.id∧(pieceM e s).1.strs=e.strs:=by
 unfold pieceM
 split
 ·rename_i hc
  obtain ⟨a1,a2,a3,a4,a5,a6,a7,a8⟩:=stOk_iff.1 hs
  obtain ⟨m1,m2,m3⟩:=mayM_le e s
  have hf:=flowOk_iff.1 h.flow
  have hg:=flowOk_iff.1 a8
  refine ⟨⟨h.sts,h.wait,h.out,h.inn,flowOk_iff.2 ⟨by simp only; omega,by simp only; omega,hf.2.2.1,hf.2.2.2⟩,h.came,h.len⟩,?_,rfl,rfl⟩
  exact stOk_iff.2 ⟨a1,a2,a3,a4,a5,a6,⟨by simp only; omega,by simp only; omega⟩,flowOk_iff.2 ⟨by simp only; omega,by simp only; omega,hg.2.2.1,hg.2.2.2⟩⟩
 ·exact ⟨h,hs,rfl,rfl⟩
theorem sayM_w {N:Nat} {e:En} {k:Nat} (h:EnW N e) (hk:k < e.strs.length):EnW N (sayM e k).1∧(sayM e k).1.strs.length=e.strs.length:=by
 unfold sayM
 simp only
 split
 ·exact ⟨h,rfl⟩
 ·have hs:=h.st hk
  obtain ⟨b1,b2,b3,b4⟩:=beginM_w h hs
  obtain ⟨c1,c2,c3,c4⟩:=pieceM_w b1 b2
  have hk2:k < (pieceM (beginM e (stAt e k)).1 (beginM e (stAt e k)).2.1).1.strs.length:=by rw [c4,b4]; exact hk
  refine ⟨c1.setSt hk2 ?_ ?_,by simp [setSt,c4,b4]⟩
  ·obtain ⟨a1,a2,a3,a4,a5,a6,a7,a8⟩:=stOk_iff.1 c2
   refine stOk_iff.2 ⟨a1,?_,a3,a4,a5,a6,a7,a8⟩
   simp only
   split
   ·exact ⟨by decide,by decide⟩
   ·exact a2
  ·have e1:stAt (pieceM (beginM e (stAt e k)).1 (beginM e (stAt e k)).2.1).1 k=stAt e k:=by
    show List.getD (pieceM _ _).1.strs k st0=_
    rw [c4,b4]
    rfl
   rw [e1]
   exact c3.trans b3
theorem roomM_w {N:Nat} {e:En} (h:EnW N e) (f:Fr):EnW N (roomM e f)∧(roomM e f).strs.length=e.strs.length∧(roomM e f).wait=e.wait:=by
 unfold roomM
 have hf:=flowOk_iff.1 h.flow
 split
 ·exact ⟨h,rfl,rfl⟩
 ·split
  ·exact ⟨⟨h.sts,h.wait,h.out,h.inn,flowOk_iff.2 ⟨hf.1,hf.2.1,by simp only; omega,by simp only; omega⟩,h.came,h.len⟩,rfl,rfl⟩
  ·split
   ·exact ⟨h,rfl,rfl⟩
   ·rename_i k hk
    obtain ⟨h1,h2⟩:=atM_some hk
    obtain ⟨a1,a2,a3,a4,a5,a6,a7,a8⟩:=stOk_iff.1 (h.st h1)
    have hg:=flowOk_iff.1 a8
    exact ⟨h.setSt h1 (stOk_iff.2 ⟨a1,a2,a3,a4,a5,a6,a7,flowOk_iff.2 ⟨hg.1,hg.2.1,by simp only; omega,by simp only; omega⟩⟩) rfl,by simp [setSt],rfl⟩
theorem waitM_w {N:Nat}:∀(l:List Fr) (e:En),EnW N e→EnW N (waitM e l).1∧(waitM e l).1.strs.length=e.strs.length∧(waitM e l).1.wait=e.wait
 | [],e,h=>⟨h,rfl,rfl⟩
 | f :: l,e,h=>by
  obtain ⟨r1,r2,r3⟩:=roomM_w h f
  obtain ⟨q1,q2,q3⟩:=waitM_w l _ r1
  exact ⟨q1,q2.trans r2,q3.trans r3⟩
theorem saysM_w {N:Nat}:∀(n k:Nat) (e:En),EnW N e→k+n≤e.strs.length→EnW N (saysM n k e).1∧(saysM n k e).1.strs.length=e.strs.length
 | 0,k,e,h,hk=>⟨h,rfl⟩
 | n+1,k,e,h,hk=>by
  obtain ⟨r1,r2⟩:=sayM_w h (k:=k) (by omega)
  obtain ⟨q1,q2⟩:=saysM_w n (k+1) _ r1 (by omega)
  exact ⟨q1,q2.trans r2⟩
theorem EnW.noWait {N:Nat} {e:En} (h:EnW N e):EnW 0 { e with wait:=[] }:=⟨h.sts,by simp,h.out,h.inn,h.flow,h.came,by simp⟩
theorem writeM_w {N:Nat} {e:En} (h:EnW N e):EnW 0 (writeM e).1:=by
 obtain ⟨r1,r2,_⟩:=waitM_w e.wait e h
 exact (saysM_w e.strs.length 0 _ r1.noWait (by simp [r2])).1
theorem up_sign:∀n,n < 256→0≤signAt (by8 n)→0≤signAt (if 97≤n∧n < 122 then by8 (n+1) else by8 n):=by decide
theorem upM_ok {t:List UInt8} (h:wordOk t=true):wordOk (upM t)=true:=by
 obtain ⟨h1,h2⟩:=wordOk_iff.1 h
 rw [wordOk_iff]
 refine ⟨fun c hc=>?_,by simpa [upM] using h2⟩
 obtain ⟨b,hb,rfl⟩:=List.mem_map.1 hc
 have e:by8 b.toNat=b:=by
  apply UInt8.toNat_inj.1
  rw [by8_toNat (UInt8.toNat_lt b)]
 have:=up_sign b.toNat (UInt8.toNat_lt b) (by rw [e]; exact h1 b hb)
 rwa [e] at this
theorem answerM_ok {path text:List UInt8} (h:wordOk text=true):wordOk (answerM path text).1=true∧wordOk (answerM path text).2=true:=by
 obtain ⟨_,_,_,_,_,_,c0,c12⟩:=word_consts
 have hl:=(wordOk_iff.1 h).2
 unfold answerM
 split
 ·exact ⟨c0,h⟩
 ·split
  ·exact ⟨c0,upM_ok h⟩
  ·split
   ·exact ⟨c0,(decM_ok (by omega)).1⟩
   ·exact ⟨c12,rfl⟩
theorem askM_ok {s:St} (h:stOk s=true):stOk (askM s)=true∧(askM s).id=s.id:=by
 obtain ⟨a1,a2,a3,a4,a5,a6,a7,a8⟩:=stOk_iff.1 h
 obtain ⟨_,_,c2,c3,_,c5,_⟩:=word_consts
 obtain ⟨w1,w2⟩:=answerM_ok (path:=(getM s.got sPath).1) a6
 refine ⟨stOk_iff.2 ⟨a1,a2,?_,a4,w2,a6,⟨Int.le_refl _,by show (0:Int)≤((answerM _ _).2.length:Nat); omega⟩,a8⟩,rfl⟩
 rw [headOk_iff]
 refine ⟨fun f hf=>?_,by simp [askM]⟩
 simp only [askM,List.mem_cons,List.not_mem_nil,or_false] at hf
 rcases hf with rfl | rfl
 ·exact fieldOk_iff.2 ⟨c5,w1,by simp [sStatus]⟩
 ·exact fieldOk_iff.2 ⟨c2,c3,by simp [sKind]⟩
theorem doneM_ok {ans:Bool} {s:St} (h:stOk s=true):stOk (doneM ans s)=true∧(doneM ans s).id=s.id:=by
 obtain ⟨a1,a2,a3,a4,a5,a6,a7,a8⟩:=stOk_iff.1 h
 have hh:stOk { s with heard:=true }=true:=stOk_iff.2 ⟨a1,a2,a3,a4,a5,a6,a7,a8⟩
 unfold doneM
 split
 ·exact ⟨hh,rfl⟩
 ·split
  ·exact askM_ok hh
  ·exact ⟨stOk_iff.2 ⟨a1,⟨by simp,by simp⟩,a3,a4,a5,a6,a7,a8⟩,rfl⟩
theorem EnW.bad {N:Nat} {e:En} (h:EnW N e):EnW N (badM e):=⟨h.sts,h.wait,h.out,h.inn,h.flow,h.came,h.len⟩
theorem growM_w {N:Nat} {e:En} (h:EnW N e) {id:Int} (hid:strmOk id=true):EnW N (growM e id):=by
 unfold growM
 split
 ·rename_i hc
  exact ⟨stsOk_app h.sts (newSt_ok hid) hc.2.2 (.inl hc.2.1),h.wait,h.out,h.inn,h.flow,h.came,h.len⟩
 ·exact h
theorem growM_same (e:En) (id:Int):(growM e id).inn=e.inn∧(growM e id).innM=e.innM∧(growM e id).ans=e.ans∧(growM e id).wait=e.wait:=by
 unfold growM
 split <;> exact ⟨rfl,rfl,rfl,rfl⟩
theorem headFM_w {N:Nat} {e:En} (h:EnW N e) {f:Fr} (hid:strmOk f.stream=true) (hb:f.body.length≤1000):EnW N (headFM e f):=by
 unfold headFM
 have hg:=growM_w h hid
 obtain ⟨g1,g2,g3,g4⟩:=growM_same e f.stream
 simp only
 split
 ·rename_i t hd k hr hk
  split
  ·exact hg.bad
  ·obtain ⟨h1,h2⟩:=atM_some hk
   obtain ⟨x1,x2,x3⟩:=headR_good _ _ _ _ _ _ _ h.inn (by omega) (by omega) hr
   have hs:stOk { stAt (growM e f.stream) k with got:=hd }=true:=by
    obtain ⟨a1,a2,a3,a4,a5,a6,a7,a8⟩:=stOk_iff.1 (hg.st h1)
    exact stOk_iff.2 ⟨a1,a2,a3,headOk_iff.2 ⟨x2,by simp only; omega⟩,a5,a6,a7,a8⟩
   have hw:EnW N { growM e f.stream with inn:=t }:=⟨hg.sts,hg.wait,hg.out,by rw [show ({ growM e f.stream with inn:=t }:En).innM=e.innM from g2]; exact x1,hg.flow,hg.came,hg.len⟩
   refine hw.setSt h1 ?_ ?_
   ·split
    ·exact (doneM_ok hs).1
    ·exact hs
   ·split
    ·exact (doneM_ok hs).2
    ·rfl
 ·exact hg.bad
theorem more_ok {id:Int} (h:id=0∨strmOk id=true) {n:Nat} (hn:1≤n∧n≤31):frameOk ⟨8,false,id,[by8 n]⟩=true:=by
 have e:byteAt [by8 n] 0=n:=by8_toNat (by omega)
 simp only [frameOk,e]
 rcases h with rfl | h
 ·simp; omega
 ·simp [h]; omega
theorem dataM_w {N:Nat} {e:En} (h:EnW N e) {f:Fr}:EnW (N+2) (dataM e f):=by
 unfold dataM
 split
 ·exact h.bad.mono (by omega)
 ·rename_i k hk
  obtain ⟨h1,h2⟩:=atM_some hk
  simp only
  split
  ·exact h.bad.mono (by omega)
  ·rename_i hc
   have c1:¬(f.body.length:Int) > e.room:=fun q=>hc (.inr (.inr (.inl q)))
   have c2:¬(f.body.length:Int) > (stAt e k).room:=fun q=>hc (.inr (.inr (.inr (.inl q))))
   have c3:wordOk ((stAt e k).text++f.body)=true:=by simpa using fun q=>hc (.inr (.inr (.inr (.inr q))))
   have hf:=flowOk_iff.1 h.flow
   obtain ⟨a1,a2,a3,a4,a5,a6,a7,a8⟩:=stOk_iff.1 (h.st h1)
   have hg:=flowOk_iff.1 a8
   have hs:stOk { stAt e k with text:=(stAt e k).text++f.body,room:=(stAt e k).room - f.body.length }=true :=
    stOk_iff.2 ⟨a1,a2,a3,a4,a5,c3,a7,flowOk_iff.2 ⟨hg.1,hg.2.1,by simp only; omega,by simp only; omega⟩⟩
   have hw:EnW (N+2) { e with room:=e.room - f.body.length,wait:=if f.body=[] then e.wait else e.wait++[⟨8,false,0,[by8 f.body.length]⟩,⟨8,false,(stAt e k).id,[by8 f.body.length]⟩] }:=by
    refine ⟨h.sts,fun g hgm=>?_,h.out,h.inn,flowOk_iff.2 ⟨hf.1,hf.2.1,by simp only; omega,by simp only; omega⟩,h.came,?_⟩
    ·simp only at hgm
     split at hgm
     ·exact h.wait g hgm
     ·rename_i hne
      have hpos:=List.length_pos_iff.2 hne
      rcases List.mem_append.1 hgm with q | q
      ·exact h.wait g q
      ·simp only [List.mem_cons,List.not_mem_nil,or_false] at q
       rcases q with rfl | rfl
       ·exact more_ok (.inl rfl) (by omega)
       ·exact more_ok (.inr a1) (by omega)
    ·have:=h.len
     simp only
     split
     ·omega
     ·rw [List.length_append]; simp; omega
   refine hw.setSt h1 ?_ ?_
   ·split
    ·exact (doneM_ok hs).1
    ·exact hs
   ·split
    ·exact (doneM_ok hs).2
    ·rfl
theorem moreM_w {N:Nat} {e:En} (h:EnW N e) {f:Fr}:EnW N (moreM e f):=by
 unfold moreM
 have hf:=flowOk_iff.1 h.flow
 split
 ·exact ⟨h.sts,h.wait,h.out,h.inn,flowOk_iff.2 ⟨by simp only; omega,by simp only; omega,hf.2.2.1,hf.2.2.2⟩,h.came,h.len⟩
 ·split
  ·exact h.bad
  ·rename_i k hk
   obtain ⟨h1,h2⟩:=atM_some hk
   obtain ⟨a1,a2,a3,a4,a5,a6,a7,a8⟩:=stOk_iff.1 (h.st h1)
   have hg:=flowOk_iff.1 a8
   have hw:EnW N { e with bad:=e.bad || decide ((stAt e k).send+byteAt f.body 0 > 31) }:=⟨h.sts,h.wait,h.out,h.inn,h.flow,h.came,h.len⟩
   exact hw.setSt h1 (stOk_iff.2 ⟨a1,a2,a3,a4,a5,a6,a7,flowOk_iff.2 ⟨by simp only; omega,by simp only; omega,hg.2.2.1,hg.2.2.2⟩⟩) rfl
theorem frameM_w {N:Nat} {e:En} (h:EnW N e) {f:Fr} (hf:frameOk f=true):EnW (N+2) (frameM e f):=by
 unfold frameM
 split
 ·rename_i h1
  unfold frameOk at hf
  rw [if_pos (.inr h1)] at hf
  simp only [Bool.and_eq_true,decide_eq_true_eq] at hf
  exact (headFM_w h hf.1 (by omega)).mono (by omega)
 ·split
  ·exact dataM_w h
  ·split
   ·exact (moreM_w h).mono (by omega)
   ·split
    ·exact h.bad.mono (by omega)
    ·rename_i k hk
     obtain ⟨h1,h2⟩:=atM_some hk
     split
     ·exact h.bad.mono (by omega)
     ·obtain ⟨a1,a2,a3,a4,a5,a6,a7,a8⟩:=stOk_iff.1 (h.st h1)
      have hw:=h.setSt (s:={ stAt e k with state:=3 }) h1 (stOk_iff.2 ⟨a1,⟨by simp,by simp⟩,a3,a4,a5,a6,a7,a8⟩) rfl
      exact hw.mono (by omega)
end
section
open Go
theorem frR_some {b:List UInt8} (h:0 < (frR b).2.2):frameOk (frR b).1=true∧4≤(frR b).2.1∧(frR b).2.1≤b.length∧(frR b).2.2=1:=by
 unfold frR at h ⊢
 split
 ·rename_i h1; rw [if_pos h1] at h; exact absurd h (by decide)
 ·rename_i h1
  rw [if_neg h1] at h
  split
  ·rename_i h2; rw [if_pos h2] at h; exact absurd h (by decide)
  ·rename_i h2
   rw [if_neg h2] at h
   split
   ·rename_i h3; rw [if_pos h3] at h; exact absurd h (by decide)
   ·rename_i h3
    rw [if_neg h3] at h
    split
    ·rename_i h4
     exact ⟨h4,by simp only; omega,by simp only; omega,rfl⟩
    ·rename_i h4; rw [if_neg h4] at h; exact absurd h (by decide)
theorem EnW.withCame {N:Nat} {e:En} (h:EnW N e) {c:List UInt8} (hc:c.length≤600):EnW N { e with came:=c }:=⟨h.sts,h.wait,h.out,h.inn,h.flow,hc,h.len⟩
theorem hearsM_w:∀(n N:Nat) (e:En),EnW N e→EnW (N+2 * n) (hearsM n e)
 | 0,N,e,h=>h
 | n+1,N,e,h=>by
  rw [hearsM]
  split
  ·exact h.mono (by omega)
  ·simp only
   split
   ·exact h.bad.mono (by omega)
   ·split
    ·exact h.mono (by omega)
    ·rename_i h1 h2
     obtain ⟨r1,r2,r3,r4⟩:=frR_some (b:=e.came) (by omega)
     have hc:=h.came
     have hw:=frameM_w (h.withCame (c:=e.came.drop (frR e.came).2.1) (by rw [List.length_drop]; omega)) r1
     exact (hearsM_w n (N+2) _ hw).mono (by omega)
theorem hearM_w {N:Nat} {e:En} (h:EnW N e) {b:List UInt8} (hb:e.came.length+b.length≤300):EnW (N+602) (hearM e b):=by
 have hw:=hearsM_w (e.came.length+b.length+1) N _ (h.withCame (c:=e.came++b) (by rw [List.length_append]; omega))
 exact hw.mono (by omega)
theorem frameM_came (e:En) (f:Fr):(frameM e f).came=e.came:=by
 have hg:(growM e f.stream).came=e.came:=by unfold growM; split <;> rfl
 unfold frameM
 split
 ·unfold headFM
  simp only
  split
  ·split
   ·exact hg
   ·exact hg
  ·exact hg
 ·split
  ·unfold dataM
   split
   ·rfl
   ·simp only
    split <;> rfl
  ·split
   ·unfold moreM
    split
    ·rfl
    ·split <;> rfl
   ·split
    ·rfl
    ·split <;> rfl
theorem frameM_ans (e:En) (f:Fr):(frameM e f).ans=e.ans:=by
 have hg:(growM e f.stream).ans=e.ans:=by unfold growM; split <;> rfl
 unfold frameM
 split
 ·unfold headFM
  simp only
  split
  ·split
   ·exact hg
   ·exact hg
  ·exact hg
 ·split
  ·unfold dataM
   split
   ·rfl
   ·simp only
    split <;> rfl
  ·split
   ·unfold moreM
    split
    ·rfl
    ·split <;> rfl
   ·split
    ·rfl
    ·split <;> rfl
theorem hearsM_ans:∀(n:Nat) (e:En),(hearsM n e).ans=e.ans
 | 0,e=>rfl
 | n+1,e=>by
  rw [hearsM]
  split
  ·rfl
  ·simp only
   split
   ·rfl
   ·split
    ·rfl
    ·rw [hearsM_ans n,frameM_ans]
theorem hearM_ans (e:En) (b:List UInt8):(hearM e b).ans=e.ans:=hearsM_ans _ _
theorem callM_ans (e:En) (p t:List UInt8):(callM e p t).1.ans=e.ans:=by unfold callM; split <;> rfl
theorem leaveM_ans (e:En) (id:Int):(leaveM e id).1.ans=e.ans:=by
 unfold leaveM
 split
 ·rfl
 ·split <;> rfl
theorem beginM_ans (e:En) (s:St):(beginM e s).1.ans=e.ans:=by unfold beginM; split <;> rfl
theorem pieceM_ans (e:En) (s:St):(pieceM e s).1.ans=e.ans:=by unfold pieceM; split <;> rfl
theorem sayM_ans (e:En) (k:Nat):(sayM e k).1.ans=e.ans:=by
 unfold sayM
 simp only
 split
 ·rfl
 ·exact (pieceM_ans _ _).trans (beginM_ans _ _)
theorem saysM_ans:∀(n k:Nat) (e:En),(saysM n k e).1.ans=e.ans
 | 0,k,e=>rfl
 | n+1,k,e=>(saysM_ans n (k+1) _).trans (sayM_ans e k)
theorem roomM_ans (e:En) (f:Fr):(roomM e f).ans=e.ans:=by
 unfold roomM
 split
 ·rfl
 ·split
  ·rfl
  ·split <;> rfl
theorem waitM_ans:∀(l:List Fr) (e:En),(waitM e l).1.ans=e.ans
 | [],e=>rfl
 | f :: l,e=>(waitM_ans l _).trans (roomM_ans e f)
theorem writeM_ans (e:En):(writeM e).1.ans=e.ans:=(saysM_ans _ _ _).trans (waitM_ans e.wait e)
structure WoW (N:Nat) (w:Wo):Prop where
 caller:EnW N w.caller
 answerer:EnW N w.answerer
 calls:w.caller.ans=false
 answers:w.answerer.ans=true
 up:w.up.length≤800
 down:w.down.length≤800
theorem WoW.mono {N M:Nat} {w:Wo} (h:WoW N w) (hm:N≤M):WoW M w:=⟨h.caller.mono hm,h.answerer.mono hm,h.calls,h.answers,h.up,h.down⟩
theorem woOk_iff {w:Wo}:woOk w=true↔WoW 60 w:=by
 simp only [woOk,Bool.and_eq_true,decide_eq_true_eq,Bool.not_eq_true',endOk_iff]
 constructor
 ·rintro ⟨⟨⟨⟨⟨h1,h2⟩,h3⟩,h4⟩,h5⟩,h6⟩; exact ⟨h1,h2,h3,h4,h5,h6⟩
 ·rintro ⟨h1,h2,h3,h4,h5,h6⟩; exact ⟨⟨⟨⟨⟨h1,h2⟩,h3⟩,h4⟩,h5⟩,h6⟩
theorem newEn_w (a:Bool):EnW 0 (newEn a):=⟨rfl,by simp [newEn],rfl,rfl,rfl,by simp [newEn],by simp [newEn]⟩
theorem newWo_w:WoW 0 newWo:=⟨newEn_w _,newEn_w _,rfl,rfl,by simp [newWo],by simp [newWo]⟩
theorem hearWM_w {N:Nat} {e:En} (h:EnW N e) (hN:642≤N) (b:List UInt8):EnW N (hearWM e b)∧(hearWM e b).ans=e.ans:=by
 unfold hearWM
 split
 ·exact ⟨h,rfl⟩
 ·rename_i hc
  have h1:¬e.came.length+b.length > 300:=fun q=>hc (.inr (.inl q))
  have h2:¬e.wait.length > 40:=fun q=>hc (.inr (.inr q))
  have h40:EnW 40 e:=⟨h.sts,h.wait,h.out,h.inn,h.flow,h.came,by omega⟩
  exact ⟨(hearM_w h40 (by omega)).mono (by omega),hearM_ans e b⟩
theorem sayWM_w {N:Nat} {w:Wo} (h:WoW N w) (side:Int):WoW N (sayWM w side):=by
 unfold sayWM
 split
 ·split
  ·rename_i hc
   exact ⟨(writeM_w h.caller).mono (by omega),h.answerer,(writeM_ans _).trans h.calls,h.answers,by rw [List.length_append]; exact hc.2,h.down⟩
  ·exact h
 ·split
  ·split
   ·rename_i hc
    exact ⟨h.caller,(writeM_w h.answerer).mono (by omega),h.calls,(writeM_ans _).trans h.answers,h.up,by rw [List.length_append]; exact hc.2⟩
   ·exact h
  ·exact h
theorem passM_w {N:Nat} {w:Wo} (h:WoW N w) (hN:642≤N) (way n:Int):WoW N (passM w way n):=by
 unfold passM
 split
 ·split
  ·obtain ⟨a1,a2⟩:=hearWM_w h.answerer hN (w.up.take n.toNat)
   exact ⟨h.caller,a1,h.calls,a2.trans h.answers,by have:=h.up; simp; omega,h.down⟩
  ·split
   ·obtain ⟨a1,a2⟩:=hearWM_w h.caller hN (w.down.take n.toNat)
    exact ⟨a1,h.answerer,a2.trans h.calls,h.answers,h.up,by have:=h.down; simp; omega⟩
   ·exact h
 ·exact h
theorem doM_w {N:Nat} {w:Wo} (h:WoW N w) (hN:642≤N) (v:Ev):WoW (N+1) (doM w v):=by
 unfold doM
 split
 ·exact ⟨(callM_w h.caller _ _).mono (by omega),h.answerer.mono (by omega),(callM_ans _ _ _).trans h.calls,h.answers,h.up,h.down⟩
 ·split
  ·exact ⟨leaveM_w h.caller _,h.answerer.mono (by omega),(leaveM_ans _ _).trans h.calls,h.answers,h.up,h.down⟩
  ·split
   ·exact (sayWM_w h _).mono (by omega)
   ·split
    ·exact (passM_w h hN _ _).mono (by omega)
    ·exact h.mono (by omega)
end
section
open Go
theorem l12Stream_ok (n:Int) (S:List Blk):VCall Tryz.prog 97 [.int .i64 n] S fun r S'=>r=.bool (strmOk n)∧S'=S:=by
 refine VCall.en hD Tryz.func97 Tryz.ntmps97 Tryz.results97 ?_
 by_cases h:1≤n∧n≤7
 ·simp -implicitDefEqProofs (disch:=omega) only [push_cast,simprocAttr,↓gd]
  refine (l6In_t h S).to ?_
  simp -implicitDefEqProofs (disch:=omega) only [push_cast,simprocAttr,↓gd]
  exact fin0 (by simp [strmOk,h])
 ·simp -implicitDefEqProofs (disch:=omega) only [push_cast,simprocAttr,↓gd]
  refine (l6In_f h S).to ?_
  simp -implicitDefEqProofs (disch:=omega) only [push_cast,simprocAttr,↓gd]
  exact fin0 (by simp [strmOk]; omega)
theorem isStream_ok (n:Int) (S:List Blk):VCall Tryz.prog 57 [.int .i64 n] S fun r S'=>r=.bool (strmOk n)∧S'=S:=by
 refine VCall.en hD Tryz.func57 Tryz.ntmps57 Tryz.results57 ?_
 by_cases h:1≤n∧n≤7
 ·simp -implicitDefEqProofs (disch:=omega) only [push_cast,simprocAttr,↓gd]
  refine (in_t h S).to ?_
  simp -implicitDefEqProofs (disch:=omega) only [push_cast,simprocAttr,↓gd]
  exact fin0 (by simp [strmOk,h])
 ·simp -implicitDefEqProofs (disch:=omega) only [push_cast,simprocAttr,↓gd]
  refine (in_f h S).to ?_
  simp -implicitDefEqProofs (disch:=omega) only [push_cast,simprocAttr,↓gd]
  exact fin0 (by simp [strmOk]; omega)
theorem FlowOk_ok (s r:Int) (S:List Blk):VCall Tryz.prog 61 [.agg [.int .i64 s,.int .i64 r]] S fun x S'=>x=.bool (flowOk s r)∧S'=S:=by
 refine VCall.en hD Tryz.func61 Tryz.ntmps61 Tryz.results61 ?_
 by_cases h:0≤s∧s≤31
 ·simp -implicitDefEqProofs (disch:=omega) only [push_cast,simprocAttr,↓gd]
  refine (in_t h _).to ?_
  simp -implicitDefEqProofs (disch:=omega) only [push_cast,simprocAttr,↓gd]
  refine (in_ok r 0 31 _).to ?_
  simp -implicitDefEqProofs (disch:=omega) only [push_cast,simprocAttr,↓gd]
  exact fin1 (.bool _) (by simp [flowOk,h])
 ·simp -implicitDefEqProofs (disch:=omega) only [push_cast,simprocAttr,↓gd]
  refine (in_f h _).to ?_
  simp -implicitDefEqProofs (disch:=omega) only [push_cast,simprocAttr,↓gd]
  exact fin1 (.bool _) (by simp [flowOk]; omega)
theorem sFrameOk_ok (f:Fr) (S:List Blk):VCall Tryz.prog 49 [frV f] S fun r S'=>r=.bool (frameOk f)∧S'=S:=by
 obtain ⟨k,l,s,b⟩:=f
 refine VCall.en hD Tryz.func49 Tryz.ntmps49 Tryz.results49 ?_
 by_cases k0:k=0
 ·subst k0
  simp -implicitDefEqProofs (disch:=omega) only [push_cast,simprocAttr,↓gd]
  refine (l12Stream_ok s _).to ?_
  cases hs:strmOk s
  ·simp -implicitDefEqProofs (disch:=omega) only [push_cast,simprocAttr,↓gd]
   exact fin1 (.bool _) (by simp [frameOk,hs])
  ·simp -implicitDefEqProofs (disch:=omega) only [push_cast,simprocAttr,↓gd]
   exact fin1 (.bool _) (by simp [frameOk,hs]; try omega)
 by_cases k1:k=1
 ·subst k1
  simp -implicitDefEqProofs (disch:=omega) only [push_cast,simprocAttr,↓gd]
  refine (l12Stream_ok s _).to ?_
  cases hs:strmOk s
  ·simp -implicitDefEqProofs (disch:=omega) only [push_cast,simprocAttr,↓gd]
   exact fin1 (.bool _) (by simp [frameOk,hs])
  ·simp -implicitDefEqProofs (disch:=omega) only [push_cast,simprocAttr,↓gd]
   exact fin1 (.bool _) (by simp [frameOk,hs]; try omega)
 by_cases k3:k=3
 ·subst k3
  simp -implicitDefEqProofs (disch:=omega) only [push_cast,simprocAttr,↓gd]
  refine (l12Stream_ok s _).to ?_
  cases hs:strmOk s
  ·simp -implicitDefEqProofs (disch:=omega) only [push_cast,simprocAttr,↓gd]
   exact fin1 (.bool _) (by simp [frameOk,hs])
  ·cases l
   ·simp -implicitDefEqProofs (disch:=omega) only [push_cast,simprocAttr,↓gd]
    exact fin1 (.bool _) (by simp [frameOk,hs])
   ·simp -implicitDefEqProofs (disch:=omega) only [push_cast,simprocAttr,↓gd]
    exact fin1 (.bool _) (by simp [frameOk,hs])
 by_cases k8:k=8
 ·subst k8
  have fin:∀X:List Blk,(s=0∨strmOk s=true)→l=false→b.length=1→∃r S2,Wk S (.bool (decide ((1:Int)≤((b.getD 0 0).toNat:Nat)) && decide (((b.getD 0 0).toNat:Int)≤31))) (S++X) r S2∧r=.bool (frameOk ⟨8,l,s,b⟩)∧S2=S:=by
   intro X h1 h2 h3
   refine fin1 (.bool _) ?_
   subst h2
   have e:(decide (s=0) || strmOk s)=true:=by simpa using h1
   have e2:frameOk ⟨8,false,s,b⟩=(decide (1≤(b.getD 0 0).toNat) && decide ((b.getD 0 0).toNat≤31)):=by
    simp only [frameOk]
    rw [if_neg (by decide),if_neg (by decide),if_pos trivial,e,h3]
    simp [byteAt]
   rw [e2]
   have e3:decide ((1:Int)≤((b.getD 0 0).toNat:Nat))=decide (1≤(b.getD 0 0).toNat):=decide_eq_decide.2 (by omega)
   have e4:decide (((b.getD 0 0).toNat:Int)≤31)=decide ((b.getD 0 0).toNat≤31):=decide_eq_decide.2 (by omega)
   rw [e3,e4]
  have hbt:=UInt8.toNat_lt (b.getD 0 0)
  by_cases hs0:s=0
  ·subst hs0
   cases l
   ·by_cases hb1:b.length=1
    ·simp -implicitDefEqProofs (disch:=omega) only [push_cast,simprocAttr,hb1,↓gd]
     refine (l6In_ok _ 1 31 _).to ?_
     simp -implicitDefEqProofs (disch:=omega) only [push_cast,simprocAttr,↓gd]
     exact fin _ (.inl rfl) rfl hb1
    ·have hb1':¬(b.length:Int)=1:=by omega
     simp -implicitDefEqProofs (disch:=omega) only [push_cast,simprocAttr,hb1',↓gd]
     exact fin1 (.bool _) (by simp [frameOk,hb1])
   ·simp -implicitDefEqProofs (disch:=omega) only [push_cast,simprocAttr,↓gd]
    exact fin1 (.bool _) (by simp [frameOk])
  ·simp -implicitDefEqProofs (disch:=omega) only [push_cast,simprocAttr,hs0,↓gd]
   refine (l12Stream_ok s _).to ?_
   cases hs:strmOk s
   ·simp -implicitDefEqProofs (disch:=omega) only [push_cast,simprocAttr,↓gd]
    exact fin1 (.bool _) (by simp [frameOk,hs,hs0])
   ·cases l
    ·by_cases hb1:b.length=1
     ·simp -implicitDefEqProofs (disch:=omega) only [push_cast,simprocAttr,hb1,↓gd]
      refine (l6In_ok _ 1 31 _).to ?_
      simp -implicitDefEqProofs (disch:=omega) only [push_cast,simprocAttr,↓gd]
      exact fin _ (.inr hs) rfl hb1
     ·have hb1':¬(b.length:Int)=1:=by omega
      simp -implicitDefEqProofs (disch:=omega) only [push_cast,simprocAttr,hb1',↓gd]
      exact fin1 (.bool _) (by simp [frameOk,hb1])
    ·simp -implicitDefEqProofs (disch:=omega) only [push_cast,simprocAttr,↓gd]
     exact fin1 (.bool _) (by simp [frameOk])
 ·simp -implicitDefEqProofs (disch:=omega) only [push_cast,simprocAttr,k0,k1,k3,k8,↓gd]
  exact fin1 (.bool _) (by simp [frameOk,k0,k1,k3,k8])
end
section
open Go
structure StB (s:St):Prop where
 head:FdsB s.head
 got:FdsB s.got
 say:s.say.length≤1100000
 text:s.text.length≤1100000
theorem headOk_b {h:List Fd} (hk:headOk h=true):FdsB h:=by
 obtain ⟨k1,k2⟩:=headOk_parts hk
 refine ⟨by omega,fun f hf=>?_⟩
 obtain ⟨_,_,_,q1,q2⟩:=fieldOk_parts (k1 f hf)
 exact ⟨by omega,by omega⟩
theorem tableOk_b {l:List Fd} {max:Int} (ht:tableOk l max=true):FdsB l:=by
 obtain ⟨t1,t2,t3,t4,t5⟩:=tableOk_parts ht
 refine ⟨by omega,fun f hf=>?_⟩
 obtain ⟨_,_,_,q1,q2⟩:=fieldOk_parts (t4 f hf).1
 exact ⟨by omega,by omega⟩
theorem stOk_b {s:St} (h:stOk s=true):StB s:=by
 obtain ⟨a1,a2,a3,a4,a5,a6,a7,a8⟩:=stOk_iff.1 h
 exact ⟨headOk_b a3,headOk_b a4,by have:=(wordOk_iff.1 a5).2; omega,by have:=(wordOk_iff.1 a6).2; omega⟩
theorem streamOk_ok (s:St) (hs:StB s) (hid:strmOk s.id=true) (S:List Blk):VCall Tryz.prog 58 [stV s] S fun r S'=>r=.bool (stOk s)∧S'=S:=by
 obtain ⟨b1,b2,b3,b4⟩:=hs
 refine VCall.en hD Tryz.func58 Tryz.ntmps58 Tryz.results58 ?_
 simp -implicitDefEqProofs (disch:=omega) only [push_cast,simprocAttr,↓gd]
 refine (in_ok s.state 1 3 _).to ?_
 cases h2:(decide (1≤s.state) && decide (s.state≤3))
 ·simp -implicitDefEqProofs (disch:=omega) only [push_cast,simprocAttr,↓gd]
  exact fin1 (.bool _) (by simp [stOk,h2])
 simp -implicitDefEqProofs (disch:=omega) only [push_cast,simprocAttr,↓gd]
 refine (HeadOk_ok s.head b1 _).to ?_
 cases h3:headOk s.head
 ·simp -implicitDefEqProofs (disch:=omega) only [push_cast,simprocAttr,↓gd]
  exact fin1 (.bool _) (by simp [stOk,h3])
 simp -implicitDefEqProofs (disch:=omega) only [push_cast,simprocAttr,↓gd]
 refine (HeadOk_ok s.got b2 _).to ?_
 cases h4:headOk s.got
 ·simp -implicitDefEqProofs (disch:=omega) only [push_cast,simprocAttr,↓gd]
  exact fin1 (.bool _) (by simp [stOk,h4])
 simp -implicitDefEqProofs (disch:=omega) only [push_cast,simprocAttr,↓gd]
 refine (WordOk_ok s.say (by omega) _).to ?_
 cases h5:wordOk s.say
 ·simp -implicitDefEqProofs (disch:=omega) only [push_cast,simprocAttr,↓gd]
  exact fin1 (.bool _) (by simp [stOk,h5])
 simp -implicitDefEqProofs (disch:=omega) only [push_cast,simprocAttr,↓gd]
 refine (WordOk_ok s.text (by omega) _).to ?_
 cases h6:wordOk s.text
 ·simp -implicitDefEqProofs (disch:=omega) only [push_cast,simprocAttr,↓gd]
  exact fin1 (.bool _) (by simp [stOk,h6])
 simp -implicitDefEqProofs (disch:=omega) only [push_cast,simprocAttr,↓gd]
 refine (in_ok s.sent 0 s.say.length _).to ?_
 cases h7:(decide (0≤s.sent) && decide (s.sent≤(s.say.length:Int)))
 ·simp -implicitDefEqProofs (disch:=omega) only [push_cast,simprocAttr,↓gd]
  exact fin1 (.bool _) (by simp [stOk,h7])
 simp -implicitDefEqProofs (disch:=omega) only [push_cast,simprocAttr,↓gd]
 refine (FlowOk_ok s.send s.room _).to ?_
 simp -implicitDefEqProofs (disch:=omega) only [push_cast,simprocAttr,↓gd]
 exact fin1 (.bool _) (by simp only [stOk,hid,h2,h3,h4,h5,h6,h7,Bool.true_and])
end
end Go.Proofs.YtaamlddnpamomaaGreatDoor
