/- A part of the proof: contracts of functions, or plain facts on which these lean. -/
import Derived.Test.YtaamlddnpamomaaGreatDoorMf33
import Derived.Test.YtaamlddnpamomaaGreatDoorMf34
import Derived.Test.YtaamlddnpamomaaGreatDoorMf35
import Derived.Test.YtaamlddnpamomaaGreatDoorMf38
namespace Go.Proofs.YtaamlddnpamomaaGreatDoor
open Go
set_option linter.unusedVariables false
set_option linter.unusedSimpArgs false
set_option maxRecDepth 100000
set_option maxHeartbeats 16000000

section
def newCall (i:Int) (path text:List UInt8):St:={ newSt i with head:=callHead path text,say:=text }
section
variable {c a:En} {fu fd:List Fr}
theorem J.call (h:J c a fu fd) (path text:List UInt8):J (callM c path text).1 a fu fd:=by
 have hW:=callM_w h.C.w path text
 have hL:=callM_loc h.cl path text
 revert hW hL
 unfold callM
 split
 ·intro _ _; exact h
 ·rename_i hc
  intro hW hL
  have h7:¬2 * (c.strs.length:Int)+1 > 7:=fun he=>hc (.inr (.inl he))
  have hids:∀j,Has c j→j < 2 * (c.strs.length:Int)+1:=fun j hj=>by
   obtain ⟨k,hk⟩:=hj
   obtain ⟨k1,k2⟩:=atM_some hk
   have:=(stsOk_iff.1 h.C.w.sts k k1).2.2
   rw [h.cans] at this
   rcases this with q | q
   ·cases q
   ·omega
  have hno:¬Has c (2 * (c.strs.length:Int)+1):=fun z=>absurd (hids _ z) (Int.lt_irrefl _)
  have hv:=app_view (e:=c) (newCall (2 * (c.strs.length:Int)+1) path text) rfl hno
  have hnew:=stOf_none hno
  generalize hi:2 * (c.strs.length:Int)+1=i at *
  have hids':({ c with strs:=c.strs++[newCall i path text] }:En).strs.map St.id=c.strs.map St.id++[i]:=by simp [newSt,newCall]
  have hhas:∀j,Has { c with strs:=c.strs++[newCall i path text] } j↔Has c j∨j=i:=fun j=>Ids.has (x:={ c with strs:=c.strs++[newCall i path text] }) (.inr ⟨hno,hids'⟩)
  have hsd:∀j,sd (stOf { c with strs:=c.strs++[newCall i path text] } j)=sd (stOf c j):=fun j=>by
   rw [hv]; split
   ·rename_i hji; subst hji; rw [hnew]; simp [sd,newSt,newCall]
   ·rfl
  have hrv:∀j,rv (stOf { c with strs:=c.strs++[newCall i path text] } j)=rv (stOf c j):=fun j=>by
   rw [hv]; split
   ·rename_i hji; subst hji; rw [hnew]; rfl
   ·rfl
  have hfl:∀j,(stOf { c with strs:=c.strs++[newCall i path text] } j).send=(stOf c j).send∧(stOf { c with strs:=c.strs++[newCall i path text] } j).room=(stOf c j).room:=fun j=>by
   rw [hv]; split
   ·rename_i hji; subst hji; rw [hnew]; exact ⟨rfl,rfl⟩
   ·exact ⟨rfl,rfl⟩
  have hL:Loc { c with strs:=c.strs++[newCall i path text] }:=hL
  have hW:EnW 36 { c with strs:=c.strs++[newCall i path text] }:=hW
  show J { c with strs:=c.strs++[newCall i path text] } a fu fd
  refine ⟨⟨⟨hW,h.C.nb,fun j=>?_,fun ha j hj=>?_,fun ha=>absurd (h.cans.symm.trans (show c.ans=true from ha)) (by decide),fun j hj=>?_,h.C.sum,h.C.waits⟩,h.A,h.cans,h.aans,⟨h.u.m,?_,fun j=>?_,fun j=>?_,h.u.flow,fun j hj=>?_,h.u.ok⟩,⟨h.d.m,h.d.tab,fun j=>?_,fun j=>?_,h.d.flow,fun j hj=>?_,h.d.ok⟩,h.has,h.kinds,h.noReset,h.ord,fun i' j hij hi' hj=>?_,fun j hj=>?_⟩,hL,h.al⟩
  ·rw [hv]; split
   ·exact ⟨fun _=>⟨rfl,rfl⟩,fun q=>(by cases q),fun _=>rfl⟩
   ·exact h.C.si j
  ·rw [hv]; split
   ·exact ⟨⟨path,rfl⟩,fun q=>(by cases q),fun q=>absurd (show (1:Int)=2 from q) (by decide)⟩
   ·rename_i hji
    exact h.C.sc ha j (((hhas j).1 hj).resolve_right hji)
  ·rw [(hfl j).2]; exact h.C.more j hj
  ·refine tabOn_congr (fun g hg hgk=>?_) h.u.tab
   show (stOf c g.stream).head=(stOf _ g.stream).head
   rw [hv]; split
   ·rename_i hji
    have hb:=h.u.begun (i:=g.stream) (f:=g) (by simp [hg]) rfl (.inr (.inl hgk))
    rw [hji] at hb
    exact absurd (begun_has hb) hno
   ·rfl
  ·rw [hsd]; exact h.u.run j
  ·rcases h.u.got j with z | z
   ·exact .inl z
   ·rw [hv]; split
    ·rename_i hji; subst hji
     rw [hnew] at z
     exact .inl z
    ·exact .inr z
  ·rw [(hfl j).1]; exact h.u.own j hj
  ·rw [hrv]; exact h.d.run j
  ·rw [hv]; split
   ·rename_i hji; subst hji; exact .inl rfl
   ·exact h.d.got j
  ·rw [(hfl j).2]; exact h.d.own j hj
  ·have hj':(stOf c j).begun=true:=by
    have:=congrArg Rv.g (hsd j)
    exact this.symm.trans hj
   have hlt:=hids j (begun_has hj')
   have hi'':i'≠i:=by omega
   rw [hv,if_neg (show ¬i'=(newCall i path text).id from hi'')]
   exact h.beg i' j hij (((hhas i').1 hi').resolve_right hi'') hj'
  ·have z:=h.gone j hj
   rw [hv]; split
   ·rename_i hji
    have hji:j=i:=hji
    subst hji; rw [hnew] at z; exact absurd (show (1:Int)=3 from z) (by decide)
   ·exact z
theorem J.leave (h:J c a fu fd) (id:Int):J (leaveM c id).1 a fu fd:=by
 have hL:=leaveM_loc h.cl id
 have hW:=hL.w (leaveM_w h.C.w id)
 revert hW hL
 unfold leaveM
 split
 ·intro _ _; exact h
 ·rename_i k hk
  have hid:(stAt c k).id=id:=(atM_some hk).2
  have hof:=stOf_some hk
  split
  ·intro _ _; exact h
  ·rename_i hc
   have hst:(stAt c k).state=1:=by simpa using fun q=>hc (.inr q)
   intro hL hW
   have hv:=setSt_view (e:={ c with wait:=if (stAt c k).begun then c.wait++[⟨3,false,id,[]⟩] else c.wait }) (s:=(stAt c k).withState 3) hk hid
   have hwt:∃w,(if (stAt c k).begun then c.wait++[⟨3,false,id,[]⟩] else c.wait)=c.wait++w∧∀g ∈ w,g=⟨3,false,id,[]⟩∧(stOf c id).begun=true:=by
    by_cases hb:(stAt c k).begun=true
    ·rw [if_pos hb]; exact ⟨_,rfl,fun g hg=>⟨List.mem_singleton.1 hg,by rw [hof]; exact hb⟩⟩
    ·rw [if_neg hb]; exact ⟨[],by simp,fun g hg=>by cases hg⟩
   obtain ⟨w,hw,hwm⟩:=hwt
   rw [hw] at hL hW hv ⊢
   have hids:=hv.2
   have hvj:∀j,∃s',stOf (setSt { c with wait:=c.wait++w } k ((stAt c k).withState 3)) j=(stOf c j).withState s'∧(s'=(stOf c j).state∨s'=3):=fun j=>by
    rw [hv.1]; split
    ·rename_i hji; subst hji; rw [hof]; exact ⟨3,rfl,.inr rfl⟩
    ·exact ⟨(stOf c j).state,rfl,.inl rfl⟩
   have hhas:∀j,Has (setSt { c with wait:=c.wait++w } k ((stAt c k).withState 3)) j↔Has c j:=fun j=>Has.of_eq (e:=c) hids
   have hmor:∀j,mor j w=0:=fun j=>mor_none (fun g hg=>by rw [(hwm g hg).1]; exact (show ¬((3:Int)=8) by decide))
   have hrun:∀j x,(x.g=(stOf c j).begun)→run j x w=some x:=fun j x hx=>by
    have:∀l:List Fr,(∀g ∈ l,g=⟨3,false,id,[]⟩∧(stOf c id).begun=true)→run j x l=some x:=fun l=>by
     induction l with
     | nil=>intro _; rfl
     | cons g l ih =>
      intro hg
      obtain ⟨e1,e2⟩:=hg g (by simp)
      have:adv j x g=some x:=by
       subst e1
       unfold adv
       split
       ·rfl
       ·rename_i hji
        have hji:id=j:=by simpa using hji
        subst hji
        rw [if_neg (show ¬((3:Int)=1) by decide),if_neg (show ¬((3:Int)=0) by decide),if_pos rfl,if_pos (hx.trans e2)]
      simp only [run,this]
      exact ih (fun g hg'=>hg g (by simp [hg']))
    exact this w hwm
   have hL:Loc (setSt { c with wait:=c.wait++w } k ((stAt c k).withState 3)):=hL
   have hW:EnW 36 (setSt { c with wait:=c.wait++w } k ((stAt c k).withState 3)):=hW
   show J (setSt { c with wait:=c.wait++w } k ((stAt c k).withState 3)) a fu fd
   refine ⟨⟨⟨hW,h.C.nb,fun j=>?_,fun ha j hj=>?_,fun ha=>absurd (h.cans.symm.trans (show c.ans=true from ha)) (by decide),fun j hj=>?_,?_,fun g hg=>?_⟩,h.A,h.cans,h.aans,⟨h.u.m,?_,fun j=>?_,fun j=>?_,h.u.flow,fun j hj=>?_,h.u.ok⟩,⟨h.d.m,h.d.tab,fun j=>?_,fun j=>?_,h.d.flow,fun j hj=>?_,h.d.ok⟩,h.has,fun g hg h8=>?_,h.noReset,h.ord,fun i' j hij hi' hj=>?_,fun j hj=>?_⟩,hL,h.al⟩
   ·obtain ⟨s',e,_⟩:=hvj j
    rw [e]; exact ⟨(h.C.si j).not,(h.C.si j).beg,(h.C.si j).head⟩
   ·have hc:=h.C.sc ha j ((hhas j).1 hj)
    obtain ⟨s',e,hs⟩:=hvj j
    rw [e]
    refine ⟨hc.head,fun q=>?_,fun q=>?_⟩
    ·show s'≠1
     rcases hs with rfl | rfl
     ·exact hc.heard q
     ·decide
    ·rcases hs with rfl | rfl
     ·exact hc.done q
     ·exact absurd (show (3:Int)=2 from q) (by decide)
   ·obtain ⟨s',e,_⟩:=hvj j
    rw [e]
    show (stOf c j).room+(mor j (c.wait++w):Nat)=8
    rw [mor_app,hmor]; simpa using h.C.more j hj
   ·show c.room+(mor 0 (c.wait++w):Nat)=16
    rw [mor_app,hmor]; simpa using h.C.sum
   ·rcases List.mem_append.1 hg with z | z
    ·exact h.C.waits g z
    ·rw [(hwm g z).1]; exact .inr ⟨rfl,h.cans⟩
   ·refine tabOn_congr (fun g hg hgk=>?_) h.u.tab
    obtain ⟨s',e,_⟩:=hvj g.stream
    show (stOf c g.stream).head=(stOf _ g.stream).head
    rw [e]; rfl
   ·obtain ⟨s',e,_⟩:=hvj j
    rw [e]
    show run j (rv (stOf a j)) (fu++(c.wait++w))=some (sd (stOf c j))
    rw [←List.append_assoc,run_app,h.u.run j]
    exact hrun j _ rfl
   ·obtain ⟨s',e,_⟩:=hvj j
    rw [e]; exact h.u.got j
   ·obtain ⟨s',e,_⟩:=hvj j
    rw [e]; exact h.u.own j hj
   ·obtain ⟨s',e,_⟩:=hvj j
    rw [e]; exact h.d.run j
   ·obtain ⟨s',e,_⟩:=hvj j
    rw [e]; exact h.d.got j
   ·obtain ⟨s',e,_⟩:=hvj j
    rw [e]; exact h.d.own j hj
   ·have hg':(g ∈ fu∨g ∈ c.wait∨g ∈ fd∨g ∈ a.wait)∨g ∈ w:=by
     rcases hg with z | z | z | z
     ·exact .inl (.inl z)
     ·rcases List.mem_append.1 z with z | z
      ·exact .inl (.inr (.inl z))
      ·exact .inr z
     ·exact .inl (.inr (.inr (.inl z)))
     ·exact .inl (.inr (.inr (.inr z)))
    rcases hg' with z | z
    ·exact h.kinds g z h8
    ·rw [(hwm g z).1] at h8; cases h8
   ·obtain ⟨si,ei,hsi⟩:=hvj i'
    obtain ⟨sj,ej,hsj⟩:=hvj j
    rw [ej] at hj
    rw [ei]
    rcases h.beg i' j hij ((hhas i').1 hi') hj with z | z
    ·exact .inl z
    ·refine .inr ?_
     show si≠1
     rcases hsi with rfl | rfl
     ·exact z
     ·decide
   ·by_cases hji:j=id
    ·rw [hv.1,if_pos hji]; rfl
    ·have z:(stOf c j).state=3:=by
      refine h.gone j ?_
      rcases hj with z | ⟨g,z,k3,ki⟩
      ·exact .inl z
      ·refine .inr ⟨g,?_,k3,ki⟩
       rcases z with z | z
       ·exact .inl z
       ·rcases List.mem_append.1 z with z | z
        ·exact .inr z
        ·rw [(hwm g z).1] at ki; exact absurd ki.symm hji
     rw [hv.1,if_neg hji]; exact z
theorem frR_bytes {came rest:List UInt8} {fs:List Fr} (h:came++rest=bytes fs) (hok:∀f ∈ fs,frameOk f=true) :
  ((frR came).2.2=0∧came.length < 204∧∀f gs,fs=f :: gs→came.length < 4+f.body.length)∨∃f gs,fs=f :: gs∧frR came=(f,4+f.body.length,1)∧came.drop (4+f.body.length)++rest=bytes gs:=by
 by_cases h4:came.length < 4
 ·left; unfold frR; rw [if_pos h4]; exact ⟨rfl,by omega,fun _ _ _=>by omega⟩
 ·cases fs with
  | nil =>
   have:came.length=0:=by
    have:=congrArg List.length h
    simp [bytes] at this; simp [this.1]
   omega
  | cons f gs =>
   have hf:=hok f (by simp)
   have hb200:f.body.length≤200∧(f.kind=0∨f.kind=1∨f.kind=3∨f.kind=8)∧0≤f.stream∧f.stream≤7:=by
    have hk:=frame_cases hf
    have hs:f.stream=0∨strmOk f.stream=true:=by
     rcases hk with k | k | k | k
     ·exact .inr (strm_ne hf (.inl k))
     ·exact .inr (strm_ne hf (.inr (.inl k)))
     ·exact .inr (strm_ne hf (.inr (.inr k)))
     ·unfold frameOk at hf
      rw [if_neg (by rw [k]; decide),if_neg (by rw [k]; decide),if_pos k] at hf
      simp only [Bool.and_eq_true,Bool.or_eq_true,decide_eq_true_eq] at hf
      exact hf.1.1.1.1
    refine ⟨?_,hk,?_⟩
    ·unfold frameOk at hf
     rcases hk with k | k | k | k <;> rw [k] at hf <;> simp at hf
     ·exact hf.2
     ·exact hf.2
     ·rw [hf.2]; simp
     ·omega
    ·rcases hs with z | z
     ·omega
     ·rcases strmOk_cases z with z | z | z | z <;> omega
   obtain ⟨hb200,hk4,hs0,hs7⟩:=hb200
   rw [bytes_cons,frW] at h
   match came,h4,h with
   | [],h4,_=>simp at h4
   | [_],h4,_=>simp at h4
   | [_,_],h4,_=>simp at h4
   | [_,_,_],h4,_=>simp at h4
   | b0 :: b1 :: b2 :: b3 :: l,_,h =>
    simp only [List.cons_append,List.nil_append,List.cons.injEq] at h
    obtain ⟨e0,e1,e2,e3,h⟩:=h
    have t0:b0.toNat=f.body.length:=by rw [e0]; exact by8_toNat (by omega)
    have t1:(b1.toNat:Int)=f.kind:=by
     rw [e1,by8_toNat (by omega)]; omega
    have t2:b2.toNat=if f.last then 1 else 0:=by rw [e2]; split <;> rfl
    have t3:(b3.toNat:Int)=f.stream:=by rw [e3,by8_toNat (by omega)]; omega
    have a0:byteAt (b0 :: b1 :: b2 :: b3 :: l) 0=f.body.length:=t0
    have a1:((byteAt (b0 :: b1 :: b2 :: b3 :: l) 1:Nat):Int)=f.kind:=t1
    have a2:byteAt (b0 :: b1 :: b2 :: b3 :: l) 2=if f.last then 1 else 0:=t2
    have a3:((byteAt (b0 :: b1 :: b2 :: b3 :: l) 3:Nat):Int)=f.stream:=t3
    have h2:¬(f.body.length > 200∨(if f.last=true then 1 else 0:Nat) > 1):=by split <;> omega
    by_cases hl:l.length < f.body.length
    ·left
     refine ⟨?_,by simp; omega,fun g gs' e=>by cases e; simp; omega⟩
     unfold frR
     rw [if_neg (by simp),a0,a2,if_neg h2,if_pos (by simp; omega)]
    ·right
     have hlen:f.body.length≤l.length:=by omega
     have hbody:l.take f.body.length=f.body:=by
      have:=congrArg (List.take f.body.length) h
      rw [List.take_append_of_le_length hlen,List.take_left] at this
      exact this
     have hdrop:l.drop f.body.length++rest=bytes gs:=by
      have:=congrArg (List.drop f.body.length) h
      rw [List.drop_append_of_le_length hlen,List.drop_left] at this
      exact this
     have hfr:(⟨(byteAt (b0 :: b1 :: b2 :: b3 :: l) 1:Nat),decide (byteAt (b0 :: b1 :: b2 :: b3 :: l) 2=1),(byteAt (b0 :: b1 :: b2 :: b3 :: l) 3:Nat),((b0 :: b1 :: b2 :: b3 :: l).drop 4).take f.body.length⟩:Fr)=f:=by
      rw [a1,a2,a3]
      show (⟨f.kind,_,f.stream,l.take f.body.length⟩:Fr)=f
      rw [hbody]
      cases f with
      | mk k la s b=>cases la <;> rfl
     refine ⟨f,gs,rfl,?_,?_⟩
     ·unfold frR
      rw [if_neg (by simp),a0]
      simp only [hfr,hf,if_true]
      rw [a2,if_neg h2,if_neg (by simp; omega)]
     ·rw [show 4+f.body.length=f.body.length+4 by omega]
      exact hdrop
theorem J.cameUp {b:List UInt8} (h:J c a fu fd) (hb:b.length≤600):J c { a with came:=b } fu fd :=
 ⟨⟨h.C,⟨h.A.w.withCame hb,h.A.nb,h.A.si,h.A.sc,h.A.sa,h.A.more,h.A.sum,h.A.waits⟩,h.cans,h.aans,⟨h.u.m,h.u.tab,h.u.run,h.u.got,h.u.flow,h.u.own,h.u.ok⟩,⟨h.d.m,h.d.tab,h.d.run,h.d.got,h.d.flow,h.d.own,h.d.ok⟩,h.has,h.kinds,h.noReset,h.ord,h.beg,h.gone⟩,h.cl,⟨h.al.sum,h.al.len,h.al.four⟩⟩
theorem J.cameDown {b:List UInt8} (h:J c a fu fd) (hb:b.length≤600):J { c with came:=b } a fu fd :=
 ⟨⟨⟨h.C.w.withCame hb,h.C.nb,h.C.si,h.C.sc,h.C.sa,h.C.more,h.C.sum,h.C.waits⟩,h.A,h.cans,h.aans,⟨h.u.m,h.u.tab,h.u.run,h.u.got,h.u.flow,h.u.own,h.u.ok⟩,⟨h.d.m,h.d.tab,h.d.run,h.d.got,h.d.flow,h.d.own,h.d.ok⟩,h.has,h.kinds,h.noReset,h.ord,h.beg,h.gone⟩,⟨h.cl.sum,h.cl.len,h.cl.four⟩,h.al⟩
theorem J.hearsUp:∀(n:Nat) {c a:En} {fu fd:List Fr} (rest:List UInt8),J c a fu fd→a.came++rest=bytes fu→∃gs,J c (hearsM n a) gs fd∧(hearsM n a).came++rest=bytes gs
 | 0,c,a,fu,fd,rest,h,hb=>⟨fu,h,hb⟩
 | n+1,c,a,fu,fd,rest,h,hb=>by
  unfold hearsM
  rw [if_neg (by rw [h.A.nb]; decide)]
  simp only
  rcases frR_bytes hb h.u.ok with ⟨z,_⟩ | ⟨f,gs,rfl,e,hd⟩
  ·rw [if_neg (by omega),if_pos z]; exact ⟨fu,h,hb⟩
  ·rw [e]
   rw [if_neg (show ¬((1:Int) < 0) by decide),if_neg (show ¬((1:Int)=0) by decide)]
   simp only
   have h1:=(h.cameUp (b:=a.came.drop (4+f.body.length)) (by have:=h.A.w.came; rw [List.length_drop]; omega)).takeUp
   exact J.hearsUp n rest h1 (by rw [frameM_came]; exact hd)
theorem J.hearsDown:∀(n:Nat) {c a:En} {fu fd:List Fr} (rest:List UInt8),J c a fu fd→c.came++rest=bytes fd→∃gs,J (hearsM n c) a fu gs∧(hearsM n c).came++rest=bytes gs
 | 0,c,a,fu,fd,rest,h,hb=>⟨fd,h,hb⟩
 | n+1,c,a,fu,fd,rest,h,hb=>by
  unfold hearsM
  rw [if_neg (by rw [h.C.nb]; decide)]
  simp only
  rcases frR_bytes hb h.d.ok with ⟨z,_⟩ | ⟨f,gs,rfl,e,hd⟩
  ·rw [if_neg (by omega),if_pos z]; exact ⟨fd,h,hb⟩
  ·rw [e]
   rw [if_neg (show ¬((1:Int) < 0) by decide),if_neg (show ¬((1:Int)=0) by decide)]
   simp only
   have h1:=(h.cameDown (b:=c.came.drop (4+f.body.length)) (by have:=h.C.w.came; rw [List.length_drop]; omega)).takeDown
   exact J.hearsDown n rest h1 (by rw [frameM_came]; exact hd)
end
structure Syn (w:Wo) (fu fd:List Fr):Prop where
 j:J w.caller w.answerer fu fd
 up:w.answerer.came++w.up=bytes fu
 down:w.caller.came++w.down=bytes fd
theorem Inc.zero {e:En} (h:Inc e) (hb:e.bad=false):(frR e.came).2.2=0:=h.resolve_left (by rw [hb]; decide)
theorem Syn.short {w:Wo} {fu fd:List Fr} (h:Syn w fu fd) (hi:WoI w):w.answerer.came.length < 204∧w.caller.came.length < 204:=by
 constructor
 ·rcases frR_bytes h.up h.j.u.ok with ⟨_,z,_⟩ | ⟨f,gs,_,e,_⟩
  ·exact z
  ·have:=hi.answerer.zero h.j.A.nb
   rw [e] at this; cases this
 ·rcases frR_bytes h.down h.j.d.ok with ⟨_,z,_⟩ | ⟨f,gs,_,e,_⟩
  ·exact z
  ·have:=hi.caller.zero h.j.C.nb
   rw [e] at this; cases this
theorem Syn.passUp {w:Wo} {fu fd:List Fr} (h:Syn w fu fd) (hi:WoI w) {n:Nat} (hn:n≤90):hearWM w.answerer (w.up.take n)=hearM w.answerer (w.up.take n)∧∃gs,Syn { w with answerer:=hearM w.answerer (w.up.take n),up:=w.up.drop n } gs fd:=by
 have hs:=(h.short hi).1
 have hl:=h.j.A.w.len
 constructor
 ·unfold hearWM
  rw [if_neg]
  rintro (z | z | z)
  ·rw [h.j.A.nb] at z; cases z
  ·rw [List.length_take] at z; omega
  ·omega
 ·have hb:(w.answerer.came++w.up.take n)++w.up.drop n=bytes fu:=by rw [List.append_assoc,List.take_append_drop]; exact h.up
  obtain ⟨gs,g1,g2⟩:=J.hearsUp (w.answerer.came.length+(w.up.take n).length+1) (a:={ w.answerer with came:=w.answerer.came++w.up.take n }) _ (h.j.cameUp (by rw [List.length_append,List.length_take]; omega)) hb
  exact ⟨gs,⟨g1,g2,h.down⟩⟩
theorem Syn.passDown {w:Wo} {fu fd:List Fr} (h:Syn w fu fd) (hi:WoI w) {n:Nat} (hn:n≤90):hearWM w.caller (w.down.take n)=hearM w.caller (w.down.take n)∧∃gs,Syn { w with caller:=hearM w.caller (w.down.take n),down:=w.down.drop n } fu gs:=by
 have hs:=(h.short hi).2
 have hl:=h.j.C.w.len
 constructor
 ·unfold hearWM
  rw [if_neg]
  rintro (z | z | z)
  ·rw [h.j.C.nb] at z; cases z
  ·rw [List.length_take] at z; omega
  ·omega
 ·have hb:(w.caller.came++w.down.take n)++w.down.drop n=bytes fd:=by rw [List.append_assoc,List.take_append_drop]; exact h.down
  obtain ⟨gs,g1,g2⟩:=J.hearsDown (w.caller.came.length+(w.down.take n).length+1) (c:={ w.caller with came:=w.caller.came++w.down.take n }) _ (h.j.cameDown (by rw [List.length_append,List.length_take]; omega)) hb
  exact ⟨gs,⟨g1,h.up,g2⟩⟩
theorem Syn.step {w:Wo} {fu fd:List Fr} (h:Syn w fu fd) (hi:WoI w) (v:Ev):∃gu gd,Syn (doM w v) gu gd:=by
 unfold doM
 split
 ·exact ⟨fu,fd,h.j.call v.path v.text,h.up,by rw [(callM_cb _ _ _).1]; exact h.down⟩
 ·split
  ·exact ⟨fu,fd,h.j.leave v.a,h.up,by rw [(leaveM_cb _ _).1]; exact h.down⟩
  ·split
   ·unfold sayWM
    split
    ·split
     ·obtain ⟨fs,f1,f2⟩:=h.j.writeUp
      exact ⟨fu++fs,fd,f2,by rw [bytes_app,←h.up,←f1,List.append_assoc],by rw [(writeM_cb _).1]; exact h.down⟩
     ·exact ⟨fu,fd,h⟩
    ·split
     ·split
      ·obtain ⟨fs,f1,f2⟩:=h.j.writeDown
       exact ⟨fu,fd++fs,f2,by rw [(writeM_cb _).1]; exact h.up,by rw [bytes_app,←h.down,←f1,List.append_assoc]⟩
      ·exact ⟨fu,fd,h⟩
     ·exact ⟨fu,fd,h⟩
   ·split
    ·unfold passM
     split
     ·rename_i hn
      split
      ·obtain ⟨g1,gs,g2⟩:=h.passUp hi (n:=v.b.toNat) (by omega)
       exact ⟨gs,fd,by rw [g1]; exact g2⟩
      ·split
       ·obtain ⟨g1,gs,g2⟩:=h.passDown hi (n:=v.b.toNat) (by omega)
        exact ⟨fu,gs,by rw [g1]; exact g2⟩
       ·exact ⟨fu,fd,h⟩
     ·exact ⟨fu,fd,h⟩
    ·exact ⟨fu,fd,h⟩
theorem syn_new:Syn newWo [] []:=by
 have hh:∀x i,¬Has (newEn x) i:=fun x i ⟨k,hk⟩=>by cases hk
 have hs:∀x i,stOf (newEn x) i=newSt i:=fun x i=>stOf_none (hh x i)
 have hS:∀x,Sid0 (newEn x):=fun x=>⟨(newEn_w x).mono (by decide),rfl,fun i=>by rw [hs]; exact ⟨fun _=>⟨rfl,rfl⟩,fun q=>(by cases q),fun _=>rfl⟩,fun _ i hi=>absurd hi (hh x i),fun _ i=>by rw [hs]; exact ⟨fun q=>absurd rfl q,fun q=>(by cases q),fun q=>absurd (show (1:Int)=2 from q) (by decide)⟩,fun i _=>by rw [hs]; rfl,rfl,fun f hf=>by cases hf⟩
 have hD:∀x y,Dir (newEn x) (newEn y) [] []:=fun x y=>⟨rfl,rfl,fun i=>by rw [hs,hs]; rfl,fun i=>by rw [hs]; exact .inl rfl,rfl,fun i _=>by rw [hs,hs]; rfl,fun f hf=>by cases hf⟩
 refine ⟨⟨⟨hS false,hS true,rfl,rfl,hD _ _,hD _ _,fun i hi=>absurd hi (hh true i),fun f hf=>?_,fun f hf=>(by cases hf),List.Pairwise.nil,fun i j _ hi=>absurd hi (hh false i),fun i hi=>?_⟩,loc_new _,loc_new _⟩,rfl,rfl⟩
 ·rcases hf with z | z | z | z <;> cases z
 ·rcases hi with z | ⟨f,z,_⟩
  ·have z:(stOf (newEn true) i).state=3:=z
   rw [hs] at z; exact absurd (show (1:Int)=3 from z) (by decide)
  ·rcases z with z | z <;> cases z
structure Pl (w:Wo):Prop where
 all:WoAll w
 syn:∃fu fd,Syn w fu fd
theorem Pl.step {w:Wo} (h:Pl w) (v:Ev):Pl (doM w v):=by
 obtain ⟨fu,fd,hs⟩:=h.syn
 exact ⟨h.all.step v,hs.step h.all.2.inc v⟩
theorem newWo_pl:Pl newWo:=⟨⟨newWo_w.mono (by decide),⟨loc_new _,loc_new _⟩,⟨newEn_inc _,newEn_inc _⟩⟩,[],[],syn_new⟩
theorem foldl_pl:∀(l:List Ev) (w:Wo),Pl w→Pl (l.foldl doM w)
 | [],w,h=>h
 | v :: l,w,h=>foldl_pl l (doM w v) (h.step v)
theorem playM_pl (l:List Ev):Pl (playM l):=foldl_pl l newWo newWo_pl
end
section
theorem Dir.none {S R:En} {q p:List Fr} (d:Dir S R q p) (hs:∀i,StI (stOf S i)) {i:Int} (h:(stOf R i).got=[]):(stOf R i).text=[]∧(stOf R i).heard=false:=by
 have hr:=d.run i
 have hg:(rv (stOf R i)).g=false:=by simp [rv,h]
 cases hb:(stOf S i).begun with
 | true=>exact run_none hr hg hb
 | false =>
  obtain ⟨h1,h2⟩:=(hs i).not hb
  have hx:sd (stOf S i)=⟨false,[],false⟩:=by simp [sd,hb,h1,h2]
  rw [hx] at hr
  obtain ⟨_,k2,⟨u,k3⟩,_,_⟩:=run_keeps hr
  refine ⟨(List.append_eq_nil_iff.1 k3.symm).1,?_⟩
  cases hh:(stOf R i).heard with
  | false=>rfl
  | true=>have:=congrArg Rv.h (k2 hh); rw [show (rv (stOf R i)).h=true from hh] at this; cases this
theorem Dir.all {S R:En} {q p:List Fr} (d:Dir S R q p) (hs:∀i,StI (stOf S i)) {i:Int} (h:(stOf R i).heard=true):(stOf S i).said=true∧(stOf S i).begun=true∧(stOf R i).text=(stOf S i).say∧(stOf R i).got=(stOf S i).head∧(stOf R i).got≠[]:=by
 have hx:=(run_keeps (d.run i)).2.1 h
 have h1:(stOf S i).said=true:=(congrArg Rv.h hx).trans h
 have h2:(stOf S i).begun=true:=by
  cases hb:(stOf S i).begun with
  | true=>rfl
  | false=>have:=((hs i).not hb).1; rw [h1] at this; cases this
 have h3:(stOf R i).got≠[]:=by
  have:(rv (stOf R i)).g=true:=(congrArg Rv.g hx).symm.trans h2
  simpa [rv] using this
 have h4:=(hs i).beg h2
 rw [h1] at h4
 have h5:(stOf S i).sent=((stOf S i).say.length:Int):=by simpa using h4.symm
 have h6:(stOf S i).say.take (stOf S i).sent.toNat=(stOf R i).text:=congrArg Rv.t hx
 refine ⟨h1,h2,?_,(d.got i).resolve_left h3,h3⟩
 rw [←h6,h5]
 simp
theorem Dir.front {S R:En} {q p:List Fr} (d:Dir S R q p) (i:Int):∃u,(stOf S i).say.take (stOf S i).sent.toNat=(stOf R i).text++u:=(run_keeps (d.run i)).2.2.1
section
variable {c a:En} {fu fd:List Fr}
theorem J0.asked (h:J0 c a fu fd) {i:Int} (hh:(stOf a i).head≠[]):(stOf a i).heard=true∧(stOf a i).text=(stOf c i).say∧(stOf a i).got=(stOf c i).head∧(stOf c i).said=true∧(stOf c i).begun=true ∧
  (stOf a i).head=[⟨sStatus,(answerM (getM (stOf c i).head sPath).1 (stOf c i).say).1,false⟩,⟨sKind,sText,false⟩]∧(stOf a i).say=(answerM (getM (stOf c i).head sPath).1 (stOf c i).say).2:=by
 obtain ⟨h1,h2,h3⟩:=(h.A.sa h.aans i).ask hh
 obtain ⟨k1,k2,k3,k4,k5⟩:=h.u.all h.C.si h1
 rw [k3,k4] at h2 h3
 exact ⟨h1,k3,k4,k1,k2,h2,h3⟩
theorem getM_status (v:List UInt8):getM [⟨sStatus,v,false⟩,⟨sKind,sText,false⟩] sStatus=(v,true):=by simp [getM]
theorem J0.true_ (h:J0 c a fu fd) (i:Int) :
  ((getM (stOf c i).got sStatus).2=true→(getM (stOf c i).got sStatus).1=(answerM (getM (stOf c i).head sPath).1 (stOf c i).say).1) ∧
  (∃u,(answerM (getM (stOf c i).head sPath).1 (stOf c i).say).2=(stOf c i).text++u) ∧
  ((stOf c i).text≠[]→(getM (stOf c i).got sStatus).2=true) ∧
  (Has c i→(stOf c i).state=2→(getM (stOf c i).got sStatus).2=true∧(stOf c i).text=(answerM (getM (stOf c i).head sPath).1 (stOf c i).say).2):=by
 by_cases hg:(stOf c i).got=[]
 ·obtain ⟨t1,t2⟩:=h.d.none h.A.si hg
  have e:getM (stOf c i).got sStatus=([],false):=by rw [hg]; rfl
  rw [e,t1]
  refine ⟨fun q=>(by cases q),⟨_,rfl⟩,fun q=>absurd rfl q,fun hh hd=>?_⟩
  have:=(h.C.sc h.cans i hh).done hd
  rw [t2] at this; cases this
 ·have hb:=h.d.gotten hg
  have hne:(stOf a i).head≠[]:=fun z=>by rw [(h.A.si i).head z] at hb; cases hb
  obtain ⟨k1,k2,k3,k4,k5,k6,k7⟩:=h.asked hne
  have e:getM (stOf c i).got sStatus=((answerM (getM (stOf c i).head sPath).1 (stOf c i).say).1,true):=by
   rw [(h.d.got i).resolve_left hg,k6,getM_status]
  rw [e]
  obtain ⟨u,hu⟩:=h.d.front i
  refine ⟨fun _=>rfl,⟨u++(stOf a i).say.drop (stOf a i).sent.toNat,?_⟩,fun _=>rfl,fun hh hd=>⟨rfl,?_⟩⟩
  ·rw [←List.append_assoc,←hu,List.take_append_drop,k7]
  ·have hd:=(h.C.sc h.cans i hh).done hd
   rw [(h.d.all h.A.si hd).2.2.1,k7]
theorem J0.len (h:J0 c a fu fd):a.strs.length≤c.strs.length:=by
 by_cases h0:a.strs.length=0
 ·omega
 ·have hk:a.strs.length - 1 < a.strs.length:=by omega
  have h1:=stsOk_ids h.A.w.sts (a.strs.length - 1) hk
  obtain ⟨n,hn⟩:=h.hasUp (Has.at_ hk)
  obtain ⟨n1,n2⟩:=atM_some hn
  have h2:=(stsOk_iff.1 h.C.w.sts n n1).2.2
  rw [h.cans] at h2
  rcases h2 with q | q
  ·cases q
  ·have n2:(c.strs.getD n st0).id=(a.strs.getD (a.strs.length - 1) st0).id:=n2
   omega
end
structure TrueM (w:Wo):Prop where
 nc:w.caller.bad=false
 na:w.answerer.bad=false
 at_:∀s ∈ w.caller.strs,
  ((getM s.got sStatus).2=true→(getM s.got sStatus).1=(answerM (getM s.head sPath).1 s.say).1) ∧
  (∃u,(answerM (getM s.head sPath).1 s.say).2=s.text++u) ∧
  (s.text≠[]→(getM s.got sStatus).2=true) ∧
  (s.state=2→(getM s.got sStatus).2=true∧s.text=(answerM (getM s.head sPath).1 s.say).2)
theorem J0.trueM {w:Wo} {fu fd:List Fr} (h:J0 w.caller w.answerer fu fd):TrueM w:=by
 refine ⟨h.C.nb,h.A.nb,fun s hs=>?_⟩
 obtain ⟨k,hk,rfl⟩:=List.getElem_of_mem hs
 have e:stOf w.caller (stAt w.caller k).id=w.caller.strs[k]:=by rw [h.C.w.of hk,stAt,getD_lt st0 hk]
 have:=h.true_ (stAt w.caller k).id
 rw [e] at this
 obtain ⟨a1,a2,a3,a4⟩:=this
 exact ⟨a1,a2,a3,a4 (Has.at_ hk)⟩
theorem Pl.true_ {w:Wo} (h:Pl w):TrueM w:=by
 obtain ⟨fu,fd,hs⟩:=h.syn
 exact hs.j.toJ0.trueM
end
section
open Go
theorem lkTrue_ok {w:Wo} (hB:WoB w) (hW:EnW 60 w.caller) (hT:TrueM w) {S:List Blk} {b c d f:Nat} (h:WoAt S b c d f w):VCall Tryz.prog 35 [wV b c d f w] S fun r S'=>r=.bool true∧Upd [] S S':=by
 have hel:=hB.caller.len
 have hb:=h.caller.1
 have lb:=lt_of_some hb
 have hlen:=strsC_len w.caller.strs
 have n1:=hT.nc
 have n2:=hT.na
 refine VCall.en hDe Tryz.func35 Tryz.ntmps35 Tryz.results35 ?_
 simp -implicitDefEqProofs (maxSteps:=1000000) (disch:=omega) only [push_cast,simprocAttr,n1,n2,↓gd]
 refine wpV_loop (fun m t S'=>∃i:Nat,m=w.caller.strs.length - i∧i≤w.caller.strs.length∧t 1=.ptr S.length 0∧t 3=.int .i64 i∧Upd [] (S++[.cells 0 (wC b c d f w)]) S') w.caller.strs.length ⟨0,by omega,by omega,rfl,rfl,by simp only [wC,enC,n1,n2,List.cons_append,List.nil_append]; exact Upd.refl _ _⟩ ?_
 rintro m t S' ⟨i,rfl,hi,h1,h3,hu⟩
 refine wpV_of hDe (fun _=>false) (fun id=>if id=10 then [10,10,10,10,10,10,10,10,10,10,37,37,37,37,37,37,37,37,37,37,37,37,37,37,37,37,37,37,37,37,37,37,37,37,37,37,37] else []) (by kernel_rfl) ?_
 have kw:=hu.get (j:=S.length) (B:=.cells 0 (wC b c d f w)) (by simp) (by simp)
 have hsa:S'[b]?=some (.cells 12 (strsC w.caller.strs)):=hu.get (by rw [List.getElem?_append_left lb]; exact hb) (by simp)
 have lw:=lt_of_some kw
 have la:=lt_of_some hsa
 by_cases hil:i < w.caller.strs.length
 ·have hil':(i:Int) < w.caller.strs.length:=by omega
  have hat:=strsC_at hil
  have hs:=hB.caller.sts _ (getD_memS hil)
  have hok:=stOk_iff.1 (hW.st hil)
  have hfact:=hT.at_ (w.caller.strs.getD i st0) (getD_memS hil)
  simp only [stAt] at hok
  generalize w.caller.strs.getD i st0=s at *
  simp -implicitDefEqProofs (maxSteps:=1000000) (disch:=omega) only [push_cast,simprocAttr,h1,h3,hil',kw,hsa,hat,↓gd]
  repeat refine And.intro (by omega) ?_
  have hg1:headGetM s.head sPath=getM s.head sPath:=by rw [headGetM,if_pos hok.2.2.1]
  have hg2:headGetM s.got sStatus=getM s.got sStatus:=by rw [headGetM,if_pos hok.2.2.2.1]
  obtain ⟨f1,⟨u,f2⟩,f3,f4⟩:=hfact
  have hG1:=fun T=>HeadGet_ok s.head hs.head sPath T
  have hG2:=fun T=>HeadGet_ok s.got hs.got sStatus T
  rw [hg1] at hG1
  rw [hg2] at hG2
  have hlay:=(wordOk_iff.1 hok.2.2.2.2.1).2
  have hltx:=(wordOk_iff.1 hok.2.2.2.2.2.1).2
  have hA:=fun T=>EndAnswer_ok (getM s.head sPath).1 s.say (by omega) T
  have hAl:(answerM (getM s.head sPath).1 s.say).2.length≤1000:=by
   unfold answerM
   split
   ·simp only; omega
   ·split
    ·simp only [upM,List.length_map]; omega
    ·split
     ·have:=(decM_ok (n:=s.say.length) (by omega)).2; simp only; omega
     ·simp
  generalize getM s.head sPath=P at *
  obtain ⟨path,pg⟩:=P
  generalize getM s.got sStatus=Q at *
  obtain ⟨v,g⟩:=Q
  simp only at f1 f2 f3 f4 hG1 hG2 hA hAl
  generalize answerM path s.say=A at *
  obtain ⟨stt,tx⟩:=A
  simp only at f1 f2 f3 f4 hG1 hG2 hA hAl
  subst f2
  rw [List.length_append] at hAl
  have hBg:=fun T=>lkBegins_self s.text u (by omega) T
  refine ((hG1 _).as (by simp [sPath])).to ?_
  simp -implicitDefEqProofs (maxSteps:=1000000) (disch:=omega) only [push_cast,simprocAttr,h1,h3,↓gd]
  refine ((hA _).as rfl).to ?_
  simp -implicitDefEqProofs (maxSteps:=1000000) (disch:=omega) only [push_cast,simprocAttr,h1,h3,↓gd]
  refine ((hG2 _).as (by simp [sStatus])).to ?_
  cases g
  ·have ht:s.text=[]:=by by_cases q:s.text=[]; exact q; exact absurd (f3 q) (by simp)
   have h2:¬s.state=2:=fun q=>by simpa using (f4 q).1
   rw [ht] at hBg
   simp -implicitDefEqProofs (maxSteps:=1000000) (disch:=omega) only [push_cast,simprocAttr,h1,h3,ht,h2,↓gd]
   refine ((hBg _).as rfl).to ?_
   simp -implicitDefEqProofs (maxSteps:=1000000) (disch:=omega) only [push_cast,simprocAttr,h1,h3,ht,h2,↓gd]
   exact ⟨w.caller.strs.length - (i+1),by omega,i+1,rfl,by omega,by simp,hu.app _⟩
  ·have hv:=f1 rfl
   subst hv
   simp -implicitDefEqProofs (maxSteps:=1000000) (disch:=omega) only [push_cast,simprocAttr,h1,h3,↓gd]
   refine ((hBg _).as rfl).to ?_
   by_cases h2:s.state=2
   ·have hu0:=(f4 h2).2
    have hu1:u=[]:=by simpa using hu0
    subst hu1
    by_cases ht:s.text=[]
    ·simp -implicitDefEqProofs (maxSteps:=1000000) (disch:=omega) only [push_cast,simprocAttr,h1,h3,h2,ht,List.append_nil,↓gd]
     exact ⟨w.caller.strs.length - (i+1),by omega,i+1,rfl,by omega,by simp,hu.app _⟩
    ·simp -implicitDefEqProofs (maxSteps:=1000000) (disch:=omega) only [push_cast,simprocAttr,h1,h3,h2,ht,List.append_nil,↓gd]
     exact ⟨w.caller.strs.length - (i+1),by omega,i+1,rfl,by omega,by simp,hu.app _⟩
   ·by_cases ht:s.text=[]
    ·simp -implicitDefEqProofs (maxSteps:=1000000) (disch:=omega) only [push_cast,simprocAttr,h1,h3,h2,ht,↓gd]
     exact ⟨w.caller.strs.length - (i+1),by omega,i+1,rfl,by omega,by simp,hu.app _⟩
    ·simp -implicitDefEqProofs (maxSteps:=1000000) (disch:=omega) only [push_cast,simprocAttr,h1,h3,h2,ht,↓gd]
     exact ⟨w.caller.strs.length - (i+1),by omega,i+1,rfl,by omega,by simp,hu.app _⟩
 ·have:i=w.caller.strs.length:=by omega
  subst this
  have hil':¬((w.caller.strs.length:Nat):Int) < w.caller.strs.length:=by omega
  simp -implicitDefEqProofs (maxSteps:=1000000) (disch:=omega) only [push_cast,simprocAttr,h1,h3,hil',kw,↓gd]
  exact ⟨_,_,Wk.refl _ _ _,rfl,((Upd.refl [] S).app _).trans hu⟩
end
section
theorem Drawn.p {w:Wo} (h:Drawn w):WoP w:=by
 obtain ⟨l,_,_,hs⟩:=h
 have h:=playM_p l
 generalize playM l=x at *
 cases hs with
 | none=>exact h
 | ans=>exact ⟨⟨⟨h.loc.caller.sum,h.loc.caller.len,h.loc.caller.four⟩,h.loc.answerer⟩,⟨h.inc.caller,h.inc.answerer⟩⟩
 | up o ho=>exact ⟨⟨h.loc.caller,h.loc.answerer⟩,⟨h.inc.caller,h.inc.answerer⟩⟩
 | table t m _ _=>exact ⟨⟨h.loc.caller,⟨h.loc.answerer.sum,h.loc.answerer.len,h.loc.answerer.four⟩⟩,⟨h.inc.caller,h.inc.answerer⟩⟩
 | id k _ _ _ =>
  have h1:=h.loc.caller.setSt (k:=0) (s:={ x.caller.strs.getD 0 st0 with id:=k }) (fun q=>q)
  exact ⟨⟨⟨h1.sum,h1.len,h1.four⟩,h.loc.answerer⟩,⟨h.inc.caller,h.inc.answerer⟩⟩
theorem woAll_stays:Stays WoAll:=⟨fun w v h=>h.step v,fun w h=>⟨(woOk_parts h.ok).1 ▸ endOk_iff.2 (h.1.caller.mono (by decide)),endOk_iff.2 (h.1.answerer.mono (by decide))⟩,fun w h=>h.idle⟩
theorem play_ends (l:List Ev) (i:Nat):endOk (playM (l.take i)).caller=true∧endOk (playM (l.take i)).answerer=true :=
 have h:=(playM_all (l.take i)).1
 ⟨endOk_iff.2 (h.caller.mono (by decide)),endOk_iff.2 (h.answerer.mono (by decide))⟩
end
section
open Go
theorem Pl.b {w:Wo} (h:Pl w):WoB w:=h.all.1.b (by decide)
theorem play_b (l:List Ev):WoB (worldPlayM l).1:=by
 unfold worldPlayM
 split
 ·exact ⟨⟨by simp [wo0,en0],by simp [wo0,en0],by simp [wo0,en0],⟨by simp [wo0,en0],by simp [wo0,en0]⟩,⟨by simp [wo0,en0],by simp [wo0,en0]⟩,by simp [wo0,en0]⟩,⟨by simp [wo0,en0],by simp [wo0,en0],by simp [wo0,en0],⟨by simp [wo0,en0],by simp [wo0,en0]⟩,⟨by simp [wo0,en0],by simp [wo0,en0]⟩,by simp [wo0,en0]⟩,by simp [wo0],by simp [wo0]⟩
 ·exact (playM_pl l).b
theorem play_pl (l:List Ev) (h:(worldPlayM l).2=true):Pl (worldPlayM l).1∧l.length≤60∧(worldPlayM l).1=playM l:=by
 unfold worldPlayM at *
 split at h
 ·cases h
 ·rename_i hn
  rw [if_neg hn]
  exact ⟨playM_pl l,by omega,rfl⟩
end
end Go.Proofs.YtaamlddnpamomaaGreatDoor
