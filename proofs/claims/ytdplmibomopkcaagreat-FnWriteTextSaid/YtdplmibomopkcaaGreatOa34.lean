/- A part of the proof: contracts of functions, or plain facts on which these lean. -/
import Derived.Test.YtdplmibomopkcaaGreatOa25
import Derived.Test.YtdplmibomopkcaaGreatOa28
import Derived.Test.YtdplmibomopkcaaGreatOa33
namespace Go.Proofs.YtdplmibomopkcaaGreat
open Go
set_option linter.unusedVariables false
set_option linter.unusedSimpArgs false
set_option maxRecDepth 100000
set_option maxHeartbeats 16000000

section
def newCall (i:Int) (path text:List UInt8):St:={ newSt i with head:=callHead path text,say:=text }
section
variable {c a:En} {fu fd:List Fr}
theorem J.call (h:J c a fu fd) (path text:List UInt8):J (callM c path text).1 a fu fd:=by
 have hW:=callM_w h.C.w path text
 have hL:=callM_loc h.cl path text
 revert hW hL
 unfold callM
 split
 ·intro _ _; exact h
 ·rename_i hc
  intro hW hL
  have h7:¬2 * (c.strs.length:Int)+1 > 7:=fun he=>hc (.inr (.inl he))
  have hids:∀j,Has c j→j < 2 * (c.strs.length:Int)+1:=fun j hj=>by
   obtain ⟨k,hk⟩:=hj
   obtain ⟨k1,k2⟩:=atM_some hk
   have:=(stsOk_iff.1 h.C.w.sts k k1).2.2
   rw [h.cans] at this
   rcases this with q | q
   ·cases q
   ·omega
  have hno:¬Has c (2 * (c.strs.length:Int)+1):=fun z=>absurd (hids _ z) (Int.lt_irrefl _)
  have hv:=app_view (e:=c) (newCall (2 * (c.strs.length:Int)+1) path text) rfl hno
  have hnew:=stOf_none hno
  generalize hi:2 * (c.strs.length:Int)+1=i at *
  have hids':({ c with strs:=c.strs++[newCall i path text] }:En).strs.map St.id=c.strs.map St.id++[i]:=by simp [newSt,newCall]
  have hhas:∀j,Has { c with strs:=c.strs++[newCall i path text] } j↔Has c j∨j=i:=fun j=>Ids.has (x:={ c with strs:=c.strs++[newCall i path text] }) (.inr ⟨hno,hids'⟩)
  have hsd:∀j,sd (stOf { c with strs:=c.strs++[newCall i path text] } j)=sd (stOf c j):=fun j=>by
   rw [hv]; split
   ·rename_i hji; subst hji; rw [hnew]; simp [sd,newSt,newCall]
   ·rfl
  have hrv:∀j,rv (stOf { c with strs:=c.strs++[newCall i path text] } j)=rv (stOf c j):=fun j=>by
   rw [hv]; split
   ·rename_i hji; subst hji; rw [hnew]; rfl
   ·rfl
  have hfl:∀j,(stOf { c with strs:=c.strs++[newCall i path text] } j).send=(stOf c j).send∧(stOf { c with strs:=c.strs++[newCall i path text] } j).room=(stOf c j).room:=fun j=>by
   rw [hv]; split
   ·rename_i hji; subst hji; rw [hnew]; exact ⟨rfl,rfl⟩
   ·exact ⟨rfl,rfl⟩
  have hL:Loc { c with strs:=c.strs++[newCall i path text] }:=hL
  have hW:EnW 36 { c with strs:=c.strs++[newCall i path text] }:=hW
  show J { c with strs:=c.strs++[newCall i path text] } a fu fd
  refine ⟨⟨⟨hW,h.C.nb,fun j=>?_,fun ha j hj=>?_,fun ha=>absurd (h.cans.symm.trans (show c.ans=true from ha)) (by decide),fun j hj=>?_,h.C.sum,h.C.waits⟩,h.A,h.cans,h.aans,⟨h.u.m,?_,fun j=>?_,fun j=>?_,h.u.flow,fun j hj=>?_,h.u.ok⟩,⟨h.d.m,h.d.tab,fun j=>?_,fun j=>?_,h.d.flow,fun j hj=>?_,h.d.ok⟩,h.has,h.kinds,h.noReset,h.ord,fun i' j hij hi' hj=>?_,fun j hj=>?_⟩,hL,h.al⟩
  ·rw [hv]; split
   ·exact ⟨fun _=>⟨rfl,rfl⟩,fun q=>(by cases q),fun _=>rfl⟩
   ·exact h.C.si j
  ·rw [hv]; split
   ·exact ⟨⟨path,rfl⟩,fun q=>(by cases q),fun q=>absurd (show (1:Int)=2 from q) (by decide)⟩
   ·rename_i hji
    exact h.C.sc ha j (((hhas j).1 hj).resolve_right hji)
  ·rw [(hfl j).2]; exact h.C.more j hj
  ·refine tabOn_congr (fun g hg hgk=>?_) h.u.tab
   show (stOf c g.stream).head=(stOf _ g.stream).head
   rw [hv]; split
   ·rename_i hji
    have hb:=h.u.begun (i:=g.stream) (f:=g) (by simp [hg]) rfl (.inr (.inl hgk))
    rw [hji] at hb
    exact absurd (begun_has hb) hno
   ·rfl
  ·rw [hsd]; exact h.u.run j
  ·rcases h.u.got j with z | z
   ·exact .inl z
   ·rw [hv]; split
    ·rename_i hji; subst hji
     rw [hnew] at z
     exact .inl z
    ·exact .inr z
  ·rw [(hfl j).1]; exact h.u.own j hj
  ·rw [hrv]; exact h.d.run j
  ·rw [hv]; split
   ·rename_i hji; subst hji; exact .inl rfl
   ·exact h.d.got j
  ·rw [(hfl j).2]; exact h.d.own j hj
  ·have hj':(stOf c j).begun=true:=by
    have:=congrArg Rv.g (hsd j)
    exact this.symm.trans hj
   have hlt:=hids j (begun_has hj')
   have hi'':i'≠i:=by omega
   rw [hv,if_neg (show ¬i'=(newCall i path text).id from hi'')]
   exact h.beg i' j hij (((hhas i').1 hi').resolve_right hi'') hj'
  ·have z:=h.gone j hj
   rw [hv]; split
   ·rename_i hji
    have hji:j=i:=hji
    subst hji; rw [hnew] at z; exact absurd (show (1:Int)=3 from z) (by decide)
   ·exact z
theorem J.leave (h:J c a fu fd) (id:Int):J (leaveM c id).1 a fu fd:=by
 have hL:=leaveM_loc h.cl id
 have hW:=hL.w (leaveM_w h.C.w id)
 revert hW hL
 unfold leaveM
 split
 ·intro _ _; exact h
 ·rename_i k hk
  have hid:(stAt c k).id=id:=(atM_some hk).2
  have hof:=stOf_some hk
  split
  ·intro _ _; exact h
  ·rename_i hc
   have hst:(stAt c k).state=1:=by simpa using fun q=>hc (.inr q)
   intro hL hW
   have hv:=setSt_view (e:={ c with wait:=if (stAt c k).begun then c.wait++[⟨3,false,id,[]⟩] else c.wait }) (s:=(stAt c k).withState 3) hk hid
   have hwt:∃w,(if (stAt c k).begun then c.wait++[⟨3,false,id,[]⟩] else c.wait)=c.wait++w∧∀g ∈ w,g=⟨3,false,id,[]⟩∧(stOf c id).begun=true:=by
    by_cases hb:(stAt c k).begun=true
    ·rw [if_pos hb]; exact ⟨_,rfl,fun g hg=>⟨List.mem_singleton.1 hg,by rw [hof]; exact hb⟩⟩
    ·rw [if_neg hb]; exact ⟨[],by simp,fun g hg=>by cases hg⟩
   obtain ⟨w,hw,hwm⟩:=hwt
   rw [hw] at hL hW hv ⊢
   have hids:=hv.2
   have hvj:∀j,∃s',stOf (setSt { c with wait:=c.wait++w } k ((stAt c k).withState 3)) j=(stOf c j).withState s'∧(s'=(stOf c j).state∨s'=3):=fun j=>by
    rw [hv.1]; split
    ·rename_i hji; subst hji; rw [hof]; exact ⟨3,rfl,.inr rfl⟩
    ·exact ⟨(stOf c j).state,rfl,.inl rfl⟩
   have hhas:∀j,Has (setSt { c with wait:=c.wait++w } k ((stAt c k).withState 3)) j↔Has c j:=fun j=>Has.of_eq (e:=c) hids
   have hmor:∀j,mor j w=0:=fun j=>mor_none (fun g hg=>by rw [(hwm g hg).1]; exact (show ¬((3:Int)=8) by decide))
   have hrun:∀j x,(x.g=(stOf c j).begun)→run j x w=some x:=fun j x hx=>by
    have:∀l:List Fr,(∀g ∈ l,g=⟨3,false,id,[]⟩∧(stOf c id).begun=true)→run j x l=some x:=fun l=>by
     induction l with
     | nil=>intro _; rfl
     | cons g l ih =>
      intro hg
      obtain ⟨e1,e2⟩:=hg g (by simp)
      have:adv j x g=some x:=by
       subst e1
       unfold adv
       split
       ·rfl
       ·rename_i hji
        have hji:id=j:=by simpa using hji
        subst hji
        rw [if_neg (show ¬((3:Int)=1) by decide),if_neg (show ¬((3:Int)=0) by decide),if_pos rfl,if_pos (hx.trans e2)]
      simp only [run,this]
      exact ih (fun g hg'=>hg g (by simp [hg']))
    exact this w hwm
   have hL:Loc (setSt { c with wait:=c.wait++w } k ((stAt c k).withState 3)):=hL
   have hW:EnW 36 (setSt { c with wait:=c.wait++w } k ((stAt c k).withState 3)):=hW
   show J (setSt { c with wait:=c.wait++w } k ((stAt c k).withState 3)) a fu fd
   refine ⟨⟨⟨hW,h.C.nb,fun j=>?_,fun ha j hj=>?_,fun ha=>absurd (h.cans.symm.trans (show c.ans=true from ha)) (by decide),fun j hj=>?_,?_,fun g hg=>?_⟩,h.A,h.cans,h.aans,⟨h.u.m,?_,fun j=>?_,fun j=>?_,h.u.flow,fun j hj=>?_,h.u.ok⟩,⟨h.d.m,h.d.tab,fun j=>?_,fun j=>?_,h.d.flow,fun j hj=>?_,h.d.ok⟩,h.has,fun g hg h8=>?_,h.noReset,h.ord,fun i' j hij hi' hj=>?_,fun j hj=>?_⟩,hL,h.al⟩
   ·obtain ⟨s',e,_⟩:=hvj j
    rw [e]; exact ⟨(h.C.si j).not,(h.C.si j).beg,(h.C.si j).head⟩
   ·have hc:=h.C.sc ha j ((hhas j).1 hj)
    obtain ⟨s',e,hs⟩:=hvj j
    rw [e]
    refine ⟨hc.head,fun q=>?_,fun q=>?_⟩
    ·show s'≠1
     rcases hs with rfl | rfl
     ·exact hc.heard q
     ·decide
    ·rcases hs with rfl | rfl
     ·exact hc.done q
     ·exact absurd (show (3:Int)=2 from q) (by decide)
   ·obtain ⟨s',e,_⟩:=hvj j
    rw [e]
    show (stOf c j).room+(mor j (c.wait++w):Nat)=8
    rw [mor_app,hmor]; simpa using h.C.more j hj
   ·show c.room+(mor 0 (c.wait++w):Nat)=16
    rw [mor_app,hmor]; simpa using h.C.sum
   ·rcases List.mem_append.1 hg with z | z
    ·exact h.C.waits g z
    ·rw [(hwm g z).1]; exact .inr ⟨rfl,h.cans⟩
   ·refine tabOn_congr (fun g hg hgk=>?_) h.u.tab
    obtain ⟨s',e,_⟩:=hvj g.stream
    show (stOf c g.stream).head=(stOf _ g.stream).head
    rw [e]; rfl
   ·obtain ⟨s',e,_⟩:=hvj j
    rw [e]
    show run j (rv (stOf a j)) (fu++(c.wait++w))=some (sd (stOf c j))
    rw [←List.append_assoc,run_app,h.u.run j]
    exact hrun j _ rfl
   ·obtain ⟨s',e,_⟩:=hvj j
    rw [e]; exact h.u.got j
   ·obtain ⟨s',e,_⟩:=hvj j
    rw [e]; exact h.u.own j hj
   ·obtain ⟨s',e,_⟩:=hvj j
    rw [e]; exact h.d.run j
   ·obtain ⟨s',e,_⟩:=hvj j
    rw [e]; exact h.d.got j
   ·obtain ⟨s',e,_⟩:=hvj j
    rw [e]; exact h.d.own j hj
   ·have hg':(g ∈ fu∨g ∈ c.wait∨g ∈ fd∨g ∈ a.wait)∨g ∈ w:=by
     rcases hg with z | z | z | z
     ·exact .inl (.inl z)
     ·rcases List.mem_append.1 z with z | z
      ·exact .inl (.inr (.inl z))
      ·exact .inr z
     ·exact .inl (.inr (.inr (.inl z)))
     ·exact .inl (.inr (.inr (.inr z)))
    rcases hg' with z | z
    ·exact h.kinds g z h8
    ·rw [(hwm g z).1] at h8; cases h8
   ·obtain ⟨si,ei,hsi⟩:=hvj i'
    obtain ⟨sj,ej,hsj⟩:=hvj j
    rw [ej] at hj
    rw [ei]
    rcases h.beg i' j hij ((hhas i').1 hi') hj with z | z
    ·exact .inl z
    ·refine .inr ?_
     show si≠1
     rcases hsi with rfl | rfl
     ·exact z
     ·decide
   ·by_cases hji:j=id
    ·rw [hv.1,if_pos hji]; rfl
    ·have z:(stOf c j).state=3:=by
      refine h.gone j ?_
      rcases hj with z | ⟨g,z,k3,ki⟩
      ·exact .inl z
      ·refine .inr ⟨g,?_,k3,ki⟩
       rcases z with z | z
       ·exact .inl z
       ·rcases List.mem_append.1 z with z | z
        ·exact .inr z
        ·rw [(hwm g z).1] at ki; exact absurd ki.symm hji
     rw [hv.1,if_neg hji]; exact z
theorem frR_bytes {came rest:List UInt8} {fs:List Fr} (h:came++rest=bytes fs) (hok:∀f ∈ fs,frameOk f=true) :
  ((frR came).2.2=0∧came.length < 204∧∀f gs,fs=f :: gs→came.length < 4+f.body.length)∨∃f gs,fs=f :: gs∧frR came=(f,4+f.body.length,1)∧came.drop (4+f.body.length)++rest=bytes gs:=by
 by_cases h4:came.length < 4
 ·left; unfold frR; rw [if_pos h4]; exact ⟨rfl,by omega,fun _ _ _=>by omega⟩
 ·cases fs with
  | nil =>
   have:came.length=0:=by
    have:=congrArg List.length h
    simp [bytes] at this; simp [this.1]
   omega
  | cons f gs =>
   have hf:=hok f (by simp)
   have hb200:f.body.length≤200∧(f.kind=0∨f.kind=1∨f.kind=3∨f.kind=8)∧0≤f.stream∧f.stream≤7:=by
    have hk:=frame_cases hf
    have hs:f.stream=0∨strmOk f.stream=true:=by
     rcases hk with k | k | k | k
     ·exact .inr (strm_ne hf (.inl k))
     ·exact .inr (strm_ne hf (.inr (.inl k)))
     ·exact .inr (strm_ne hf (.inr (.inr k)))
     ·unfold frameOk at hf
      rw [if_neg (by rw [k]; decide),if_neg (by rw [k]; decide),if_pos k] at hf
      simp only [Bool.and_eq_true,Bool.or_eq_true,decide_eq_true_eq] at hf
      exact hf.1.1.1.1
    refine ⟨?_,hk,?_⟩
    ·unfold frameOk at hf
     rcases hk with k | k | k | k <;> rw [k] at hf <;> simp at hf
     ·exact hf.2
     ·exact hf.2
     ·rw [hf.2]; simp
     ·omega
    ·rcases hs with z | z
     ·omega
     ·rcases strmOk_cases z with z | z | z | z <;> omega
   obtain ⟨hb200,hk4,hs0,hs7⟩:=hb200
   rw [bytes_cons,frW] at h
   match came,h4,h with
   | [],h4,_=>simp at h4
   | [_],h4,_=>simp at h4
   | [_,_],h4,_=>simp at h4
   | [_,_,_],h4,_=>simp at h4
   | b0 :: b1 :: b2 :: b3 :: l,_,h =>
    simp only [List.cons_append,List.nil_append,List.cons.injEq] at h
    obtain ⟨e0,e1,e2,e3,h⟩:=h
    have t0:b0.toNat=f.body.length:=by rw [e0]; exact by8_toNat (by omega)
    have t1:(b1.toNat:Int)=f.kind:=by
     rw [e1,by8_toNat (by omega)]; omega
    have t2:b2.toNat=if f.last then 1 else 0:=by rw [e2]; split <;> rfl
    have t3:(b3.toNat:Int)=f.stream:=by rw [e3,by8_toNat (by omega)]; omega
    have a0:byteAt (b0 :: b1 :: b2 :: b3 :: l) 0=f.body.length:=t0
    have a1:((byteAt (b0 :: b1 :: b2 :: b3 :: l) 1:Nat):Int)=f.kind:=t1
    have a2:byteAt (b0 :: b1 :: b2 :: b3 :: l) 2=if f.last then 1 else 0:=t2
    have a3:((byteAt (b0 :: b1 :: b2 :: b3 :: l) 3:Nat):Int)=f.stream:=t3
    have h2:¬(f.body.length > 200∨(if f.last=true then 1 else 0:Nat) > 1):=by split <;> omega
    by_cases hl:l.length < f.body.length
    ·left
     refine ⟨?_,by simp; omega,fun g gs' e=>by cases e; simp; omega⟩
     unfold frR
     rw [if_neg (by simp),a0,a2,if_neg h2,if_pos (by simp; omega)]
    ·right
     have hlen:f.body.length≤l.length:=by omega
     have hbody:l.take f.body.length=f.body:=by
      have:=congrArg (List.take f.body.length) h
      rw [List.take_append_of_le_length hlen,List.take_left] at this
      exact this
     have hdrop:l.drop f.body.length++rest=bytes gs:=by
      have:=congrArg (List.drop f.body.length) h
      rw [List.drop_append_of_le_length hlen,List.drop_left] at this
      exact this
     have hfr:(⟨(byteAt (b0 :: b1 :: b2 :: b3 :: l) 1:Nat),decide (byteAt (b0 :: b1 :: b2 :: b3 :: l) 2=1),(byteAt (b0 :: b1 :: b2 :: b3 :: l) 3:Nat),((b0 :: b1 :: b2 :: b3 :: l).drop 4).take f.body.length⟩:Fr)=f:=by
      rw [a1,a2,a3]
      show (⟨f.kind,_,f.stream,l.take f.body.length⟩:Fr)=f
      rw [hbody]
      cases f with
      | mk k la s b=>cases la <;> rfl
     refine ⟨f,gs,rfl,?_,?_⟩
     ·unfold frR
      rw [if_neg (by simp),a0]
      simp only [hfr,hf,if_true]
      rw [a2,if_neg h2,if_neg (by simp; omega)]
     ·rw [show 4+f.body.length=f.body.length+4 by omega]
      exact hdrop
theorem J.cameUp {b:List UInt8} (h:J c a fu fd) (hb:b.length≤600):J c { a with came:=b } fu fd :=
 ⟨⟨h.C,⟨h.A.w.withCame hb,h.A.nb,h.A.si,h.A.sc,h.A.sa,h.A.more,h.A.sum,h.A.waits⟩,h.cans,h.aans,⟨h.u.m,h.u.tab,h.u.run,h.u.got,h.u.flow,h.u.own,h.u.ok⟩,⟨h.d.m,h.d.tab,h.d.run,h.d.got,h.d.flow,h.d.own,h.d.ok⟩,h.has,h.kinds,h.noReset,h.ord,h.beg,h.gone⟩,h.cl,⟨h.al.sum,h.al.len,h.al.four⟩⟩
theorem J.cameDown {b:List UInt8} (h:J c a fu fd) (hb:b.length≤600):J { c with came:=b } a fu fd :=
 ⟨⟨⟨h.C.w.withCame hb,h.C.nb,h.C.si,h.C.sc,h.C.sa,h.C.more,h.C.sum,h.C.waits⟩,h.A,h.cans,h.aans,⟨h.u.m,h.u.tab,h.u.run,h.u.got,h.u.flow,h.u.own,h.u.ok⟩,⟨h.d.m,h.d.tab,h.d.run,h.d.got,h.d.flow,h.d.own,h.d.ok⟩,h.has,h.kinds,h.noReset,h.ord,h.beg,h.gone⟩,⟨h.cl.sum,h.cl.len,h.cl.four⟩,h.al⟩
theorem J.hearsUp:∀(n:Nat) {c a:En} {fu fd:List Fr} (rest:List UInt8),J c a fu fd→a.came++rest=bytes fu→∃gs,J c (hearsM n a) gs fd∧(hearsM n a).came++rest=bytes gs
 | 0,c,a,fu,fd,rest,h,hb=>⟨fu,h,hb⟩
 | n+1,c,a,fu,fd,rest,h,hb=>by
  unfold hearsM
  rw [if_neg (by rw [h.A.nb]; decide)]
  simp only
  rcases frR_bytes hb h.u.ok with ⟨z,_⟩ | ⟨f,gs,rfl,e,hd⟩
  ·rw [if_neg (by omega),if_pos z]; exact ⟨fu,h,hb⟩
  ·rw [e]
   rw [if_neg (show ¬((1:Int) < 0) by decide),if_neg (show ¬((1:Int)=0) by decide)]
   simp only
   have h1:=(h.cameUp (b:=a.came.drop (4+f.body.length)) (by have:=h.A.w.came; rw [List.length_drop]; omega)).takeUp
   exact J.hearsUp n rest h1 (by rw [frameM_came]; exact hd)
theorem J.hearsDown:∀(n:Nat) {c a:En} {fu fd:List Fr} (rest:List UInt8),J c a fu fd→c.came++rest=bytes fd→∃gs,J (hearsM n c) a fu gs∧(hearsM n c).came++rest=bytes gs
 | 0,c,a,fu,fd,rest,h,hb=>⟨fd,h,hb⟩
 | n+1,c,a,fu,fd,rest,h,hb=>by
  unfold hearsM
  rw [if_neg (by rw [h.C.nb]; decide)]
  simp only
  rcases frR_bytes hb h.d.ok with ⟨z,_⟩ | ⟨f,gs,rfl,e,hd⟩
  ·rw [if_neg (by omega),if_pos z]; exact ⟨fd,h,hb⟩
  ·rw [e]
   rw [if_neg (show ¬((1:Int) < 0) by decide),if_neg (show ¬((1:Int)=0) by decide)]
   simp only
   have h1:=(h.cameDown (b:=c.came.drop (4+f.body.length)) (by have:=h.C.w.came; rw [List.length_drop]; omega)).takeDown
   exact J.hearsDown n rest h1 (by rw [frameM_came]; exact hd)
end
structure Syn (w:Wo) (fu fd:List Fr):Prop where
 j:J w.caller w.answerer fu fd
 up:w.answerer.came++w.up=bytes fu
 down:w.caller.came++w.down=bytes fd
theorem Inc.zero {e:En} (h:Inc e) (hb:e.bad=false):(frR e.came).2.2=0:=h.resolve_left (by rw [hb]; decide)
theorem Syn.short {w:Wo} {fu fd:List Fr} (h:Syn w fu fd) (hi:WoI w):w.answerer.came.length < 204∧w.caller.came.length < 204:=by
 constructor
 ·rcases frR_bytes h.up h.j.u.ok with ⟨_,z,_⟩ | ⟨f,gs,_,e,_⟩
  ·exact z
  ·have:=hi.answerer.zero h.j.A.nb
   rw [e] at this; cases this
 ·rcases frR_bytes h.down h.j.d.ok with ⟨_,z,_⟩ | ⟨f,gs,_,e,_⟩
  ·exact z
  ·have:=hi.caller.zero h.j.C.nb
   rw [e] at this; cases this
theorem Syn.passUp {w:Wo} {fu fd:List Fr} (h:Syn w fu fd) (hi:WoI w) {n:Nat} (hn:n≤90):hearWM w.answerer (w.up.take n)=hearM w.answerer (w.up.take n)∧∃gs,Syn { w with answerer:=hearM w.answerer (w.up.take n),up:=w.up.drop n } gs fd:=by
 have hs:=(h.short hi).1
 have hl:=h.j.A.w.len
 constructor
 ·unfold hearWM
  rw [if_neg]
  rintro (z | z | z)
  ·rw [h.j.A.nb] at z; cases z
  ·rw [List.length_take] at z; omega
  ·omega
 ·have hb:(w.answerer.came++w.up.take n)++w.up.drop n=bytes fu:=by rw [List.append_assoc,List.take_append_drop]; exact h.up
  obtain ⟨gs,g1,g2⟩:=J.hearsUp (w.answerer.came.length+(w.up.take n).length+1) (a:={ w.answerer with came:=w.answerer.came++w.up.take n }) _ (h.j.cameUp (by rw [List.length_append,List.length_take]; omega)) hb
  exact ⟨gs,⟨g1,g2,h.down⟩⟩
theorem Syn.passDown {w:Wo} {fu fd:List Fr} (h:Syn w fu fd) (hi:WoI w) {n:Nat} (hn:n≤90):hearWM w.caller (w.down.take n)=hearM w.caller (w.down.take n)∧∃gs,Syn { w with caller:=hearM w.caller (w.down.take n),down:=w.down.drop n } fu gs:=by
 have hs:=(h.short hi).2
 have hl:=h.j.C.w.len
 constructor
 ·unfold hearWM
  rw [if_neg]
  rintro (z | z | z)
  ·rw [h.j.C.nb] at z; cases z
  ·rw [List.length_take] at z; omega
  ·omega
 ·have hb:(w.caller.came++w.down.take n)++w.down.drop n=bytes fd:=by rw [List.append_assoc,List.take_append_drop]; exact h.down
  obtain ⟨gs,g1,g2⟩:=J.hearsDown (w.caller.came.length+(w.down.take n).length+1) (c:={ w.caller with came:=w.caller.came++w.down.take n }) _ (h.j.cameDown (by rw [List.length_append,List.length_take]; omega)) hb
  exact ⟨gs,⟨g1,h.up,g2⟩⟩
theorem Syn.step {w:Wo} {fu fd:List Fr} (h:Syn w fu fd) (hi:WoI w) (v:Ev):∃gu gd,Syn (doM w v) gu gd:=by
 unfold doM
 split
 ·exact ⟨fu,fd,h.j.call v.path v.text,h.up,by rw [(callM_cb _ _ _).1]; exact h.down⟩
 ·split
  ·exact ⟨fu,fd,h.j.leave v.a,h.up,by rw [(leaveM_cb _ _).1]; exact h.down⟩
  ·split
   ·unfold sayWM
    split
    ·split
     ·obtain ⟨fs,f1,f2⟩:=h.j.writeUp
      exact ⟨fu++fs,fd,f2,by rw [bytes_app,←h.up,←f1,List.append_assoc],by rw [(writeM_cb _).1]; exact h.down⟩
     ·exact ⟨fu,fd,h⟩
    ·split
     ·split
      ·obtain ⟨fs,f1,f2⟩:=h.j.writeDown
       exact ⟨fu,fd++fs,f2,by rw [(writeM_cb _).1]; exact h.up,by rw [bytes_app,←h.down,←f1,List.append_assoc]⟩
      ·exact ⟨fu,fd,h⟩
     ·exact ⟨fu,fd,h⟩
   ·split
    ·unfold passM
     split
     ·rename_i hn
      split
      ·obtain ⟨g1,gs,g2⟩:=h.passUp hi (n:=v.b.toNat) (by omega)
       exact ⟨gs,fd,by rw [g1]; exact g2⟩
      ·split
       ·obtain ⟨g1,gs,g2⟩:=h.passDown hi (n:=v.b.toNat) (by omega)
        exact ⟨fu,gs,by rw [g1]; exact g2⟩
       ·exact ⟨fu,fd,h⟩
     ·exact ⟨fu,fd,h⟩
    ·exact ⟨fu,fd,h⟩
theorem syn_new:Syn newWo [] []:=by
 have hh:∀x i,¬Has (newEn x) i:=fun x i ⟨k,hk⟩=>by cases hk
 have hs:∀x i,stOf (newEn x) i=newSt i:=fun x i=>stOf_none (hh x i)
 have hS:∀x,Sid0 (newEn x):=fun x=>⟨(newEn_w x).mono (by decide),rfl,fun i=>by rw [hs]; exact ⟨fun _=>⟨rfl,rfl⟩,fun q=>(by cases q),fun _=>rfl⟩,fun _ i hi=>absurd hi (hh x i),fun _ i=>by rw [hs]; exact ⟨fun q=>absurd rfl q,fun q=>(by cases q),fun q=>absurd (show (1:Int)=2 from q) (by decide)⟩,fun i _=>by rw [hs]; rfl,rfl,fun f hf=>by cases hf⟩
 have hD:∀x y,Dir (newEn x) (newEn y) [] []:=fun x y=>⟨rfl,rfl,fun i=>by rw [hs,hs]; rfl,fun i=>by rw [hs]; exact .inl rfl,rfl,fun i _=>by rw [hs,hs]; rfl,fun f hf=>by cases hf⟩
 refine ⟨⟨⟨hS false,hS true,rfl,rfl,hD _ _,hD _ _,fun i hi=>absurd hi (hh true i),fun f hf=>?_,fun f hf=>(by cases hf),List.Pairwise.nil,fun i j _ hi=>absurd hi (hh false i),fun i hi=>?_⟩,loc_new _,loc_new _⟩,rfl,rfl⟩
 ·rcases hf with z | z | z | z <;> cases z
 ·rcases hi with z | ⟨f,z,_⟩
  ·have z:(stOf (newEn true) i).state=3:=z
   rw [hs] at z; exact absurd (show (1:Int)=3 from z) (by decide)
  ·rcases z with z | z <;> cases z
structure Pl (w:Wo):Prop where
 all:WoAll w
 syn:∃fu fd,Syn w fu fd
theorem Pl.step {w:Wo} (h:Pl w) (v:Ev):Pl (doM w v):=by
 obtain ⟨fu,fd,hs⟩:=h.syn
 exact ⟨h.all.step v,hs.step h.all.2.inc v⟩
theorem newWo_pl:Pl newWo:=⟨⟨newWo_w.mono (by decide),⟨loc_new _,loc_new _⟩,⟨newEn_inc _,newEn_inc _⟩⟩,[],[],syn_new⟩
theorem foldl_pl:∀(l:List Ev) (w:Wo),Pl w→Pl (l.foldl doM w)
 | [],w,h=>h
 | v :: l,w,h=>foldl_pl l (doM w v) (h.step v)
theorem playM_pl (l:List Ev):Pl (playM l):=foldl_pl l newWo newWo_pl
end
section
theorem Dir.none {S R:En} {q p:List Fr} (d:Dir S R q p) (hs:∀i,StI (stOf S i)) {i:Int} (h:(stOf R i).got=[]):(stOf R i).text=[]∧(stOf R i).heard=false:=by
 have hr:=d.run i
 have hg:(rv (stOf R i)).g=false:=by simp [rv,h]
 cases hb:(stOf S i).begun with
 | true=>exact run_none hr hg hb
 | false =>
  obtain ⟨h1,h2⟩:=(hs i).not hb
  have hx:sd (stOf S i)=⟨false,[],false⟩:=by simp [sd,hb,h1,h2]
  rw [hx] at hr
  obtain ⟨_,k2,⟨u,k3⟩,_,_⟩:=run_keeps hr
  refine ⟨(List.append_eq_nil_iff.1 k3.symm).1,?_⟩
  cases hh:(stOf R i).heard with
  | false=>rfl
  | true=>have:=congrArg Rv.h (k2 hh); rw [show (rv (stOf R i)).h=true from hh] at this; cases this
theorem Dir.all {S R:En} {q p:List Fr} (d:Dir S R q p) (hs:∀i,StI (stOf S i)) {i:Int} (h:(stOf R i).heard=true):(stOf S i).said=true∧(stOf S i).begun=true∧(stOf R i).text=(stOf S i).say∧(stOf R i).got=(stOf S i).head∧(stOf R i).got≠[]:=by
 have hx:=(run_keeps (d.run i)).2.1 h
 have h1:(stOf S i).said=true:=(congrArg Rv.h hx).trans h
 have h2:(stOf S i).begun=true:=by
  cases hb:(stOf S i).begun with
  | true=>rfl
  | false=>have:=((hs i).not hb).1; rw [h1] at this; cases this
 have h3:(stOf R i).got≠[]:=by
  have:(rv (stOf R i)).g=true:=(congrArg Rv.g hx).symm.trans h2
  simpa [rv] using this
 have h4:=(hs i).beg h2
 rw [h1] at h4
 have h5:(stOf S i).sent=((stOf S i).say.length:Int):=by simpa using h4.symm
 have h6:(stOf S i).say.take (stOf S i).sent.toNat=(stOf R i).text:=congrArg Rv.t hx
 refine ⟨h1,h2,?_,(d.got i).resolve_left h3,h3⟩
 rw [←h6,h5]
 simp
section
variable {c a:En} {fu fd:List Fr}
theorem J0.len (h:J0 c a fu fd):a.strs.length≤c.strs.length:=by
 by_cases h0:a.strs.length=0
 ·omega
 ·have hk:a.strs.length - 1 < a.strs.length:=by omega
  have h1:=stsOk_ids h.A.w.sts (a.strs.length - 1) hk
  obtain ⟨n,hn⟩:=h.hasUp (Has.at_ hk)
  obtain ⟨n1,n2⟩:=atM_some hn
  have h2:=(stsOk_iff.1 h.C.w.sts n n1).2.2
  rw [h.cans] at h2
  rcases h2 with q | q
  ·cases q
  ·have n2:(c.strs.getD n st0).id=(a.strs.getD (a.strs.length - 1) st0).id:=n2
   omega
end
end
section
theorem head_short {e:En} (h:Sid0 e) {k:Nat} (hk:k < e.strs.length):(stAt e k).head.length≤3:=by
 have hat:=h.w.at_ hk
 have hof:=h.w.of hk
 cases ha:e.ans with
 | false =>
  obtain ⟨path,q⟩:=(h.sc ha _ ⟨k,hat⟩).head
  rw [hof] at q; rw [q]; simp [callHead]
 | true =>
  by_cases h0:(stAt e k).head=[]
  ·rw [h0]; simp
  ·have:=((h.sa ha (stAt e k).id).ask (by rw [hof]; exact h0)).2.1
   rw [hof] at this; rw [this]; simp
section
variable {c a:En} {fu fd:List Fr}
end
end
section
def sayF (e:En) (k:Nat):List Fr:=if (stAt e k).state≠1∨(stAt e k).head=[]∨(stAt e k).said=true then [] else (beg1 e k).2++(pie1 (beg1 e k).1 k).2
def saysF:Nat→Nat→En→List Fr
 | 0,_,_=>[]
 | n+1,k,e=>sayF e k++saysF n (k+1) (sayM e k).1
def newF (e:En):List Fr:=saysF e.strs.length 0 { (waitM e e.wait).1 with wait:=[] }
theorem sayM_bytes {e:En} {k:Nat} (hk:k < e.strs.length):(sayM e k).2=bytes (sayF e k):=by
 unfold sayF
 by_cases hm:(stAt e k).state≠1∨(stAt e k).head=[]∨(stAt e k).said=true
 ·have q:sayM e k=(e,[]):=by unfold sayM; simp only; rw [if_pos hm]
  rw [q,if_pos hm]; rfl
 ·rw [sayM_steps hk hm,if_neg hm,bytes_app]
theorem saysM_bytes {N:Nat}:∀(n k:Nat) (e:En),EnW N e→k+n≤e.strs.length→(saysM n k e).2=bytes (saysF n k e)
 | 0,k,e,_,_=>rfl
 | n+1,k,e,hw,hk=>by
  obtain ⟨r1,r2⟩:=sayM_w hw (k:=k) (by omega)
  have:=saysM_bytes n (k+1) (sayM e k).1 r1 (by omega)
  show (sayM e k).2++(saysM n (k+1) (sayM e k).1).2=bytes (sayF e k++saysF n (k+1) (sayM e k).1)
  rw [bytes_app,sayM_bytes (by omega),this]
theorem waitM_bytes:∀(l:List Fr) (e:En),(waitM e l).2=bytes l
 | [],e=>rfl
 | f :: l,e=>by
  show frW f++(waitM (roomM e f) l).2=_
  rw [waitM_bytes l,bytes_cons]
theorem writeM_bytes {N:Nat} {e:En} (h:EnW N e):(writeM e).2=bytes (e.wait++newF e):=by
 obtain ⟨w1,w2,w3⟩:=waitM_w e.wait e h
 have:=saysM_bytes e.strs.length 0 { (waitM e e.wait).1 with wait:=[] } w1.noWait (by simp [w2])
 show (waitM e e.wait).2++(saysM e.strs.length 0 { (waitM e e.wait).1 with wait:=[] }).2=_
 rw [waitM_bytes,this,bytes_app]; rfl
structure SayS (e:En) (k:Nat) (x:En) (fs:List Fr):Prop where
 wait:x.wait=e.wait
 len:x.strs.length=e.strs.length
 other:∀j,j≠k→stAt x j=stAt e j
 id:(stAt x k).id=(stAt e k).id
 say:(stAt x k).say=(stAt e k).say
 head:(stAt x k).head=(stAt e k).head
 got:(stAt x k).got=(stAt e k).got∧(stAt x k).text=(stAt e k).text∧(stAt x k).room=(stAt e k).room
 ok:∀f ∈ fs,frameOk f=true
 stream:∀f ∈ fs,f.stream=(stAt e k).id
 kinds:∀f ∈ fs,f.kind=0∨f.kind=1
 data:∀f ∈ fs,f.kind=0→f.body=((stAt e k).say.drop (stAt e k).sent.toNat).take f.body.length∧(stAt x k).sent=(stAt e k).sent+f.body.length∧f.last=decide ((stAt e k).sent+f.body.length=(stAt e k).say.length)∧0 < f.body.length
 sent:(stAt x k).sent=(stAt e k).sent+(dat 0 fs:Nat)
 send:(stAt x k).send=(stAt e k).send - (dat 0 fs:Nat)
 all:x.send=e.send - (dat 0 fs:Nat)
 low:0≤(stAt x k).send∧0≤x.send∧(stAt x k).sent≤(stAt x k).say.length
 gone:(stAt e k).state≠1→fs=[]
theorem sayM_s {N:Nat} {e:En} {k:Nat} (hW:EnW N e) (hk:k < e.strs.length) (hh:(stAt e k).head.length≤3):SayS e k (sayM e k).1 (sayF e k):=by
 obtain ⟨w1,w2,w3,w4⟩:=sayM_keeps e k
 have hs:=stOk_iff.1 (hW.st hk)
 obtain ⟨a1,a2,a3,a4,a5,a6,a7,a8⟩:=hs
 have hg:=flowOk_iff.1 a8
 have hf:=flowOk_iff.1 hW.flow
 have h16:=(wordOk_iff.1 a5).2
 by_cases hm:(stAt e k).state≠1∨(stAt e k).head=[]∨(stAt e k).said=true
 ·have q:sayM e k=(e,[]):=by unfold sayM; simp only; rw [if_pos hm]
  have q2:sayF e k=[]:=by unfold sayF; rw [if_pos hm]
  rw [q,q2]
  exact ⟨rfl,rfl,fun _ _=>rfl,rfl,rfl,rfl,⟨rfl,rfl,rfl⟩,by simp,by simp,by simp,by simp,by simp [dat],by simp [dat],by simp [dat],⟨hg.1,hf.1,a7.2⟩,fun _=>rfl⟩
 ·have hst:(stAt e k).state=1:=by simpa using fun q=>hm (.inl q)
  have q2:sayF e k=(beg1 e k).2++(pie1 (beg1 e k).1 k).2:=by unfold sayF; rw [if_neg hm]
  have hl:=headW_len (stAt e k).head e.out e.outM (headOk_iff.1 a3).1 (by have:=(tableOk_parts hW.out).1; omega)
  have hb:∃x fs,(beg1 e k).1=x∧(beg1 e k).2=fs∧k < x.strs.length∧x.send=e.send∧(stAt x k).say=(stAt e k).say∧(stAt x k).sent=(stAt e k).sent∧(stAt x k).send=(stAt e k).send∧(stAt x k).id=(stAt e k).id∧(stAt x k).head=(stAt e k).head∧((stAt x k).got=(stAt e k).got∧(stAt x k).text=(stAt e k).text∧(stAt x k).room=(stAt e k).room)∧(∀f ∈ fs,f.kind=1∧f.stream=(stAt e k).id∧frameOk f=true):=by
   unfold beg1
   by_cases hbg:(stAt e k).begun=true
   ·rw [if_pos hbg]; exact ⟨e,[],rfl,rfl,hk,rfl,rfl,rfl,rfl,rfl,rfl,⟨rfl,rfl,rfl⟩,by simp⟩
   ·rw [if_neg hbg]
    have hx:k < ({ e with out:=(headW e.out e.outM (stAt e k).head).1 }:En).strs.length:=hk
    refine ⟨_,_,rfl,rfl,by simpa [setSt] using hk,rfl,?_,?_,?_,?_,?_,?_,?_⟩
    all_goals try simp only [stAt_set hx]
    ·rfl
    ·rfl
    ·rfl
    ·rfl
    ·rfl
    ·exact ⟨rfl,rfl,rfl⟩
    ·intro f hf
     rw [List.mem_singleton.1 hf]
     refine ⟨rfl,rfl,?_⟩
     simp [frameOk,a1]; omega
  obtain ⟨x,fs,hx,hfs,hkx,x1,x2,x3,x4,x5,x6,x7,x8⟩:=hb
  have hp:∃y gs n,(pie1 x k).1=y∧(pie1 x k).2=gs∧k < y.strs.length∧0≤n∧n≤((stAt e k).say.length:Int) - (stAt e k).sent∧n≤(stAt e k).send∧n≤e.send∧y.send=e.send - n∧(stAt y k).say=(stAt e k).say∧(stAt y k).sent=(stAt e k).sent+n∧(stAt y k).send=(stAt e k).send - n∧(stAt y k).id=(stAt e k).id∧(stAt y k).head=(stAt e k).head∧((stAt y k).got=(stAt e k).got∧(stAt y k).text=(stAt e k).text∧(stAt y k).room=(stAt e k).room) ∧
    ((gs=[]∧n=0)∨(0 < n∧gs=[⟨0,decide ((stAt e k).sent+n=(stAt e k).say.length),(stAt e k).id,((stAt e k).say.drop (stAt e k).sent.toNat).take n.toNat⟩])):=by
   unfold pie1
   by_cases hc:(stAt x k).said=false∧0 < mayM x (stAt x k)
   ·rw [if_pos hc]
    obtain ⟨m1,m2,m3⟩:=mayM_le x (stAt x k)
    have hkx':k < ({ x with send:=x.send - mayM x (stAt x k) }:En).strs.length:=hkx
    refine ⟨_,_,mayM x (stAt x k),rfl,rfl,by simpa [setSt] using hkx,by omega,by rw [x2,x3] at m1; exact m1,by rw [x4] at m2; exact m2,by rw [x1] at m3; exact m3,by show x.send - _=_; rw [x1],?_,?_,?_,?_,?_,?_,.inr ⟨hc.2,by rw [x2,x3,x5]⟩⟩
    all_goals simp only [stAt_set hkx']
    ·exact x2
    ·show (stAt x k).sent+_=_; rw [x3]
    ·show (stAt x k).send - _=_; rw [x4]
    ·exact x5
    ·exact x6
    ·exact x7
   ·rw [if_neg hc]
    exact ⟨x,[],0,rfl,rfl,hkx,Int.le_refl _,by omega,by omega,by omega,by rw [x1]; omega,x2,by rw [x3]; omega,by rw [x4]; omega,x5,x6,x7,.inl ⟨rfl,rfl⟩⟩
  obtain ⟨y,gs,n,hy,hgs,hky,n0,n1,n2,n3,y1,y2,y3,y4,y5,y6,y7,y8⟩:=hp
  have hd:∀z:En,k < z.strs.length→(don1 z k).send=z.send∧(stAt (don1 z k) k).say=(stAt z k).say∧(stAt (don1 z k) k).sent=(stAt z k).sent∧(stAt (don1 z k) k).send=(stAt z k).send∧(stAt (don1 z k) k).id=(stAt z k).id∧(stAt (don1 z k) k).head=(stAt z k).head∧((stAt (don1 z k) k).got=(stAt z k).got∧(stAt (don1 z k) k).text=(stAt z k).text∧(stAt (don1 z k) k).room=(stAt z k).room):=fun z hz=>by
   unfold don1
   split
   ·rw [stAt_set hz]; exact ⟨rfl,rfl,rfl,rfl,rfl,rfl,rfl,rfl,rfl⟩
   ·exact ⟨rfl,rfl,rfl,rfl,rfl,rfl,rfl,rfl,rfl⟩
  have e1:(sayM e k).1=don1 y k:=by rw [sayM_steps hk hm,hx,hy]
  have e2:sayF e k=fs++gs:=by rw [q2,hfs,hx,hgs]
  obtain ⟨d1,d2,d3,d4,d5,d6,d7,d8,d9⟩:=hd y hky
  have hdf:dat 0 fs=0:=dat_none (fun f hf=>by rw [(x8 f hf).1]; decide)
  have hbl:(((stAt e k).say.drop (stAt e k).sent.toNat).take n.toNat).length=n.toNat:=by simp; omega
  have hdn:((dat 0 (fs++gs):Nat):Int)=n:=by
   rw [dat_app,hdf]
   rcases y8 with ⟨z1,z2⟩ | ⟨z1,z2⟩
   ·rw [z1,z2]; rfl
   ·rw [z2]; simp only [dat,true_and,true_or,if_true,hbl]; omega
  have hmem:∀f ∈ gs,0 < n∧f=⟨0,decide ((stAt e k).sent+n=(stAt e k).say.length),(stAt e k).id,((stAt e k).say.drop (stAt e k).sent.toNat).take n.toNat⟩:=fun f hf=>by
   rcases y8 with ⟨z1,z2⟩ | ⟨z1,z2⟩
   ·rw [z1] at hf; cases hf
   ·rw [z2] at hf; exact ⟨z1,List.mem_singleton.1 hf⟩
  refine ⟨w1,w3,w4,?_,?_,?_,?_,fun f hf=>?_,fun f hf=>?_,fun f hf=>?_,fun f hf hk0=>?_,?_,?_,?_,?_,fun z=>absurd hst z⟩
  ·rw [e1,d5,y5]
  ·rw [e1,d2,y2]
  ·rw [e1,d6,y6]
  ·rw [e1,d7,d8,d9]; exact y7
  ·rw [e2] at hf
   rcases List.mem_append.1 hf with z | z
   ·exact (x8 f z).2.2
   ·obtain ⟨z1,z2⟩:=hmem f z
    rw [z2]
    simp only [frameOk,true_or,if_true,a1,hbl,Bool.true_and,decide_eq_true_eq]
    omega
  ·rw [e2] at hf
   rcases List.mem_append.1 hf with z | z
   ·exact (x8 f z).2.1
   ·rw [(hmem f z).2]
  ·rw [e2] at hf
   rcases List.mem_append.1 hf with z | z
   ·exact .inr (x8 f z).1
   ·rw [(hmem f z).2]; exact .inl rfl
  ·rw [e2] at hf
   rcases List.mem_append.1 hf with z | z
   ·rw [(x8 f z).1] at hk0; cases hk0
   ·obtain ⟨z1,z2⟩:=hmem f z
    have hbl':(f.body.length:Int)=n:=by rw [z2]; simp only [hbl]; omega
    refine ⟨?_,by rw [e1,d3,y3,hbl'],?_,by omega⟩
    ·have:f.body.length=n.toNat:=by omega
     rw [this,z2]
    ·rw [hbl',z2]
  ·rw [e1,e2,hdn,d3,y3]
  ·rw [e1,e2,hdn,d4,y4]
  ·rw [e1,e2,hdn,d1,y1]
  ·rw [e1,d4,d1,d3,d2,y4,y1,y3,y2]
   omega
theorem dat_one {id:Int} (h0:id≠0):∀{l:List Fr},(∀f ∈ l,f.stream=id)→dat id l=dat 0 l
 | [],_=>rfl
 | f :: l,h=>by
  have h1:=h f (by simp)
  have h2:=dat_one h0 (l:=l) (fun g hg=>h g (by simp [hg]))
  simp only [dat,h1,or_true,true_or,h2]
theorem dat_off {id:Int} (h0:id≠0):∀{l:List Fr},(∀f ∈ l,f.stream≠id)→dat id l=0
 | [],_=>rfl
 | f :: l,h=>by
  have h1:=h f (by simp)
  simp only [dat]
  rw [if_neg (by rintro ⟨_,z | z⟩; exact h0 z; exact h1 z),dat_off h0 (fun g hg=>h g (by simp [hg]))]
structure SaysS (e:En) (k n:Nat) (x:En) (fs:List Fr):Prop where
 wait:x.wait=e.wait
 len:x.strs.length=e.strs.length
 out:∀i,i < k∨k+n≤i→stAt x i=stAt e i
 id:∀i,(stAt x i).id=(stAt e i).id
 say:∀i,(stAt x i).say=(stAt e i).say
 ok:∀f ∈ fs,frameOk f=true∧(f.kind=0∨f.kind=1)
 of:∀f ∈ fs,∃i,k≤i∧i < k+n∧f.stream=(stAt e i).id∧(stAt e i).state=1
 data:∀f ∈ fs,f.kind=0→∀i,i < e.strs.length→f.stream=(stAt e i).id→f.body=((stAt e i).say.drop (stAt e i).sent.toNat).take f.body.length∧(stAt x i).sent=(stAt e i).sent+f.body.length∧f.last=decide ((stAt e i).sent+f.body.length=(stAt e i).say.length)∧(stAt e i).sent+f.body.length≤(stAt e i).say.length
 own:∀i,i < e.strs.length→(stAt x i).sent=(stAt e i).sent+(dat (stAt e i).id fs:Nat)∧(stAt x i).send=(stAt e i).send - (dat (stAt e i).id fs:Nat)∧0≤(stAt x i).send
 all:x.send=e.send - (dat 0 fs:Nat)
 low:0≤x.send
theorem EnW.inj {N:Nat} {e:En} (h:EnW N e) {i j:Nat} (hi:i < e.strs.length) (hj:j < e.strs.length) (hij:(stAt e i).id=(stAt e j).id):i=j:=by
 rcases Nat.lt_trichotomy i j with z | z | z
 ·have:=h.ids z hj; omega
 ·exact z
 ·have:=h.ids z hi; omega
theorem saysM_s {N:Nat}:∀(n k:Nat) (e:En),EnW N e→k+n≤e.strs.length→(∀i,i < e.strs.length→(stAt e i).head.length≤3)→SaysS e k n (saysM n k e).1 (saysF n k e)
 | 0,k,e,hW,_,_=>⟨rfl,rfl,fun _ _=>rfl,fun _=>rfl,fun _=>rfl,by simp [saysF],by simp [saysF],by simp [saysF],fun i hi=>⟨by simp [saysF,saysM,dat],by simp [saysF,saysM,dat],(flowOk_iff.1 (stOk_iff.1 (hW.st hi)).2.2.2.2.2.2.2).1⟩,by simp [saysF,saysM,dat],(flowOk_iff.1 hW.flow).1⟩
 | n+1,k,e,hW,hk,hh=>by
  have hkl:k < e.strs.length:=by omega
  obtain ⟨r1,r2⟩:=sayM_w hW hkl
  have s:=sayM_s hW hkl (hh k hkl)
  have hid:∀i,(stAt (sayM e k).1 i).id=(stAt e i).id:=fun i=>by
   by_cases q:i=k
   ·rw [q]; exact s.id
   ·rw [s.other i q]
  have hst:∀i,i≠k→stAt (sayM e k).1 i=stAt e i:=s.other
  have t:=saysM_s n (k+1) (sayM e k).1 r1 (by omega) (fun i hi=>by
   by_cases q:i=k
   ·rw [q,s.head]; exact hh k hkl
   ·rw [s.other i q]; exact hh i (by omega))
  have hx:(saysM (n+1) k e).1=(saysM n (k+1) (sayM e k).1).1:=rfl
  have hf:saysF (n+1) k e=sayF e k++saysF n (k+1) (sayM e k).1:=rfl
  rw [hx,hf]
  generalize (saysM n (k+1) (sayM e k).1).1=x at *
  generalize saysF n (k+1) (sayM e k).1=gs at *
  generalize (sayM e k).1=e1 at *
  generalize sayF e k=fs at *
  have hid0:∀i,i < e.strs.length→(stAt e i).id≠0:=fun i hi=>strm_pos (stOk_iff.1 (hW.st hi)).1
  have hgs:∀i,i < e.strs.length→i < k+1→dat (stAt e i).id gs=0:=fun i hi hik=>dat_off (hid0 i hi) (fun f hfm q=>by
   obtain ⟨j,j1,j2,j3,_⟩:=t.of f hfm
   rw [hid] at j3
   have:=hW.inj hi (by omega) (q.symm.trans j3)
   omega)
  have hfs:∀i,i < e.strs.length→i≠k→dat (stAt e i).id fs=0:=fun i hi hik=>dat_off (hid0 i hi) (fun f hfm q=>by
   rw [s.stream f hfm] at q
   exact hik (hW.inj hi hkl q.symm))
  have hfk:dat (stAt e k).id fs=dat 0 fs:=dat_one (hid0 k hkl) s.stream
  refine ⟨t.wait.trans s.wait,t.len.trans s.len,fun i hi=>?_,fun i=>(t.id i).trans (hid i),fun i=>?_,fun f hfm=>?_,fun f hfm=>?_,fun f hfm hk0 i hi hfi=>?_,fun i hi=>?_,?_,t.low⟩
  ·rw [t.out i (by omega),s.other i (by omega)]
  ·rw [t.say]
   by_cases q:i=k
   ·rw [q,s.say]
   ·rw [s.other i q]
  ·rcases List.mem_append.1 hfm with z | z
   ·exact ⟨s.ok f z,s.kinds f z⟩
   ·exact t.ok f z
  ·rcases List.mem_append.1 hfm with z | z
   ·refine ⟨k,Nat.le_refl _,by omega,s.stream f z,?_⟩
    by_cases q:(stAt e k).state=1
    ·exact q
    ·rw [s.gone q] at z; cases z
   ·obtain ⟨j,j1,j2,j3,j4⟩:=t.of f z
    rw [hst j (by omega)] at j3 j4
    exact ⟨j,by omega,by omega,j3,j4⟩
  ·rcases List.mem_append.1 hfm with z | z
   ·have:i=k:=hW.inj hi hkl (hfi.symm.trans (s.stream f z))
    subst this
    obtain ⟨d1,d2,d3,d4⟩:=s.data f z hk0
    refine ⟨d1,?_,d3,?_⟩
    ·rw [t.out i (by omega)]; exact d2
    ·have:=s.low.2.2; rw [d2,s.say] at this; exact this
   ·obtain ⟨j,j1,j2,j3,j4⟩:=t.of f z
    have hji:i=j:=hW.inj hi (by omega) (hfi.symm.trans (j3.trans (hid j)))
    have:=t.data f z hk0 i (by rw [s.len]; exact hi) (by rw [hid]; exact hfi)
    rw [hst i (by omega)] at this
    exact this
  ·have ti:=t.own i (by rw [s.len]; exact hi)
   rw [hid] at ti
   by_cases q:i=k
   ·subst q
    rw [dat_app,hfk,hgs i hi (by omega)]
    rw [hgs i hi (by omega)] at ti
    have e1':=s.sent; have e2':=s.send
    refine ⟨by rw [ti.1,e1']; omega,by rw [ti.2.1,e2']; omega,ti.2.2⟩
   ·rw [dat_app,hfs i hi q]
    rw [hst i q] at ti
    exact ⟨by rw [ti.1]; omega,by rw [ti.2.1]; omega,ti.2.2⟩
  ·rw [dat_app,t.all,s.all]; omega
structure WrS (e x:En) (fs:List Fr):Prop where
 bytes:(writeM e).2=bytes (e.wait++fs)
 wait:x.wait=[]
 len:x.strs.length=e.strs.length
 ok:∀f ∈ fs,frameOk f=true∧(f.kind=0∨f.kind=1)
 of:∀f ∈ fs,∃i,i < e.strs.length∧f.stream=(stAt e i).id∧(stAt e i).state=1
 data:∀f ∈ fs,f.kind=0→∀i,i < e.strs.length→f.stream=(stAt e i).id→f.body=((stAt e i).say.drop (stAt e i).sent.toNat).take f.body.length∧(stAt x i).sent=(stAt e i).sent+f.body.length∧f.last=decide ((stAt e i).sent+f.body.length=(stAt e i).say.length)∧(stAt e i).sent+f.body.length≤(stAt e i).say.length
 own:∀i,i < e.strs.length→((dat (stAt e i).id fs:Nat):Int)≤(stAt e i).send
 all:x.send=e.send - (dat 0 fs:Nat)
 low:0≤x.send
theorem roomM_at (e:En) (f:Fr) (i:Nat):∃r,stAt (roomM e f) i=(stAt e i).withRoom r:=by
 unfold roomM
 split
 ·exact ⟨(stAt e i).room,rfl⟩
 ·split
  ·exact ⟨(stAt e i).room,rfl⟩
  ·split
   ·exact ⟨(stAt e i).room,rfl⟩
   ·rename_i k hk
    by_cases q:i=k
    ·subst q; rw [stAt_set (atM_some hk).1]; exact ⟨_,rfl⟩
    ·refine ⟨(stAt e i).room,?_⟩
     show (e.strs.set k _).getD i st0=_
     rw [getD_set st0 _ (atM_some hk).1,if_neg q]; rfl
theorem roomM_send (e:En) (f:Fr):(roomM e f).send=e.send:=by
 unfold roomM; split
 ·rfl
 ·split
  ·rfl
  ·split <;> rfl
theorem waitM_at:∀(l:List Fr) (e:En) (i:Nat),∃r,stAt (waitM e l).1 i=(stAt e i).withRoom r
 | [],e,i=>⟨(stAt e i).room,rfl⟩
 | f :: l,e,i=>by
  obtain ⟨r,h⟩:=roomM_at e f i
  obtain ⟨r',h'⟩:=waitM_at l (roomM e f) i
  exact ⟨r',by rw [show (waitM e (f :: l)).1=(waitM (roomM e f) l).1 from rfl,h',h]; rfl⟩
theorem waitM_send:∀(l:List Fr) (e:En),(waitM e l).1.send=e.send
 | [],e=>rfl
 | f :: l,e=>(waitM_send l _).trans (roomM_send e f)
theorem writeM_s {N:Nat} {e:En} (h:EnW N e) (hh:∀i,i < e.strs.length→(stAt e i).head.length≤3):WrS e (writeM e).1 (newF e):=by
 obtain ⟨w1,w2,w3⟩:=waitM_w e.wait e h
 have hat:∀i,∃r,stAt { (waitM e e.wait).1 with wait:=[] } i=(stAt e i).withRoom r:=fun i=>waitM_at e.wait e i
 have hs:=saysM_s e.strs.length 0 { (waitM e e.wait).1 with wait:=[] } w1.noWait (by simp [w2]) (fun i hi=>by
  obtain ⟨r,q⟩:=hat i
  rw [q]; exact hh i (by simpa [w2] using hi))
 have hsend:({ (waitM e e.wait).1 with wait:=[] }:En).send=e.send:=waitM_send e.wait e
 have hlen:({ (waitM e e.wait).1 with wait:=[] }:En).strs.length=e.strs.length:=w2
 have hx:(writeM e).1=(saysM e.strs.length 0 { (waitM e e.wait).1 with wait:=[] }).1:=rfl
 have hn:newF e=saysF e.strs.length 0 { (waitM e e.wait).1 with wait:=[] }:=rfl
 have hb:=writeM_bytes h
 rw [hx]
 rw [hn] at hb ⊢
 refine ⟨hb,hs.wait,hs.len.trans hlen,hs.ok,fun f hf=>?_,fun f hf hk i hi hfi=>?_,fun i hi=>?_,by rw [hs.all,hsend],hs.low⟩
 ·obtain ⟨i,i1,i2,i3,i4⟩:=hs.of f hf
  obtain ⟨r,q⟩:=hat i
  rw [q] at i3 i4
  exact ⟨i,by omega,i3,i4⟩
 ·obtain ⟨r,q⟩:=hat i
  have:=hs.data f hf hk i (by omega) (by rw [q]; exact hfi)
  rw [q] at this
  exact this
 ·obtain ⟨r,q⟩:=hat i
  have:=hs.own i (by omega)
  rw [q] at this
  have h1:(stAt (saysM e.strs.length 0 { (waitM e e.wait).1 with wait:=[] }).1 i).send=(stAt e i).send - _:=this.2.1
  have h2:=this.2.2
  rw [h1] at h2
  have h3:0≤(stAt e i).send - ((dat (stAt e i).id (saysF e.strs.length 0 { (waitM e e.wait).1 with wait:=[] }):Nat):Int):=h2
  omega
end
end Go.Proofs.YtdplmibomopkcaaGreat
