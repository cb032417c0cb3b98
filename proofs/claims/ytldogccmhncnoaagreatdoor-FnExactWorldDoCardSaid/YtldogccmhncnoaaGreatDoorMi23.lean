/- A part of the proof: contracts of functions, or plain facts on which these lean. -/
import Derived.Test.YtldogccmhncnoaaGreatDoorMi17
import Derived.Test.YtldogccmhncnoaaGreatDoorMi22
namespace Go.Proofs.YtldogccmhncnoaaGreatDoor
open Go
set_option linter.unusedVariables false
set_option linter.unusedSimpArgs false
set_option maxRecDepth 100000
set_option maxHeartbeats 16000000

section
open Go
theorem decM_lenk:∀(k n:Nat),n < 10 ^ (k+1)→(decM n).length≤k+1
 | 0,n,h=>by rw [decM_small (by simpa using h)]; simp
 | k+1,n,h=>by
  by_cases hs:n < 10
  ·rw [decM_small hs]; simp
  ·rw [decM_big hs,List.length_append]
   have:=decM_lenk k (n / 10) (by rw [Nat.pow_succ] at h; omega)
   simp
   omega
theorem decM_len (n:Nat) (hn:n≤1000000000):(decM n).length≤10:=decM_lenk 9 n (by omega)
theorem by8_add (m:Nat):UInt8.ofNat (48+(m:Int)).toNat=by8 (48+m):=by
 rw [show (48+(m:Int)).toNat=48+m by omega]
 rfl
theorem l6Dec_ok (n:Nat) (hn:n≤1000000000) (S:List Blk):VCall Tryz.prog 132 [.int .i64 n] S fun r S'=>r=.str (decM n)∧S'=S:=by
 induction n using Nat.strongRecOn generalizing S with
 | ind n ih =>
 have h0:¬(n:Int) < -9223372036854775807:=by omega
 have h1:¬(n:Int) < 0:=by omega
 by_cases hs:n < 10
 ·have h2:(n:Int) < 10:=by omega
  refine VCall.ex hD (fun f=>if f=some 132 then true else false) (fun id=>if id=7 then [11,11,11,7,7,7,7,11,11,11,11] else []) Tryz.func132 Tryz.ntmps132 Tryz.results132 ?_
  simp -implicitDefEqProofs (disch:=omega) only [push_cast,simprocAttr,h0,h1,h2,↓gd]
  refine fin1 (.str _) ?_
  rw [decM_small hs]
  exact congrArg (fun x=>V.str [x]) (by8_add n)
 ·have h2:¬(n:Int) < 10:=by omega
  have e1:(n:Int).tdiv 10=((n / 10:Nat):Int):=by rw [Int.tdiv_eq_ediv_of_nonneg (by omega)]; omega
  have e2:(n:Int).tmod 10=((n % 10:Nat):Int):=by rw [Int.tmod_eq_emod_of_nonneg (by omega)]; omega
  refine VCall.ex hD (fun f=>if f=some 132 then true else false) (fun id=>if id=7 then [11,11,11,7,7,7,7,11,11,11,11] else []) Tryz.func132 Tryz.ntmps132 Tryz.results132 ?_
  simp -implicitDefEqProofs (disch:=omega) only [push_cast,simprocAttr,h0,h1,h2,e1,e2,↓gd]
  refine ⟨_,fun S0=>ih (n / 10) (by omega) (by omega) S0,?_⟩
  have hdl:=decM_len (n / 10) (by omega)
  simp -implicitDefEqProofs (disch:=omega) only [push_cast,simprocAttr,h0,h1,h2,e1,e2,↓gd]
  refine ⟨by omega,fin1 (.str _) ?_⟩
  rw [decM_big hs,←by8_add]
  rfl
theorem stV_cl (n:Nat) (s:St):Cl n (stV s):=by
 refine .agg (fun v hv=>?_)
 simp only [strC,List.mem_cons,List.not_mem_nil,or_false] at hv
 rcases hv with rfl | rfl | rfl | rfl | rfl | rfl | rfl | rfl | rfl | rfl | rfl | rfl <;> first | exact .int _ _ | exact .str _ | exact .bool _ | exact cl_fds _ _
theorem l21New_ok (id:Int) (S:List Blk):VCall Tryz.prog 133 [.int .i64 id] S fun r S'=>r=stV (newSt id)∧S'=S:=by
 refine VCall.en hD Tryz.func133 Tryz.ntmps133 Tryz.results133 ?_
 simp -implicitDefEqProofs (disch:=omega) only [push_cast,simprocAttr,↓gd]
 exact finE (stV_cl _ (newSt id)) rfl
theorem l21Call_ok {N:Nat} {e:En} (hW:EnW N e) (hN:N≤1100000) (path text:List UInt8) (hp:path.length≤2000000) (ht:text.length≤2000000) {S:List Blk} {b c:Nat} (h:EnAt S b c e):VCall Tryz.prog 100 [eV b c e,.str path,.str text] S fun r S' =>
  ∃v,r=.tup [v,.int .i64 (callM e path text).2.1,.bool (callM e path text).2.2]∧RTo S b c (callM e path text).1 v S'∧((callM e path text).2.2=false→EnAt S' b c e):=by
 have he:=hW.b hN
 have hsl:=stsOk_len hW.sts
 obtain ⟨ans,out,outM,inn,innM,came,strs,snd,rm,wait,bad⟩:=e
 have hne:=h.ne
 have hb:S[b]?=some (.cells 12 (strsC strs)):=h.1
 have hc:S[c]?=some (.cells 4 (frmsC wait)):=h.2
 have hbl:=lt_of_some hb
 have hcl:=lt_of_some hc
 have hlen:=strsC_len strs
 simp only at hsl
 have hdl:=decM_len text.length (by omega)
 have hm:callM ⟨ans,out,outM,inn,innM,came,strs,snd,rm,wait,bad⟩ path text=if ans=true∨2 * (strs.length:Int)+1 > 7∨headOk (callHead path text)=false∨wordOk text=false then ((⟨ans,out,outM,inn,innM,came,strs,snd,rm,wait,bad⟩,0,false):En × Int × Bool)
  else (⟨ans,out,outM,inn,innM,came,strs++[{ newSt (2 * strs.length+1) with head:=callHead path text,say:=text }],snd,rm,wait,bad⟩,2 * strs.length+1,true):=rfl
 have hfb:FdsB (callHead path text):=by
  refine ⟨by simp [callHead],fun f hf=>?_⟩
  simp only [callHead,List.mem_cons,List.not_mem_nil,or_false] at hf
  rcases hf with rfl | rfl | rfl
  ·exact ⟨by simp [sPath],by simp only; omega⟩
  ·exact ⟨by simp [sKind],by simp [sText]⟩
  ·exact ⟨by simp [sSize],by simp only; omega⟩
 have hcv:([.agg [.str [58,112,97,116,104],.str path,.bool false],.agg [.str [107,105,110,100],.str [116,101,120,116],.bool false],.agg [.str [115,105,122,101],.str (decM text.length),.bool false]]:List V)=(callHead path text).map fV:=rfl
 refine VCall.en hDe Tryz.func100 Tryz.ntmps100 Tryz.results100 ?_
 simp -implicitDefEqProofs (disch:=omega) only [push_cast,simprocAttr,↓gd]
 refine (l6Dec_ok text.length (by omega) _).to ?_
 cases ans
 ·by_cases hid:2 * (strs.length:Int)+1 > 7
  ·rw [hm,if_pos (.inr (.inl hid))]
   simp -implicitDefEqProofs (disch:=omega) only [push_cast,simprocAttr,hid,↓gd]
   exact ⟨_,_,Wk.refl _ _ _,_,rfl,.stay h,h.app _⟩
  ·simp -implicitDefEqProofs (disch:=omega) only [push_cast,simprocAttr,hid,↓gd]
   refine ((sHeadOk_ok (callHead path text) hfb _).as rfl).to ?_
   cases hh:headOk (callHead path text)
   ·rw [hm,if_pos (.inr (.inr (.inl hh)))]
    simp -implicitDefEqProofs (disch:=omega) only [push_cast,simprocAttr,hid,↓gd]
    exact ⟨_,_,Wk.refl _ _ _,_,rfl,.stay h,h.app _⟩
   ·simp -implicitDefEqProofs (disch:=omega) only [push_cast,simprocAttr,hid,↓gd]
    refine ((sWordOk_ok text (by omega) _).as rfl).to ?_
    cases hwt:wordOk text
    ·rw [hm,if_pos (.inr (.inr (.inr hwt)))]
     simp -implicitDefEqProofs (disch:=omega) only [push_cast,simprocAttr,hid,↓gd]
     exact ⟨_,_,Wk.refl _ _ _,_,rfl,.stay h,h.app _⟩
    ·rw [hm,if_neg (by simp [hh,hwt]; omega)]
     simp -implicitDefEqProofs (disch:=omega) only [push_cast,simprocAttr,hid,↓gd]
     refine (l21New_ok _ _).to ?_
     simp -implicitDefEqProofs (disch:=omega) only [push_cast,simprocAttr,hb,↓gd]
     repeat refine And.intro (by omega) ?_
     refine ⟨_,_,Wk.refl _ _ _,_,rfl,RTo.mk (S.length+5) c (by simp [eV,enV,enC]) ?_ ?_ (.inr (by omega)) (.inl rfl) (((Upd.refl _ _).set _ (.inr (by simp))).app _)⟩
     ·simp -implicitDefEqProofs (disch:=omega) only [push_cast,simprocAttr,↓gd]
      rw [strsC_app,strsC_one]
      rfl
     ·simp -implicitDefEqProofs (disch:=omega) only [push_cast,simprocAttr,hc,↓gd]
 ·rw [hm,if_pos (.inl rfl)]
  simp -implicitDefEqProofs (disch:=omega) only [push_cast,simprocAttr,↓gd]
  exact ⟨_,_,Wk.refl _ _ _,_,rfl,.stay h,h.app _⟩
theorem getM_at {h:List Fd} {name:List UInt8} {i:Nat} (hi:i < h.length) (hno:∀j,j < i→(h.getD j fd0).name≠name) (he:(h.getD i fd0).name=name):getM h name=((h.getD i fd0).val,true):=by
 have:h.find? (fun f=>decide (f.name=name))=some (h.getD i fd0):=by
  rw [List.find?_eq_some_iff_getElem]
  have e:∀{j} (hj:j < h.length),h.getD j fd0=h[j]:=fun hj=>by rw [List.getD,List.getElem?_eq_getElem hj]; rfl
  refine ⟨by simpa using he,i,hi,(e hi).symm,fun j hj=>?_⟩
  have:=hno j hj
  rw [e (by omega)] at this
  simpa using this
 rw [getM,this]
theorem getM_no {h:List Fd} {name:List UInt8} (hno:∀j,j < h.length→(h.getD j fd0).name≠name):getM h name=([],false):=by
 have:h.find? (fun f=>decide (f.name=name))=none:=by
  rw [List.find?_eq_none]
  intro f hf
  obtain ⟨j,hj,rfl⟩:=List.getElem_of_mem hf
  have:=hno j hj
  rw [List.getD,List.getElem?_eq_getElem hj] at this
  simpa using this
 rw [getM,this]
theorem sHeadGet_ok (h:List Fd) (hk:headOk h=true) (name:List UInt8) (S:List Blk):VCall Tryz.prog 177 [.rows none (h.map fV),.str name] S fun r S'=>r=.tup [.str (getM h name).1,.bool (getM h name).2]∧S'=S:=by
 have hl:=headOk_b hk
 have hlen:=hl.1
 refine VCall.en hD Tryz.func177 Tryz.ntmps177 Tryz.results177 ?_
 simp -implicitDefEqProofs (disch:=omega) only [push_cast,simprocAttr,↓gd]
 refine ((sHeadOk_ok h hl _).as rfl).to ?_
 simp -implicitDefEqProofs (disch:=omega) only [push_cast,simprocAttr,hk,↓gd]
 refine wpV_loop (fun m t S'=>∃i:Nat,m=h.length - i∧i≤h.length∧(∀j,j < i→(h.getD j fd0).name≠name)∧t 0=.rows none (h.map fV)∧t 1=.str name∧t 6=.int .i64 i∧S'=S) h.length ⟨0,by omega,by omega,by omega,rfl,rfl,rfl,rfl⟩ ?_
 rintro m t S' ⟨i,rfl,hi,hno,h0,h1,h6,rfl⟩
 refine wpV_of0 hD ?_
 simp -implicitDefEqProofs (disch:=omega) only [push_cast,simprocAttr,h0,h1,h6,↓gd]
 refine ⟨fun q=>?_,fun q=>?_⟩
 ·have hil:i < h.length:=by omega
  have hgd:=getD_fV hil
  have hat:=getM_at (name:=name) hil hno
  generalize hf:h.getD i fd0=f at hgd hat
  by_cases hq:f.name=name
  ·have hm:=hat hq
   simp -implicitDefEqProofs (disch:=omega) only [push_cast,simprocAttr,h0,h1,h6,hgd,hq,↓gd]
   repeat refine And.intro (by omega) ?_
   exact fin0 (by rw [hm])
  ·simp -implicitDefEqProofs (disch:=omega) only [push_cast,simprocAttr,h0,h1,h6,hgd,hq,↓gd]
   repeat refine And.intro (by omega) ?_
   refine ⟨h.length - (i+1),by omega,i+1,rfl,by omega,fun j hj=>?_,by simp⟩
   by_cases e1:j=i
   ·rw [e1,hf]; exact hq
   ·exact hno j (by omega)
 ·exact fin0 (by rw [getM_no (fun j hj=>hno j (by omega))])
theorem upM_take {w:List UInt8} {i:Nat} (h:i < w.length):upM (w.take (i+1))=upM (w.take i)++[if 97≤(w.getD i 0).toNat∧(w.getD i 0).toNat < 122 then by8 ((w.getD i 0).toNat+1) else w.getD i 0]:=by
 rw [List.take_succ_eq_append_getElem h,upM,List.map_append,getD_lt 0 h]
 rfl
theorem upM_len (w:List UInt8):(upM w).length=w.length:=by simp [upM]
theorem l21Up_ok (w:List UInt8) (hw:w.length≤1100000) (S:List Blk):VCall Tryz.prog 199 [.str w] S fun r S'=>r=.str (upM w)∧S'=S:=by
 refine VCall.en hD Tryz.func199 Tryz.ntmps199 Tryz.results199 ?_
 simp -implicitDefEqProofs (disch:=omega) only [push_cast,simprocAttr,↓gd]
 refine wpV_loop (fun m t S'=>∃(i:Nat) (X:List Blk),m=w.length - i∧i≤w.length∧t 0=.str w∧t 3=.str (upM (w.take i))∧t 4=.int .i64 i∧S'=S++X) w.length ⟨0,[],by omega,by omega,rfl,rfl,rfl,by simp⟩ ?_
 rintro m t S' ⟨i,X,rfl,hi,h0,h3,h4,rfl⟩
 refine wpV_of0 hD ?_
 simp -implicitDefEqProofs (disch:=omega) only [push_cast,simprocAttr,h0,h3,h4,↓gd]
 refine ⟨fun q=>?_,fun q=>?_⟩
 ·have hil:i < w.length:=by omega
  have ht:=upM_take hil
  have hul:=upM_len (w.take i)
  have hti:(w.take i).length=i:=by simp; omega
  have hb:=UInt8.toNat_lt (w.getD i 0)
  generalize w.getD i 0=x at ht hb
  have hx:UInt8.ofNat x.toNat=x:=by simp
  have e:x.toNat < 122→UInt8.ofNat (IntKind.u8.wrap ((x.toNat:Int)+1)).toNat=by8 (x.toNat+1):=fun q=>by rw [show (x.toNat:Int)+1=((x.toNat+1:Nat):Int) by omega,by8_wrap]
  refine ⟨by omega,by omega,fun h1=>⟨fun h2=>?_,fun h2=>?_⟩,fun h1=>?_⟩
  ·rw [if_pos (by omega)] at ht
   rw [e (by omega)]
   exact ⟨by omega,w.length - (i+1),by omega,i+1,X++[.right 1],rfl,by omega,by rw [ht],by simp,rfl⟩
  ·rw [if_neg (by omega)] at ht
   rw [hx]
   exact ⟨by omega,w.length - (i+1),by omega,i+1,X++[.right 1],rfl,by omega,by rw [ht],by simp,rfl⟩
  ·rw [if_neg (by omega)] at ht
   rw [hx]
   exact ⟨by omega,w.length - (i+1),by omega,i+1,X++[.right 1],rfl,by omega,by rw [ht],by simp,rfl⟩
 ·have:i=w.length:=by omega
  subst this
  exact fin1 (.str _) (by rw [List.take_length])
theorem sEndAnswer_ok (path text:List UInt8) (ht:text.length < 100) (S:List Blk):VCall Tryz.prog 178 [.str path,.str text] S fun r S'=>r=.tup [.str (answerM path text).1,.str (answerM path text).2]∧S'=S:=by
 refine VCall.en hD Tryz.func178 Tryz.ntmps178 Tryz.results178 ?_
 by_cases h1:path=sEcho
 ·have h1':(path=[47,101,99,104,111])=True:=eq_true h1
  simp -implicitDefEqProofs (disch:=omega) only [push_cast,simprocAttr,h1',↓gd]
  exact fin0 (by rw [answerM,if_pos h1])
 ·have h1':¬path=[47,101,99,104,111]:=h1
  by_cases h2:path=sUp
  ·have h2':(path=[47,117,112])=True:=eq_true h2
   simp -implicitDefEqProofs (disch:=omega) only [push_cast,simprocAttr,h1',h2',↓gd]
   refine (l21Up_ok text (by omega) _).to ?_
   simp -implicitDefEqProofs (disch:=omega) only [push_cast,simprocAttr,↓gd]
   exact fin0 (by rw [answerM,if_neg h1,if_pos h2])
  ·have h2':¬path=[47,117,112]:=h2
   by_cases h3:path=sLen
   ·have h3':(path=[47,108,101,110])=True:=eq_true h3
    simp -implicitDefEqProofs (disch:=omega) only [push_cast,simprocAttr,h1',h2',h3',↓gd]
    refine (l6Dec_ok _ (by omega) _).to ?_
    simp -implicitDefEqProofs (disch:=omega) only [push_cast,simprocAttr,↓gd]
    exact fin0 (by rw [answerM,if_neg h1,if_neg h2,if_pos h3])
   ·have h3':¬path=[47,108,101,110]:=h3
    simp -implicitDefEqProofs (disch:=omega) only [push_cast,simprocAttr,h1',h2',h3',↓gd]
    refine fin0 ?_
    rw [answerM,if_neg h1,if_neg h2,if_neg h3]
theorem l21Ask_ok (s:St) (hg:headOk s.got=true) (ht:s.text.length < 100) (S:List Blk):VCall Tryz.prog 161 [stV s] S fun r S'=>r=stV (askM s)∧S'=S:=by
 refine VCall.en hD Tryz.func161 Tryz.ntmps161 Tryz.results161 ?_
 simp -implicitDefEqProofs (disch:=omega) only [push_cast,simprocAttr,↓gd]
 refine (sHeadGet_ok s.got hg _ _).to ?_
 simp -implicitDefEqProofs (disch:=omega) only [push_cast,simprocAttr,↓gd]
 refine (sEndAnswer_ok _ s.text ht _).to ?_
 simp -implicitDefEqProofs (disch:=omega) only [push_cast,simprocAttr,↓gd]
 exact finE (stV_cl _ (askM s)) rfl
theorem l21Done_ok {v w:V} (e:En) (s:St) (hg:headOk s.got=true) (ht:s.text.length < 100) (hv:V.one v=true) (hw:V.one w=true) (S:List Blk):VCall Tryz.prog 144 [enV v w e,stV s] S fun r S'=>r=stV (doneM e.ans s)∧S'=S:=by
 have hs0:=doneM e.ans s
 refine VCall.en hD Tryz.func144 Tryz.ntmps144 Tryz.results144 ?_
 by_cases h1:s.state=1
 ·rcases Bool.eq_false_or_eq_true e.ans with ha | ha
  ·simp -implicitDefEqProofs (disch:=omega) only [push_cast,simprocAttr,hv,hw,h1,ha,↓gd]
   refine ((l21Ask_ok { s with heard:=true } hg ht _).as (by simp [stV,strC,h1])).to ?_
   simp -implicitDefEqProofs (disch:=omega) only [push_cast,simprocAttr,↓gd]
   exact fin1 (stV_cl _ _) (by simp [doneM,h1,ha,stV,strC])
  ·simp -implicitDefEqProofs (disch:=omega) only [push_cast,simprocAttr,hv,hw,h1,ha,↓gd]
   exact fin1 (stV_cl _ { s with heard:=true,state:=2 }) (by simp [doneM,h1,ha,stV,strC])
 ·simp -implicitDefEqProofs (disch:=omega) only [push_cast,simprocAttr,hv,hw,h1,↓gd]
  exact fin1 (stV_cl _ { s with heard:=true }) (by simp [doneM,h1,stV,strC])
end
section
open Go
theorem st_fin {S X:List Blk} {b c k:Nat} {ans bad:Bool} {out inn:List Fd} {outM innM snd rm:Int} {came:List UInt8} {strs:List St} {wait:List Fr} (s':St) {E:En}
  (hb:S[b]?=some (.cells 12 (strsC strs))) (hc:S[c]?=some (.cells 4 (frmsC wait))) (hne:b≠c) (hk:k < strs.length) (hE:E=⟨ans,out,outM,inn,innM,came,strs.set k s',snd,rm,wait,bad⟩) :
  ∃r S2,Wk S (.agg [.bool ans,.rows none (out.map fV),.int .i64 outM,.rows none (inn.map fV),.int .i64 innM,.str came,.heap b strs.length,.int .i64 snd,.int .i64 rm,.heap c wait.length,.bool bad])
   (S.set b (.cells 12 (splice (strsC strs) (k * 12) (strC s')))++X) r S2∧RTo S b c E r S2:=by
 subst hE
 have hbl:=lt_of_some hb
 have hcl:=lt_of_some hc
 refine ⟨_,_,Wk.refl _ _ _,RTo.mk b c (by simp [eV,enV,enC]) ?_ ?_ (.inl rfl) (.inl rfl) (((Upd.refl _ _).set _ (.inr (by simp))).app _)⟩
 ·rw [strsC_set s' hk]
  simp -implicitDefEqProofs (maxSteps:=1000000) (disch:=omega) only [push_cast,simprocAttr,↓gd]
 ·simp -implicitDefEqProofs (maxSteps:=1000000) (disch:=omega) only [push_cast,simprocAttr,hc,↓gd]
theorem st_fin2 {S:List Blk} {b c k:Nat} {ans bad:Bool} {out inn:List Fd} {outM innM snd rm:Int} {came:List UInt8} {strs:List St} {wait:List Fr} (s':St) (more:List Fr) {E:En} {B0 B1 B2 B3 B4:Blk}
  (hb:S[b]?=some (.cells 12 (strsC strs))) (hc:S[c]?=some (.cells 4 (frmsC wait))) (hne:b≠c) (hk:k < strs.length) (hE:E=⟨ans,out,outM,inn,innM,came,strs.set k s',snd,rm,wait++more,bad⟩) :
  ∃r S2,Wk S (.agg [.bool ans,.rows none (out.map fV),.int .i64 outM,.rows none (inn.map fV),.int .i64 innM,.str came,.heap b strs.length,.int .i64 snd,.int .i64 rm,.heap (S.length+5) (wait.length+more.length),.bool bad])
   ((S.set c .dead).set b (.cells 12 (splice (strsC strs) (k * 12) (strC s')))++[B0,B1,B2,B3,B4,.cells 4 (frmsC wait++frmsC more)]) r S2∧RTo S b c E r S2:=by
 subst hE
 have hbl:=lt_of_some hb
 have hcl:=lt_of_some hc
 refine ⟨_,_,Wk.refl _ _ _,RTo.mk b (S.length+5) (by simp [eV,enV,enC]) ?_ ?_ (.inl rfl) (.inr (by omega)) ((((Upd.refl _ _).set _ (.inr (by simp))).set _ (.inr (by simp))).app _)⟩
 ·rw [strsC_set s' hk]
  simp -implicitDefEqProofs (maxSteps:=1000000) (disch:=omega) only [push_cast,simprocAttr,↓gd]
 ·simp -implicitDefEqProofs (maxSteps:=1000000) (disch:=omega) only [push_cast,simprocAttr,↓gd]
  rw [frmsC_app]
theorem l21More_ok {N:Nat} {e:En} (hW:EnW N e) (hN:N≤1100000) {f:Fr} (hf:frameOk f=true) (hk8:f.kind=8) {S:List Blk} {b c:Nat} (h:EnAt S b c e):VCall Tryz.prog 118 [eV b c e,frV f] S fun r S'=>RTo S b c (moreM e f) r S':=by
 have he:=hW.b hN
 have hfl:=hW.flows
 have hsts:=hW.sts
 obtain ⟨ans,out,outM,inn,innM,came,strs,snd,rm,wait,bad⟩:=e
 simp only at hfl hsts
 have hne:=h.ne
 have hb:S[b]?=some (.cells 12 (strsC strs)):=h.1
 have hc:S[c]?=some (.cells 4 (frmsC wait)):=h.2
 have hbl:=lt_of_some hb
 have hcl:=lt_of_some hc
 have hlen:=strsC_len strs
 have hm8:=frameOk_more hf hk8
 obtain ⟨fk,fl,fs,fb⟩:=f
 obtain ⟨x,rfl,hx1,hx2,rfl⟩:∃x:UInt8,fb=[x]∧1≤x.toNat∧x.toNat≤31∧fl=false:=hm8
 simp only at hk8
 subst hk8
 have hx0:([x]:List UInt8).getD 0 0=x:=rfl
 refine VCall.en hDe Tryz.func118 Tryz.ntmps118 Tryz.results118 ?_
 by_cases hs0:fs=0
 ·subst hs0
  have hm:moreM ⟨ans,out,outM,inn,innM,came,strs,snd,rm,wait,bad⟩ ⟨8,false,0,[x]⟩=⟨ans,out,outM,inn,innM,came,strs,min (snd+x.toNat) 31,rm,wait,bad || decide (snd+x.toNat > 31)⟩:=by simp [moreM,byteAt]
  rw [hm]
  cases bad
  ·simp -implicitDefEqProofs (maxSteps:=1000000) (disch:=omega) only [push_cast,simprocAttr,min31,hx0,↓gd]
   exact ⟨_,_,Wk.refl _ _ _,.stay (e:=⟨ans,out,outM,inn,innM,came,strs,min (snd+x.toNat) 31,rm,wait,false || decide (snd+x.toNat > 31)⟩) h⟩
  ·simp -implicitDefEqProofs (maxSteps:=1000000) (disch:=omega) only [push_cast,simprocAttr,min31,hx0,↓gd]
   exact ⟨_,_,Wk.refl _ _ _,.stay (e:=⟨ans,out,outM,inn,innM,came,strs,min (snd+x.toNat) 31,rm,wait,true || decide (snd+x.toNat > 31)⟩) h⟩
 ·simp -implicitDefEqProofs (maxSteps:=1000000) (disch:=omega) only [push_cast,simprocAttr,hs0,hx0,↓gd]
  refine ((l21At_ok he ((h.app _)) fs).as rfl).to ?_
  cases ha:atM strs fs with
  | none =>
   have hai:atI strs fs=-1:=by rw [atI,ha]
   have hm:moreM ⟨ans,out,outM,inn,innM,came,strs,snd,rm,wait,bad⟩ ⟨8,false,fs,[x]⟩=⟨ans,out,outM,inn,innM,came,strs,snd,rm,wait,true⟩:=by rw [moreM]; simp only [ha,hs0,badM]; simp
   rw [hm]
   simp -implicitDefEqProofs (maxSteps:=1000000) (disch:=omega) only [push_cast,simprocAttr,hai,↓gd]
   exact ⟨_,_,Wk.refl _ _ _,.stay (e:=⟨ans,out,outM,inn,innM,came,strs,snd,rm,wait,true⟩) h⟩
  | some k =>
   obtain ⟨hk,hid⟩:=atM_some ha
   have hai:atI strs fs=k:=by rw [atI,ha]
   have hk0:¬(k:Int) < 0:=by omega
   have hsf:=stOk_flow (stsOk_at hsts hk)
   have hat:=strsC_at hk
   have hm:moreM ⟨ans,out,outM,inn,innM,came,strs,snd,rm,wait,bad⟩ ⟨8,false,fs,[x]⟩=⟨ans,out,outM,inn,innM,came,strs.set k { strs.getD k st0 with send:=min ((strs.getD k st0).send+x.toNat) 31 },snd,rm,wait,bad || decide ((strs.getD k st0).send+x.toNat > 31)⟩:=by
    rw [moreM]; simp only [ha,hs0,stAt,setSt]; simp [byteAt]
   rw [hm]
   clear hm hid
   generalize strs.getD k st0=s at hat hsf
   obtain ⟨sid,sst,shd,ssay,sbg,ssd,ssent,sgot,stx,shrd,ssnd,srm⟩:=s
   simp only at hsf
   cases bad
   ·simp -implicitDefEqProofs (maxSteps:=1000000) (disch:=omega) only [push_cast,simprocAttr,hai,hk0,hb,hat,min31,↓gd]
    repeat refine And.intro (by omega) ?_
    exact st_fin ⟨sid,sst,shd,ssay,sbg,ssd,ssent,sgot,stx,shrd,min (ssnd+x.toNat) 31,srm⟩ hb hc hne hk rfl
   ·simp -implicitDefEqProofs (maxSteps:=1000000) (disch:=omega) only [push_cast,simprocAttr,hai,hk0,hb,hat,min31,↓gd]
    repeat refine And.intro (by omega) ?_
    exact st_fin ⟨sid,sst,shd,ssay,sbg,ssd,ssent,sgot,stx,shrd,min (ssnd+x.toNat) 31,srm⟩ hb hc hne hk rfl
theorem l21Data_ok {N:Nat} {e:En} (hW:EnW N e) (hN:N≤1100000) {f:Fr} (hf:frameOk f=true) (hk0:f.kind=0) {S:List Blk} {b c:Nat} (h:EnAt S b c e):VCall Tryz.prog 117 [eV b c e,frV f] S fun r S'=>RTo S b c (dataM e f) r S':=by
 have he:=hW.b hN
 have hfl:=hW.flows
 have hsts:=hW.sts
 have hwn:=hW.len
 have hfb:=(frameOk_nat hf).2.2
 obtain ⟨ans,out,outM,inn,innM,came,strs,snd,rm,wait,bad⟩:=e
 simp only at hfl hsts hwn
 have hne:=h.ne
 have hb:S[b]?=some (.cells 12 (strsC strs)):=h.1
 have hc:S[c]?=some (.cells 4 (frmsC wait)):=h.2
 have hbl:=lt_of_some hb
 have hcl:=lt_of_some hc
 have hlen:=strsC_len strs
 have hlw:=frmsC_len wait
 obtain ⟨fk,fl,fs,fb⟩:=f
 simp only at hk0 hfb
 subst hk0
 have sbad:∀X,RTo S b c ⟨ans,out,outM,inn,innM,came,strs,snd,rm,wait,true⟩ (eV b c ⟨ans,out,outM,inn,innM,came,strs,snd,rm,wait,true⟩) (S++X):=fun X=>.stay (e:=⟨ans,out,outM,inn,innM,came,strs,snd,rm,wait,true⟩) h
 refine VCall.ex hDe (fun _=>false) (fun id=>if id=3 then [48,48,48,48,48,48,48,48,48,48,48,48,48,48,48,48,48,48,48,48,48,48,48,48,48,48,48,48,48,48,48,48,48,48,48,48,48,48,48,48,48,48,48,48,48,48,48,48,51,51,51] else if id=11 then [11,11,3,8,10,10,10,8,10,10,11,13,13,14] else []) Tryz.func117 Tryz.ntmps117 Tryz.results117 ?_
 simp -implicitDefEqProofs (maxSteps:=1000000) (disch:=omega) only [push_cast,simprocAttr,↓gd]
 refine ((l21At_ok he ((h.app _)) fs).as rfl).to ?_
 cases ha:atM strs fs with
 | none =>
  have hai:atI strs fs=-1:=by rw [atI,ha]
  have hm:dataM ⟨ans,out,outM,inn,innM,came,strs,snd,rm,wait,bad⟩ ⟨0,fl,fs,fb⟩=⟨ans,out,outM,inn,innM,came,strs,snd,rm,wait,true⟩:=by rw [dataM]; simp only [ha,badM]
  rw [hm]
  simp -implicitDefEqProofs (maxSteps:=1000000) (disch:=omega) only [push_cast,simprocAttr,hai,↓gd]
  exact ⟨_,_,Wk.refl _ _ _,sbad _⟩
 | some k =>
  obtain ⟨hk,hid⟩:=atM_some ha
  have hai:atI strs fs=k:=by rw [atI,ha]
  have hk0:¬(k:Int) < 0:=by omega
  have hso:=stsOk_at hsts hk
  have hsf:=stOk_flow hso
  obtain ⟨a1,a2,a3,a4,a5,a6,a7,a8⟩:=stOk_iff.1 hso
  have hat:=strsC_at hk
  have g9:=strsC_get hk (c:=9) (by decide)
  have g7:=strsC_get hk (c:=7) (by decide)
  have g11:=strsC_get hk (c:=11) (by decide)
  have g8:=strsC_get hk (c:=8) (by decide)
  have hm:∀s,strs.getD k st0=s→dataM ⟨ans,out,outM,inn,innM,came,strs,snd,rm,wait,bad⟩ ⟨0,fl,fs,fb⟩=if s.heard=true∨s.got=[]∨(fb.length:Int) > rm∨(fb.length:Int) > s.room∨wordOk (s.text++fb)=false then ⟨ans,out,outM,inn,innM,came,strs,snd,rm,wait,true⟩ else
    ⟨ans,out,outM,inn,innM,came,strs.set k (if fl then doneM ans { s with text:=s.text++fb,room:=s.room - fb.length } else { s with text:=s.text++fb,room:=s.room - fb.length }),snd,rm - fb.length,
     if fb=[] then wait else wait++[⟨8,false,0,[by8 fb.length]⟩,⟨8,false,s.id,[by8 fb.length]⟩],bad⟩:=fun s hs=>by
   subst hs; rw [dataM]; simp only [ha,badM,stAt,setSt]; rfl
  generalize hs:strs.getD k st0=s at hat hso hsf a1 a2 a3 a4 a5 a6 a7 a8 g9 g7 g11 g8
  rw [hm s hs]
  clear hm hs
  obtain ⟨sid,sst,shd,ssay,sbg,ssd,ssent,sgot,stx,shrd,ssnd,srm⟩:=s
  simp only at hsf a1 a2 a3 a4 a5 a6 a7 a8
  cases shrd
  ·by_cases h2:sgot=[]
   ·subst h2
    rw [if_pos (by simp)]
    simp -implicitDefEqProofs (maxSteps:=1000000) (disch:=omega) only [push_cast,simprocAttr,hai,hk0,hb,g9,g7,↓gd]
    repeat refine And.intro (by omega) ?_
    exact ⟨_,_,Wk.refl _ _ _,sbad _⟩
   ·have h2':¬(sgot.length:Int)=0:=by
     have:=List.length_pos_iff.2 h2
     omega
    by_cases h3:(fb.length:Int) > rm
    ·rw [if_pos (by simp [h3])]
     simp -implicitDefEqProofs (maxSteps:=1000000) (disch:=omega) only [push_cast,simprocAttr,hai,hk0,hb,g9,g7,h2',h3,↓gd]
     repeat refine And.intro (by omega) ?_
     exact ⟨_,_,Wk.refl _ _ _,sbad _⟩
    ·by_cases h4:(fb.length:Int) > srm
     ·rw [if_pos (by simp [h4])]
      simp -implicitDefEqProofs (maxSteps:=1000000) (disch:=omega) only [push_cast,simprocAttr,hai,hk0,hb,g9,g7,g11,h2',h3,h4,↓gd]
      repeat refine And.intro (by omega) ?_
      exact ⟨_,_,Wk.refl _ _ _,sbad _⟩
     ·simp -implicitDefEqProofs (maxSteps:=1000000) (disch:=omega) only [push_cast,simprocAttr,hai,hk0,hb,g9,g7,g11,g8,h2',h3,h4,↓gd]
      have hwl:=(wordOk_iff.1 a6).2
      repeat refine And.intro (by omega) ?_
      refine ((sWordOk_ok (stx++fb) (by rw [List.length_append]; omega) _).as rfl).to ?_
      cases hw:wordOk (stx++fb)
      ·rw [if_pos (by simp [hw])]
       simp -implicitDefEqProofs (maxSteps:=1000000) (disch:=omega) only [push_cast,simprocAttr,hai,hk0,hb,g9,g7,g11,g8,h2',h3,h4,↓gd]
       exact ⟨_,_,Wk.refl _ _ _,sbad _⟩
      ·rw [if_neg (fun q=>by rcases q with q | q | q | q | q <;> first | cases q; done | exact h2 q | omega | (rw [hw] at q; cases q))]
       have hwl2:=(wordOk_iff.1 hw).2
       by_cases hfb0:fb=[]
       ·have hfb1:¬(fb.length:Int) > 0:=by rw [hfb0]; simp
        rw [if_pos hfb0]
        cases fl
        ·simp -implicitDefEqProofs (maxSteps:=1000000) (disch:=omega) only [push_cast,simprocAttr,hai,hk0,hb,hc,hat,hfb1,↓gd]
         repeat refine And.intro (by omega) ?_
         exact st_fin ⟨sid,sst,shd,ssay,sbg,ssd,ssent,sgot,stx++fb,false,ssnd,srm - fb.length⟩ hb hc hne hk (by simp)
        ·simp -implicitDefEqProofs (maxSteps:=1000000) (disch:=omega) only [push_cast,simprocAttr,hai,hk0,hb,hc,hat,hfb1,↓gd]
         repeat refine And.intro (by omega) ?_
         rw [List.length_append] at hwl2
         refine ((l21Done_ok (v:=.heap b strs.length) (w:=.heap c wait.length) ⟨ans,out,outM,inn,innM,came,strs,snd,rm - fb.length,wait,bad⟩ ⟨sid,sst,shd,ssay,sbg,ssd,ssent,sgot,stx++fb,false,ssnd,srm - fb.length⟩ a4 (show (stx++fb).length < 100 by rw [List.length_append]; omega) rfl rfl _).as (by simp [enV,enC,stV,strC])).to ?_
         generalize hdn:doneM ans ⟨sid,sst,shd,ssay,sbg,ssd,ssent,sgot,stx++fb,false,ssnd,srm - fb.length⟩=s'
         simp -implicitDefEqProofs (maxSteps:=1000000) (disch:=omega) only [push_cast,simprocAttr,hai,hk0,hb,hc,hat,hfb1,↓gd]
         repeat refine And.intro (by omega) ?_
         exact st_fin s' hb hc hne hk (by simp [hdn])
       ·have hfb1:(fb.length:Int) > 0:=by
         have:=List.length_pos_iff.2 hfb0
         omega
        rw [if_neg hfb0]
        simp -implicitDefEqProofs (maxSteps:=1000000) (disch:=omega) only [push_cast,simprocAttr,hai,hk0,hb,hc,hat,hfb1,↓gd]
        repeat refine And.intro (by omega) ?_
        refine (l1Byte_ok fb.length _).to ?_
        simp -implicitDefEqProofs (maxSteps:=1000000) (disch:=omega) only [push_cast,simprocAttr,hai,hk0,hb,hc,hat,hfb1,↓gd]
        refine (l1Byte_ok fb.length _).to ?_
        cases fl
        ·simp -implicitDefEqProofs (maxSteps:=1000000) (disch:=omega) only [push_cast,simprocAttr,hai,hk0,hb,hc,hat,hfb1,↓gd]
         repeat refine And.intro (by omega) ?_
         exact st_fin2 ⟨sid,sst,shd,ssay,sbg,ssd,ssent,sgot,stx++fb,false,ssnd,srm - fb.length⟩ [⟨8,false,0,[by8 fb.length]⟩,⟨8,false,sid,[by8 fb.length]⟩] hb hc hne hk (by simp)
        ·simp -implicitDefEqProofs (maxSteps:=1000000) (disch:=omega) only [push_cast,simprocAttr,hai,hk0,hb,hc,hat,hfb1,↓gd]
         repeat refine And.intro (by omega) ?_
         rw [List.length_append] at hwl2
         refine ((l21Done_ok (v:=.heap b strs.length) (w:=.heap (S.length+5) (wait.length+2)) ⟨ans,out,outM,inn,innM,came,strs,snd,rm - fb.length,wait,bad⟩ ⟨sid,sst,shd,ssay,sbg,ssd,ssent,sgot,stx++fb,false,ssnd,srm - fb.length⟩ a4 (show (stx++fb).length < 100 by rw [List.length_append]; omega) rfl rfl _).as (by simp [enV,enC,stV,strC])).to ?_
         generalize hdn:doneM ans ⟨sid,sst,shd,ssay,sbg,ssd,ssent,sgot,stx++fb,false,ssnd,srm - fb.length⟩=s'
         simp -implicitDefEqProofs (maxSteps:=1000000) (disch:=omega) only [push_cast,simprocAttr,hai,hk0,hb,hc,hat,hfb1,↓gd]
         repeat refine And.intro (by omega) ?_
         exact st_fin2 s' [⟨8,false,0,[by8 fb.length]⟩,⟨8,false,sid,[by8 fb.length]⟩] hb hc hne hk (by simp [hdn])
  ·rw [if_pos (by simp)]
   simp -implicitDefEqProofs (maxSteps:=1000000) (disch:=omega) only [push_cast,simprocAttr,hai,hk0,hb,g9,↓gd]
   repeat refine And.intro (by omega) ?_
   exact ⟨_,_,Wk.refl _ _ _,sbad _⟩
end
section
open Go
theorem tailR_zero:∀(K:Nat) (r:List UInt8) (k:Nat),tailR K r=some (0,k)→(r.getD (k - 1) 0).toNat=0
 | 0,r,k,h=>by simp [tailR] at h
 | K+1,[],k,h=>by simp [tailR] at h
 | K+1,c :: r,k,h=>by
  rw [tailR] at h
  split at h
  ·simp only [Option.some.injEq,Prod.mk.injEq] at h
   obtain ⟨h1,rfl⟩:=h
   simpa using h1
  ·split at h
   ·rename_i v' k' h'
    simp only [Option.some.injEq,Prod.mk.injEq] at h
    obtain ⟨h1,rfl⟩:=h
    have hv:v'=0:=by omega
    subst hv
    have hb:=tailR_bound K r 0 k' h'
    have ih:=tailR_zero K r k' h'
    obtain ⟨j,rfl⟩:∃j,k'=j+1:=⟨k' - 1,by omega⟩
    simpa using ih
   ·cases h
theorem tailR_canon:∀(K:Nat) (r:List UInt8) (v k:Nat),tailR K r=some (v,k)→(numTail v=r.take k↔(k=1∨(r.getD (k - 1) 0).toNat≠0))
 | 0,r,v,k,h=>by simp [tailR] at h
 | K+1,[],v,k,h=>by simp [tailR] at h
 | K+1,c :: r,v,k,h=>by
  have hc:=c.toNat_lt
  rw [tailR] at h
  split at h
  ·rename_i h128
   simp only [Option.some.injEq,Prod.mk.injEq] at h
   obtain ⟨rfl,rfl⟩:=h
   refine ⟨fun _=>.inl rfl,fun _=>?_⟩
   rw [numTail_lt h128]
   simp [by8]
  ·rename_i h128
   split at h
   ·rename_i v' k' h'
    simp only [Option.some.injEq,Prod.mk.injEq] at h
    obtain ⟨rfl,rfl⟩:=h
    obtain ⟨b1,b2,b3,b4⟩:=tailR_bound K r v' k' h'
    have ih:=tailR_canon K r v' k' h'
    obtain ⟨j,rfl⟩:∃j,k'=j+1:=⟨k' - 1,by omega⟩
    have hgd:(c :: r).getD (j+1+1 - 1) 0=r.getD (j+1 - 1) 0:=rfl
    rw [hgd]
    by_cases hv:v'=0
    ·subst hv
     have hz:=tailR_zero K r _ h'
     refine ⟨fun e=>?_,fun e=>?_⟩
     ·exfalso
      have:=congrArg List.length e
      rw [numTail_lt (by omega),List.length_singleton,List.length_take,List.length_cons] at this
      omega
     ·rcases e with e | e
      ·omega
      ·exact absurd hz e
    ·have e1:numTail (c.toNat % 128+128 * v')=c :: numTail v':=by
      rw [numTail_ge (by omega),show (c.toNat % 128+128 * v') % 128+128=c.toNat by omega,show (c.toNat % 128+128 * v') / 128=v' by omega]
      simp [by8]
     rw [e1,List.take_succ_cons]
     refine ⟨fun e=>.inr ?_,fun e=>?_⟩
     ·have e2:=ih.1 (List.cons.inj e).2
      rcases e2 with e2 | e2
      ·have:j=0:=by omega
       subst this
       obtain ⟨K',rfl⟩:∃m,K=m+1:=⟨K - 1,by omega⟩
       cases r with
       | nil=>simp [tailR] at h'
       | cons d r =>
        rw [tailR] at h'
        split at h'
        ·simp only [Option.some.injEq,Prod.mk.injEq] at h'
         simpa using (by omega:d.toNat≠0)
        ·split at h'
         ·rename_i v2 k2 h2
          have:=tailR_bound K' r v2 k2 h2
          simp only [Option.some.injEq,Prod.mk.injEq] at h'
          omega
         ·cases h'
      ·exact e2
     ·rcases e with e | e
      ·omega
      ·rw [ih.2 (.inr e)]
   ·cases h
theorem l1Read_ok (b:List UInt8) (bits:Nat) (hb:3≤bits∧bits≤7) (hl:b.length≤1000000000) (S:List Blk) :
  VCall Tryz.prog 173 [.str b,.int .i64 bits] S fun r S'=>r=nrV (numR b bits)∧S'=S:=by
 cases b with
 | nil =>
  refine VCall.en hD Tryz.func173 Tryz.ntmps173 Tryz.results173 ?_
  simp -implicitDefEqProofs (disch:=omega) only [push_cast,simprocAttr,↓gd]
  exact fin0 rfl
 | cons c r =>
  obtain ⟨p,hp⟩:∃p,p=2 ^ bits:=⟨_,rfl⟩
  have hp2:p≤2 ^ 7:=by rw [hp]; exact Nat.pow_le_pow_right (by omega) (by omega)
  have hp1:2≤p:=by rw [hp,show bits=(bits - 1)+1 by omega,Nat.pow_succ]; have:=Nat.one_le_two_pow (n:=bits - 1); omega
  have hc:=c.toNat_lt
  have hw:IntKind.i64.wrap (c.toNat:Int)=c.toNat:=i64_fit _ (by omega)
  obtain ⟨m,hm⟩:∃m,m=c.toNat % p:=⟨_,rfl⟩
  have hmp:m < p:=by rw [hm]; exact Nat.mod_lt _ (by omega)
  have htm:Int.tmod (c.toNat:Int) ((p:Int) - 1+1)=m:=by rw [show (p:Int) - 1+1=p by omega,hm]; exact tmod_nat _ _
  have hp0:¬((p:Int) - 1+1=0):=by omega
  have h0:(c :: r).getD 0 0=c:=rfl
  have hne:(c :: r=[])=False:=by simp
  have hl':r.length≤1000000000:=by simp at hl; omega
  refine VCall.en hD Tryz.func173 Tryz.ntmps173 Tryz.results173 ?_
  simp -implicitDefEqProofs (disch:=omega) only [push_cast,simprocAttr,hne,h0,↓gd]
  refine ((l1Top_ok bits (by omega) _).as (by simp)).to ?_
  rw [←hp]
  simp -implicitDefEqProofs (disch:=omega) only [push_cast,simprocAttr,hne,h0,hw,htm,hp0,↓gd]
  refine ⟨by omega,fun hmt=>fin0 ?_,fun hmt=>?_⟩
  ·rw [numR,←hp,←hm,if_pos (by omega)]
   rfl
  have hnr:∀v k:Nat,tailR 3 r=some (v,k)→numR (c :: r) bits=if p - 1+v≤9999∧numTail v=r.take k then some (p - 1+v,k+1) else none:=by
   intro v k ht
   rw [numR,←hp,←hm,if_neg (by omega),ht]
  have hnn:tailR 3 r=none→numR (c :: r) bits=none:=by
   intro ht
   rw [numR,←hp,←hm,if_neg (by omega),ht]
  refine wpV_loop (fun x t S'=>∃k z w q acc:Nat,x=3 - k∧k≤3∧k≤r.length∧z=1+k∧q=128 ^ k∧w=p - 1+acc∧acc < q∧tailR 3 r=(tailR (3 - k) (r.drop k)).map (fun y=>(acc+q * y.1,k+y.2))∧t 0=.str (c :: r)∧t 8=.int .i64 w∧t 9=.int .i64 q∧t 10=.int .i64 z∧S'=S) 3
   ⟨0,1,p - 1,1,0,rfl,by omega,by omega,rfl,rfl,rfl,by omega,by simp,rfl,?_,rfl,rfl,rfl⟩ ?_
  ·simp only [putT]
   simp
   omega
  rintro x t S' ⟨k,z,w,q,acc,rfl,hk3,hkr,hz,hq,hw',hacc,htr,h0',h8,h9,h10,rfl⟩
  have hq3:q≤2097152:=by rw [hq]; exact Nat.pow_le_pow_right (by decide) hk3
  refine wpV_of0 hD ?_
  by_cases hlast:k=r.length
  ·have htn:tailR 3 r=none:=by
    rw [htr,hlast,List.drop_length]
    cases hx:3 - r.length <;> rfl
   have hz':¬(z:Int) < (r.length:Int)+1:=by omega
   simp -implicitDefEqProofs (disch:=omega) only [push_cast,simprocAttr,h0',h8,h9,h10,hz',↓gd]
   exact fin0 (by rw [hnn htn]; rfl)
  have hz':(z:Int) < (r.length:Int)+1:=by omega
  by_cases h3:k=3
  ·have htn:tailR 3 r=none:=by rw [htr,h3]; rfl
   have hs':¬(z:Int)≤3:=by omega
   simp -implicitDefEqProofs (disch:=omega) only [push_cast,simprocAttr,h0',h8,h9,h10,hz',hs',↓gd]
   exact fin0 (by rw [hnn htn]; rfl)
  have hs':(z:Int)≤3:=by omega
  obtain ⟨d,hd⟩:∃d,d=r.getD k 0:=⟨_,rfl⟩
  have hzd:(c :: r).getD z 0=d:=by rw [hz,Nat.add_comm,hd]; rfl
  have hz0:(0:Int)≤z:=by omega
  have hdl:=d.toNat_lt
  have hdw:IntKind.i64.wrap (d.toNat:Int)=d.toNat:=i64_fit _ (by omega)
  obtain ⟨u,hu⟩:∃u,u=d.toNat % 128:=⟨_,rfl⟩
  have hda:Int.tmod (d.toNat:Int) 128=u:=by rw [hu]; exact tmod_nat _ 128
  have hq2:q≤16384:=by rw [hq]; exact Nat.pow_le_pow_right (by decide) (by omega:k≤2)
  obtain ⟨g,hg⟩:∃g,g=u * q:=⟨_,rfl⟩
  have hug:(q:Int) * (u:Int)=g:=by rw [hg,Nat.mul_comm]; simp
  have hgb:g≤127 * 16384:=by rw [hg]; exact Nat.mul_le_mul (by omega) hq2
  have hrd:r.drop k=d :: r.drop (k+1):=by
   rw [List.drop_eq_getElem_cons (by omega),hd,List.getD,List.getElem?_eq_getElem (by omega)]; rfl
  have htd:tailR (3 - k) (r.drop k)=if d.toNat < 128 then some (d.toNat,1) else (tailR (3 - (k+1)) (r.drop (k+1))).map (fun y=>(u+128 * y.1,y.2+1)):=by
   rw [hrd,show 3 - k=(3 - (k+1))+1 by omega,tailR]
   split
   ·rfl
   ·rw [hu]
    cases tailR (3 - (k+1)) (r.drop (k+1)) <;> rfl
  by_cases hd128:d.toNat < 128
  ·have hd128':(d.toNat:Int) < 128:=by omega
   have hud:u=d.toNat:=by omega
   obtain ⟨v,hv⟩:∃v,v=acc+g:=⟨_,rfl⟩
   have ht3:tailR 3 r=some (v,k+1):=by
    rw [htr,htd,if_pos (by omega),Option.map_some,hv,hg,hud,Nat.mul_comm q]
   have hnr2:=hnr v (k+1) ht3
   have hcan:=tailR_canon 3 r v (k+1) ht3
   rw [Nat.add_sub_cancel,←hd] at hcan
   by_cases hbad:d.toNat=0∧z > 1
   ·have hb1:(d.toNat:Int)=0:=by omega
    have hb2:(z:Int) > 1:=by omega
    have:¬numTail v=r.take (k+1):=fun e=>by rcases hcan.1 e with h | h <;> omega
    rw [if_neg (fun h=>this h.2)] at hnr2
    simp -implicitDefEqProofs (disch:=omega) only [push_cast,simprocAttr,h0',h8,h9,h10,hz',hs',hz0,hzd,hdw,hda,hug,hd128',hb1,hb2,↓gd]
    exact fin0 (by rw [hnr2]; rfl)
   ·have hcan2:numTail v=r.take (k+1):=hcan.2 (by omega)
    by_cases g9:p - 1+v≤9999
    ·rw [if_pos ⟨g9,hcan2⟩] at hnr2
     have h9999:¬((w:Int)+g > 9999):=by omega
     by_cases hdz:d.toNat=0
     ·have hb1:((d.toNat:Int)=0)=True:=eq_true (by omega)
      have hb2:¬(z:Int) > 1:=by omega
      simp -implicitDefEqProofs (disch:=omega) only [push_cast,simprocAttr,h0',h8,h9,h10,hz',hs',hz0,hzd,hdw,hda,hug,hd128',hb1,hb2,h9999,↓gd]
      refine fin0 ?_
      rw [hnr2,nrV]
      congr 3
      ·omega
      ·congr 2; omega
     ·have hb1:¬(d.toNat:Int)=0:=by omega
      simp -implicitDefEqProofs (disch:=omega) only [push_cast,simprocAttr,h0',h8,h9,h10,hz',hs',hz0,hzd,hdw,hda,hug,hd128',hb1,h9999,↓gd]
      refine fin0 ?_
      rw [hnr2,nrV]
      congr 3
      ·omega
      ·congr 2; omega
    ·rw [if_neg (fun h=>g9 h.1)] at hnr2
     have h9999:((w:Int)+g > 9999):=by omega
     by_cases hdz:d.toNat=0
     ·have hb1:((d.toNat:Int)=0)=True:=eq_true (by omega)
      have hb2:¬(z:Int) > 1:=by omega
      simp -implicitDefEqProofs (disch:=omega) only [push_cast,simprocAttr,h0',h8,h9,h10,hz',hs',hz0,hzd,hdw,hda,hug,hd128',hb1,hb2,h9999,↓gd]
      exact fin0 (by rw [hnr2]; rfl)
     ·have hb1:¬(d.toNat:Int)=0:=by omega
      simp -implicitDefEqProofs (disch:=omega) only [push_cast,simprocAttr,h0',h8,h9,h10,hz',hs',hz0,hzd,hdw,hda,hug,hd128',hb1,h9999,↓gd]
      exact fin0 (by rw [hnr2]; rfl)
  ·have hd128':¬(d.toNat:Int) < 128:=by omega
   simp -implicitDefEqProofs (disch:=omega) only [push_cast,simprocAttr,h0',h8,h9,h10,hz',hs',hz0,hzd,hdw,hda,hug,hd128',↓gd]
   have hgq:g≤127 * q:=by rw [hg]; exact Nat.mul_le_mul_right _ (by omega)
   refine ⟨3 - (k+1),by omega,k+1,z+1,w+g,q * 128,acc+g,rfl,by omega,by omega,by omega,by rw [hq,Nat.pow_succ],by omega,by omega,?_,by simp,by simp; omega,by simp⟩
   rw [htr,htd,if_neg (by omega),Option.map_map]
   congr 1
   funext y
   simp only [Function.comp_apply,Prod.mk.injEq]
   refine ⟨?_,by omega⟩
   rw [Nat.mul_add,hg,Nat.mul_comm u q,Nat.mul_assoc]
   omega
end
end Go.Proofs.YtldogccmhncnoaaGreatDoor
