/- A part of the proof: contracts of functions, or plain facts on which these lean. -/
import Derived.Test.YtldogccmhncnoaaGreatDoorMj21
namespace Go.Proofs.YtldogccmhncnoaaGreatDoor
open Go
set_option linter.unusedVariables false
set_option linter.unusedSimpArgs false
set_option maxRecDepth 100000
set_option maxHeartbeats 16000000

section
open Go
theorem table_len {l:List Fd} {m:Int} (h:tableOk l m=true):l.length≤100:=by
 have:=(tableOk_parts h).1
 omega
theorem min3 (x y z:Int):(if z < (if y < x then y else x) then z else (if y < x then y else x))=min x (min y z):=by omega
theorem frW_len (f:Fr):(frW f).length=4+f.body.length:=by simp [frW]; omega
def sayE (e:En) (k:Nat) (s:St):En × List UInt8 :=
 let (e1,s1,o1):=beginM e s
 let (e2,s2,o2):=pieceM e1 s1
 (setSt e2 k { s2 with state:=if e.ans && s2.said then 2 else s2.state },o1++o2)
theorem sayM_E (e:En) (k:Nat):sayM e k=if (stAt e k).state≠1∨(stAt e k).head=[]∨(stAt e k).said=true then (e,[]) else sayE e k (stAt e k):=rfl
theorem say_fin {S X:List Blk} {b c k:Nat} {ans bad:Bool} {out inn:List Fd} {outM innM snd rm:Int} {came:List UInt8} {strs:List St} {wait:List Fr} {s':St} {o:List UInt8} {E:En × List UInt8}
  (hb:S[b]?=some (.cells 12 (strsC strs))) (hc:S[c]?=some (.cells 4 (frmsC wait))) (hne:b≠c) (hk:k < strs.length) (hE:E=(⟨ans,out,outM,inn,innM,came,strs.set k s',snd,rm,wait,bad⟩,o)) :
  ∃r S2,Wk S (.tup [.agg [.bool ans,.rows none (out.map fV),.int .i64 outM,.rows none (inn.map fV),.int .i64 innM,.str came,.heap b strs.length,.int .i64 snd,.int .i64 rm,.heap c wait.length,.bool bad],.str o])
   (S.set b (.cells 12 (splice (strsC strs) (k * 12) (strC s')))++X) r S2∧∃v,r=.tup [v,.str E.2]∧RTo S b c E.1 v S2:=by
 subst hE
 have hbl:=lt_of_some hb
 have hcl:=lt_of_some hc
 refine ⟨_,_,Wk.refl _ _ _,_,rfl,RTo.mk b c (by simp [eV,enV,enC]) ?_ ?_ (.inl rfl) (.inl rfl) (((Upd.refl _ _).set _ (.inr (by simp))).app _)⟩
 ·rw [strsC_set s' hk]
  simp -implicitDefEqProofs (maxSteps:=1000000) (disch:=omega) only [push_cast,simprocAttr,↓gd]
 ·simp -implicitDefEqProofs (maxSteps:=1000000) (disch:=omega) only [push_cast,simprocAttr,hc,↓gd]
theorem l21Say_ok {N:Nat} {e:En} (hW:EnW N e) (hN:N≤1100000) {k:Nat} (hk:k < e.strs.length) {S:List Blk} {b c:Nat} (h:EnAt S b c e):VCall Tryz.prog 139 [eV b c e,.int .i64 k] S fun r S' =>
  ∃v,r=.tup [v,.str (sayM e k).2]∧RTo S b c (sayM e k).1 v S':=by
 have he:=hW.b hN
 have hfl:=hW.flows
 have hsts:=hW.sts
 have hto:=hW.out
 obtain ⟨ans,out,outM,inn,innM,came,strs,snd,rm,wait,bad⟩:=e
 simp only at hfl hsts hto hk
 have hne:=h.ne
 have hb:S[b]?=some (.cells 12 (strsC strs)):=h.1
 have hc:S[c]?=some (.cells 4 (frmsC wait)):=h.2
 have hbl:=lt_of_some hb
 have hcl:=lt_of_some hc
 have hlen:=strsC_len strs
 have hat:=strsC_at hk
 have hso:=stsOk_at hsts hk
 have hsf:=stOk_flow hso
 obtain ⟨a1,a2,a3,a4,a5,a6,a7,a8⟩:=stOk_iff.1 hso
 have hm0:∀s,strs.getD k st0=s→sayM ⟨ans,out,outM,inn,innM,came,strs,snd,rm,wait,bad⟩ k=if s.state≠1∨s.head=[]∨s.said=true then (⟨ans,out,outM,inn,innM,came,strs,snd,rm,wait,bad⟩,[]) else
  sayE ⟨ans,out,outM,inn,innM,came,strs,snd,rm,wait,bad⟩ k s:=fun s hs=>by subst hs; rfl
 generalize hs:strs.getD k st0=s at hat hso hsf a1 a2 a3 a4 a5 a6 a7 a8
 rw [hm0 s hs]
 clear hm0
 obtain ⟨sid,sst,shd,ssay,sbg,ssd,ssent,sgot,stx,shrd,ssnd,srm⟩:=s
 simp only at hsf a1 a2 a3 a4 a5 a6 a7 a8
 have hwl:=(wordOk_iff.1 a5).2
 refine VCall.ex hDe (fun _=>false) (fun id=>if id=16 then [18,15,15,15,15,15,15,15,15,15,15,15,15,15,15,18,18,18] else []) Tryz.func139 Tryz.ntmps139 Tryz.results139 ?_
 simp -implicitDefEqProofs (maxSteps:=1000000) (disch:=omega) only [push_cast,simprocAttr,hb,hat,↓gd]
 repeat refine And.intro (by omega) ?_
 by_cases h1:sst=1
 ·by_cases h2:shd=[]
  ·rw [if_pos (by simp [h2])]
   subst h2
   simp -implicitDefEqProofs (maxSteps:=1000000) (disch:=omega) only [push_cast,simprocAttr,h1,↓gd]
   exact ⟨_,_,Wk.refl _ _ _,_,rfl,.stay h⟩
  ·have h2':¬(shd.length:Int)=0:=by
    have:=List.length_pos_iff.2 h2
    omega
   cases ssd
   ·rw [if_neg (by simp [h1,h2])]
    subst h1
    have hid0:=(strmOk_iff.1 a1).1
    generalize hq:min ((ssay.length:Int) - ssent) (min ssnd snd)=q
    have hq1:q≤ssay.length - ssent:=by omega
    have hq2:q≤ssnd:=by omega
    have hq3:q≤snd:=by omega
    have hsl:0 < q→List.drop ssent.toNat (List.take (ssent+q).toNat ssay)=(ssay.drop ssent.toNat).take q.toNat:=fun h0=>by
     rw [List.drop_take]
     congr 1
     omega
    have hsl2:((ssay.drop ssent.toNat).take q.toNat).length≤1000:=by simp; omega
    cases sbg
    ·simp -implicitDefEqProofs (maxSteps:=1000000) (disch:=omega) only [push_cast,simprocAttr,h2',↓gd]
     refine ((l11All_ok out outM shd (headOk_parts a3).1 (tableOk_b hto) (table_len hto) (by have:=(headOk_parts a3).2; omega) (tableOk_parts hto).2.1 _).as rfl).to ?_
     have hbl2:(headW out outM shd).2.length≤1000:=by
      have:=headW_len shd out outM (headOk_parts a3).1 (by have:=(headOk_parts a3).2; have:=(tableOk_parts hto).1; omega)
      have:=(headOk_parts a3).2
      omega
     by_cases hsy:ssay=[]
     ·subst hsy
      simp -implicitDefEqProofs (maxSteps:=1000000) (disch:=omega) only [push_cast,simprocAttr,↓gd]
      refine ((l12Write_ok ⟨1,true,sid,(headW out outM shd).2⟩ (by simp) (by simp only; omega) (by simp only; omega) _).as rfl).to ?_
      cases ans
      ·simp -implicitDefEqProofs (maxSteps:=1000000) (disch:=omega) only [push_cast,simprocAttr,min3,hq,frW_len,↓gd]
       repeat refine And.intro (by omega) ?_
       refine say_fin (s':=⟨sid,1,shd,[],true,true,ssent,sgot,stx,shrd,ssnd,srm⟩) hb hc hne hk ?_
       simp [sayE,beginM,pieceM,setSt]
      ·simp -implicitDefEqProofs (maxSteps:=1000000) (disch:=omega) only [push_cast,simprocAttr,min3,hq,frW_len,↓gd]
       repeat refine And.intro (by omega) ?_
       refine say_fin (s':=⟨sid,2,shd,[],true,true,ssent,sgot,stx,shrd,ssnd,srm⟩) hb hc hne hk ?_
       simp [sayE,beginM,pieceM,setSt]
     ·simp -implicitDefEqProofs (maxSteps:=1000000) (disch:=omega) only [push_cast,simprocAttr,hsy,↓gd]
      refine ((l12Write_ok ⟨1,false,sid,(headW out outM shd).2⟩ (by simp) (by simp only; omega) (by simp only; omega) _).as rfl).to ?_
      by_cases hq0:0 < q
      ·have hq0':q > 0:=hq0
       simp -implicitDefEqProofs (maxSteps:=1000000) (disch:=omega) only [push_cast,simprocAttr,min3,hq,hq0',hsl hq0,↓gd]
       repeat refine And.intro (by omega) ?_
       have hfh:=frW_len ⟨1,false,sid,(headW out outM shd).2⟩
       simp only at hfh
       refine ((l12Write_ok ⟨0,decide (ssent+q=ssay.length),sid,(ssay.drop ssent.toNat).take q.toNat⟩ (by simp) (by simp only; omega) (by simp only; omega) _).as rfl).to ?_
       have hfd:=frW_len ⟨0,decide (ssent+q=ssay.length),sid,(ssay.drop ssent.toNat).take q.toNat⟩
       simp only at hfd
       cases ans
       ·simp -implicitDefEqProofs (maxSteps:=1000000) (disch:=omega) only [push_cast,simprocAttr,min3,hq,frW_len,↓gd]
        repeat refine And.intro (by omega) ?_
        refine say_fin (s':=⟨sid,1,shd,ssay,true,decide (ssent+q=ssay.length),ssent+q,sgot,stx,shrd,ssnd - q,srm⟩) hb hc hne hk ?_
        simp [sayE,beginM,pieceM,setSt,mayM,hq,hq0,hsy]
       ·by_cases he0:ssent+q=ssay.length
        ·simp -implicitDefEqProofs (maxSteps:=1000000) (disch:=omega) only [push_cast,simprocAttr,min3,hq,he0,frW_len,↓gd]
         repeat refine And.intro (by omega) ?_
         refine say_fin (s':=⟨sid,2,shd,ssay,true,decide True,ssay.length,sgot,stx,shrd,ssnd - q,srm⟩) hb hc hne hk ?_
         simp [sayE,beginM,pieceM,setSt,mayM,hq,hq0,he0,hsy]
        ·simp -implicitDefEqProofs (maxSteps:=1000000) (disch:=omega) only [push_cast,simprocAttr,min3,hq,he0,frW_len,↓gd]
         repeat refine And.intro (by omega) ?_
         refine say_fin (s':=⟨sid,1,shd,ssay,true,decide False,ssent+q,sgot,stx,shrd,ssnd - q,srm⟩) hb hc hne hk ?_
         simp [sayE,beginM,pieceM,setSt,mayM,hq,hq0,he0,hsy]
      ·have hq0':¬q > 0:=hq0
       cases ans
       ·simp -implicitDefEqProofs (maxSteps:=1000000) (disch:=omega) only [push_cast,simprocAttr,min3,hq,hq0',↓gd]
        repeat refine And.intro (by omega) ?_
        refine say_fin (s':=⟨sid,1,shd,ssay,true,decide False,ssent,sgot,stx,shrd,ssnd,srm⟩) hb hc hne hk ?_
        simp [sayE,beginM,pieceM,setSt,mayM,hq,hq0,hsy]
       ·simp -implicitDefEqProofs (maxSteps:=1000000) (disch:=omega) only [push_cast,simprocAttr,min3,hq,hq0',↓gd]
        repeat refine And.intro (by omega) ?_
        refine say_fin (s':=⟨sid,1,shd,ssay,true,decide False,ssent,sgot,stx,shrd,ssnd,srm⟩) hb hc hne hk ?_
        simp [sayE,beginM,pieceM,setSt,mayM,hq,hq0,hsy]
    ·by_cases hq0:0 < q
     ·have hq0':q > 0:=hq0
      simp -implicitDefEqProofs (maxSteps:=1000000) (disch:=omega) only [push_cast,simprocAttr,h2',min3,hq,hq0',hsl hq0,↓gd]
      repeat refine And.intro (by omega) ?_
      refine ((l12Write_ok ⟨0,decide (ssent+q=ssay.length),sid,(ssay.drop ssent.toNat).take q.toNat⟩ (by simp) (by simp only; omega) (by simp only; omega) _).as rfl).to ?_
      have hfd:=frW_len ⟨0,decide (ssent+q=ssay.length),sid,(ssay.drop ssent.toNat).take q.toNat⟩
      simp only at hfd
      cases ans
      ·simp -implicitDefEqProofs (maxSteps:=1000000) (disch:=omega) only [push_cast,simprocAttr,min3,hq,frW_len,↓gd]
       repeat refine And.intro (by omega) ?_
       refine say_fin (s':=⟨sid,1,shd,ssay,true,decide (ssent+q=ssay.length),ssent+q,sgot,stx,shrd,ssnd - q,srm⟩) hb hc hne hk ?_
       simp [sayE,beginM,pieceM,setSt,mayM,hq,hq0]
      ·by_cases he0:ssent+q=ssay.length
       ·simp -implicitDefEqProofs (maxSteps:=1000000) (disch:=omega) only [push_cast,simprocAttr,min3,hq,he0,frW_len,↓gd]
        repeat refine And.intro (by omega) ?_
        refine say_fin (s':=⟨sid,2,shd,ssay,true,decide True,ssay.length,sgot,stx,shrd,ssnd - q,srm⟩) hb hc hne hk ?_
        simp [sayE,beginM,pieceM,setSt,mayM,hq,hq0,he0]
       ·simp -implicitDefEqProofs (maxSteps:=1000000) (disch:=omega) only [push_cast,simprocAttr,min3,hq,he0,frW_len,↓gd]
        repeat refine And.intro (by omega) ?_
        refine say_fin (s':=⟨sid,1,shd,ssay,true,decide False,ssent+q,sgot,stx,shrd,ssnd - q,srm⟩) hb hc hne hk ?_
        simp [sayE,beginM,pieceM,setSt,mayM,hq,hq0,he0]
     ·have hq0':¬q > 0:=hq0
      cases ans
      ·simp -implicitDefEqProofs (maxSteps:=1000000) (disch:=omega) only [push_cast,simprocAttr,h2',min3,hq,hq0',↓gd]
       repeat refine And.intro (by omega) ?_
       refine say_fin (s':=⟨sid,1,shd,ssay,true,false,ssent,sgot,stx,shrd,ssnd,srm⟩) hb hc hne hk ?_
       simp [sayE,beginM,pieceM,setSt,mayM,hq,hq0]
      ·simp -implicitDefEqProofs (maxSteps:=1000000) (disch:=omega) only [push_cast,simprocAttr,h2',min3,hq,hq0',↓gd]
       repeat refine And.intro (by omega) ?_
       refine say_fin (s':=⟨sid,1,shd,ssay,true,false,ssent,sgot,stx,shrd,ssnd,srm⟩) hb hc hne hk ?_
       simp [sayE,beginM,pieceM,setSt,mayM,hq,hq0]
   ·rw [if_pos (by simp)]
    simp -implicitDefEqProofs (maxSteps:=1000000) (disch:=omega) only [push_cast,simprocAttr,h1,h2',↓gd]
    exact ⟨_,_,Wk.refl _ _ _,_,rfl,.stay h⟩
 ·rw [if_pos (by simp [h1])]
  simp -implicitDefEqProofs (maxSteps:=1000000) (disch:=omega) only [push_cast,simprocAttr,h1,↓gd]
  exact ⟨_,_,Wk.refl _ _ _,_,rfl,.stay h⟩
end
section
open Go
theorem sayM_len {N:Nat} {e:En} (h:EnW N e) {k:Nat} (hk:k < e.strs.length):(sayM e k).2.length≤2000:=by
 have hs:stOk (stAt e k)=true:=stsOk_at h.sts hk
 rw [sayM_E]
 generalize stAt e k=s at hs
 obtain ⟨a1,a2,a3,a4,a5,a6,a7,a8⟩:=stOk_iff.1 hs
 have hw5:=(wordOk_iff.1 a5).2
 split
 ·simp
 ·show ((beginM e s).2.2++(pieceM (beginM e s).1 (beginM e s).2.1).2.2).length≤2000
  have hb:(beginM e s).2.2.length≤1000:=by
   unfold beginM
   split
   ·simp
   ·have:=headW_len s.head e.out e.outM (headOk_parts a3).1 (by have:=(headOk_parts a3).2; have:=(tableOk_parts h.out).1; omega)
    have:=(headOk_parts a3).2
    rw [frW_len]
    simp only
    omega
  have hsy:(beginM e s).2.1.say=s.say∧(beginM e s).2.1.sent=s.sent:=by unfold beginM; split <;> exact ⟨rfl,rfl⟩
  have hp:(pieceM (beginM e s).1 (beginM e s).2.1).2.2.length≤1000:=by
   have hmay:=(mayM_le (beginM e s).1 (beginM e s).2.1).1
   unfold pieceM
   split
   ·rw [frW_len]
    simp only [List.length_take,List.length_drop]
    rw [hsy.1,hsy.2] at *
    omega
   ·simp
  rw [List.length_append]
  omega
theorem saysM_succ (n k:Nat) (e:En):saysM (n+1) k e=((saysM n (k+1) (sayM e k).1).1,(sayM e k).2++(saysM n (k+1) (sayM e k).1).2):=rfl
theorem waitM_cons (e:En) (f:Fr) (l:List Fr):waitM e (f :: l)=((waitM (roomM e f) l).1,frW f++(waitM (roomM e f) l).2):=rfl
theorem writeM_eq (e:En):writeM e=((saysM e.strs.length 0 { (waitM e e.wait).1 with wait:=[] }).1,(waitM e e.wait).2++(saysM e.strs.length 0 { (waitM e e.wait).1 with wait:=[] }).2):=rfl
theorem cells_ne {S:List Blk} {i j m n:Nat} {cs ds:List V} (h:S[i]?=some (.cells m cs)) (k:S[j]?=some (.cells n ds)) (hs:m≠n):i≠j:=by
 rintro rfl
 rw [h] at k
 cases k
 exact hs rfl
theorem EnTo.set {S:List Blk} {b c:Nat} {e:En} {b' c':Nat} {S':List Blk} (h:EnTo S b c e b' c' S') {j:Nat} (B:Blk) (hj:S.length≤j) (h1:b'≠j) (h2:c'≠j):EnTo S b c e b' c' (S'.set j B) :=
 ⟨⟨by rw [get_set_ne (Ne.symm h1)]; exact h.at_.1,by rw [get_set_ne (Ne.symm h2)]; exact h.at_.2⟩,h.hb,h.hc,h.upd.set B (.inl hj)⟩
theorem EnTo.appR {S:List Blk} {b c:Nat} {e:En} {b' c':Nat} {S':List Blk} (h:EnTo S b c e b' c' S') (X:List Blk):EnTo S b c e b' c' (S'++X):=⟨h.at_.app X,h.hb,h.hc,h.upd.app X⟩
theorem EnTo.stay {S X:List Blk} {b c:Nat} {e:En} (h:EnAt S b c e):EnTo S b c e b c (S++X):=⟨h.app _,.inl rfl,.inl rfl,(Upd.refl _ _).app _⟩
theorem saysM_len {N:Nat}:∀(n k:Nat) (e:En),EnW N e→k+n≤e.strs.length→(saysM n k e).2.length≤n * 2000
 | 0,k,e,_,_=>by simp [saysM]
 | n+1,k,e,h,hk=>by
  have h1:=sayM_w h (k:=k) (by omega)
  have ih:=saysM_len n (k+1) (sayM e k).1 h1.1 (by rw [h1.2]; omega)
  have hsl:(sayM e k).2.length≤2000:=sayM_len h (by omega)
  rw [saysM_succ]
  simp only [List.length_append]
  have:(n+1) * 2000=n * 2000+2000:=by omega
  omega
theorem waitM_len {N:Nat}:∀(l:List Fr) (e:En),(∀f ∈ l,frameOk f=true)→(waitM e l).2.length≤l.length * 300
 | [],e,_=>by simp [waitM]
 | f :: l,e,h=>by
  have ih:=waitM_len (N:=N) l (roomM e f) (fun g hg=>h g (by simp [hg]))
  have:=(frameOk_nat (h f (by simp))).2.2
  rw [waitM_cons]
  simp only [List.length_append,List.length_cons,frW_len]
  omega
theorem waitM_snoc (l:List Fr) (f:Fr):∀e,waitM e (l++[f])=(roomM (waitM e l).1 f,(waitM e l).2++frW f):=by
 induction l with
 | nil=>intro e; simp [waitM]
 | cons g l ih =>
  intro e
  simp only [List.cons_append,waitM_cons,ih,List.append_assoc]
theorem saysM_snoc:∀(n k:Nat) (e:En),saysM (n+1) k e=((sayM (saysM n k e).1 (k+n)).1,(saysM n k e).2++(sayM (saysM n k e).1 (k+n)).2)
 | 0,k,e=>by simp [saysM]
 | n+1,k,e=>by
  rw [saysM_succ (n+1),saysM_snoc n (k+1) (sayM e k).1,saysM_succ n]
  simp only [List.append_assoc,show k+1+n=k+(n+1) by omega]
theorem frW_pos {f:Fr} (h:frameOk f=true):0≤f.kind∧0≤f.stream∧f.body.length≤1100000:=by
 have:=frameOk_nat h
 omega
theorem l21Write_ok {N:Nat} {e:En} (hW:EnW N e) (hN:N≤1100000) {S:List Blk} {b c:Nat} (h:EnAt S b c e):VCall Tryz.prog 107 [eV b c e] S fun r S' =>
  ∃v,r=.tup [v,.str (writeM e).2]∧RTo S b c (writeM e).1 v S':=by
 have hwl:=hW.len
 have hst:∀i,EnW N (waitM e (e.wait.take i)).1∧(waitM e (e.wait.take i)).1.strs.length=e.strs.length∧(waitM e (e.wait.take i)).1.wait=e.wait:=fun i=>waitM_w _ _ hW
 have hol:∀i,(waitM e (e.wait.take i)).2.length≤(e.wait.take i).length * 300:=fun i=>waitM_len (N:=N) _ _ (fun f hf=>hW.wait f (List.mem_of_mem_take hf))
 refine VCall.ex hDe (fun _=>false) (fun id=>if id=5 then [6,6,6,6,6,6,7,8] else []) Tryz.func107 Tryz.ntmps107 Tryz.results107 ?_
 simp -implicitDefEqProofs (disch:=omega) only [push_cast,simprocAttr,↓gd]
 refine wpV_loop (fun m t S1=>∃(i:Nat) (b1 c1:Nat),m=e.wait.length - i∧i≤e.wait.length∧t 1=.ptr S.length 0∧t 2=.ptr (S.length+1) 0∧t 4=.str (waitM e (e.wait.take i)).2∧t 5=.int .i64 i ∧
  S1[S.length]?=some (.cells 0 (enC (.heap b1 e.strs.length) (.heap c1 e.wait.length) (waitM e (e.wait.take i)).1))∧S1[S.length+1]?=some (.cells 0 zE) ∧
  EnTo S b c (waitM e (e.wait.take i)).1 b1 c1 S1) e.wait.length
  ⟨0,b,c,by omega,by omega,rfl,rfl,rfl,rfl,by simp [waitM,enC],by simp [zE],by simpa [waitM] using EnTo.stay h⟩ ?_
 rintro m t S1 ⟨i,b1,c1,rfl,hi,h1,h2,h4,h5,k0,k1,hto⟩
 have l0:=lt_of_some k0
 have l1:=lt_of_some k1
 obtain ⟨hEw,hEs,hEl⟩:=hst i
 have hoi:=hol i
 have hti:(e.wait.take i).length=i:=by simp; omega
 generalize hE:waitM e (e.wait.take i)=E at *
 obtain ⟨E,o⟩:=E
 simp only at *
 have kc:S1[c1]?=some (.cells 4 (frmsC E.wait)):=hto.at_.2
 rw [hEl] at kc
 have lc:=lt_of_some kc
 refine wpV_of hDe (fun _=>false) (fun id=>if id=5 then [6,6,6,6,6,6,7,8] else []) (by kernel_rfl) ?_
 simp -implicitDefEqProofs (disch:=omega) only [push_cast,simprocAttr,h1,h5,k0,↓gd]
 refine ⟨fun h=>?_,fun h=>?_⟩
 ·have hil:i < e.wait.length:=by omega
  have hat:=frmsC_at hil
  have hlw:=frmsC_len e.wait
  have hfk:=hW.wait _ (getD_memF hil)
  simp -implicitDefEqProofs (disch:=omega) only [push_cast,simprocAttr,h1,h4,h5,k0,kc,hat,↓gd]
  repeat refine And.intro (by omega) ?_
  refine ((l21Room_ok hEw hN hfk hto.at_).as (by simp only [eV_eq,frV_eq,hEs,hEl])).mono ?_
  rintro r S2 ⟨b2,c2,rfl,hto2⟩
  have hEw2:=roomM_w hEw (e.wait.getD i fr0)
  have hb1:=cells_ne hto.at_.1 k0 (by decide)
  have hc1:=cells_ne hto.at_.2 k0 (by decide)
  have hb1':=cells_ne hto.at_.1 k1 (by decide)
  have hc1':=cells_ne hto.at_.2 k1 (by decide)
  have k0:=hto2.upd.get k0 (by simp; omega)
  have k1:=hto2.upd.get k1 (by simp; omega)
  have l0:=lt_of_some k0
  have l1:=lt_of_some k1
  have hstep:=waitM_snoc (e.wait.take i) (e.wait.getD i fr0) e
  rw [hE,←take_fr hil] at hstep
  simp only at hstep
  generalize roomM E (e.wait.getD i fr0)=E2 at hto2 hEw2 hstep
  obtain ⟨hEw2,hEs2,hEl2⟩:=hEw2
  rw [hEs] at hEs2
  rw [hEl] at hEl2
  have kc2:S2[c2]?=some (.cells 4 (frmsC E2.wait)):=hto2.at_.2
  rw [hEl2] at kc2
  have lc2:=lt_of_some kc2
  have hc2:c2≠S.length:=cells_ne kc2 k0 (by decide)
  simp -implicitDefEqProofs (disch:=omega) only [push_cast,simprocAttr,h1,h4,h5,k0,kc2,hEs2,hEl2,hat,↓gd]
  repeat refine And.intro (by omega) ?_
  have hfp:=frW_pos hfk
  refine ((l12Write_ok (e.wait.getD i fr0) hfp.1 hfp.2.1 hfp.2.2 _).as rfl).to ?_
  have hwN:=hW.len
  simp -implicitDefEqProofs (disch:=omega) only [push_cast,simprocAttr,h1,h4,h5,k0,k1,kc2,hEs2,hEl2,hat,frW_len,↓gd]
  repeat refine And.intro (by omega) ?_
  have hns:c2≠S.length:=hc2
  have hnb:b2≠S.length:=cells_ne hto2.at_.1 k0 (by decide)
  exact ⟨e.wait.length - (i+1),by omega,i+1,b2,c2,rfl,by omega,h2,by rw [hstep],rfl,by rw [hstep],by rw [hstep]; exact (hto.trans hto2).set _ (Nat.le_refl _) hnb hns⟩
 ·have:i=e.wait.length:=by omega
  subst this
  rw [List.take_length] at hE
  have hw0:=hEw.noWait
  have hwe:writeM e=((saysM e.strs.length 0 { E with wait:=[] }).1,o++(saysM e.strs.length 0 { E with wait:=[] }).2):=by rw [writeM_eq,hE]
  have hns:c1≠S.length:=cells_ne hto.at_.2 k0 (by decide)
  have hnb:b1≠S.length:=cells_ne hto.at_.1 k0 (by decide)
  have hlb:=lt_of_some hto.at_.1
  have hto0:EnTo S b c { E with wait:=[] } b1 S1.length (S1.set S.length (.cells 0 (enC (.heap b1 e.strs.length) (.heap S1.length 0) { E with wait:=[] }))++[.cells 4 []]):=by
   refine ⟨⟨?_,?_⟩,hto.hb,.inr hto.upd.1,(hto.upd.set _ (.inl (Nat.le_refl _))).app _⟩
   ·have:=hto.at_.1
    simp -implicitDefEqProofs (disch:=omega) only [push_cast,simprocAttr,this,↓gd]
   ·rw [List.getElem?_append_right (by simp)]; simp [frmsC]
  rw [hwe]
  have hns0:({ E with wait:=[] }:En).strs.length=e.strs.length:=hEs
  have hen0:enC (.heap b1 e.strs.length) (.heap S1.length 0) { E with wait:=[] }=[.bool E.ans,.rows none (E.out.map fV),.int .i64 E.outM,.rows none (E.inn.map fV),.int .i64 E.innM,.str E.came,.heap b1 e.strs.length,.int .i64 E.send,.int .i64 E.room,.heap S1.length 0,.bool E.bad]:=rfl
  rw [hen0] at hto0
  generalize hF:({ E with wait:=[] }:En)=F at hto0 hw0 hns0
  have hk1:∀n,n≤e.strs.length→EnW 0 (saysM n 0 F).1∧(saysM n 0 F).1.strs.length=e.strs.length∧(saysM n 0 F).2.length≤n * 2000:=fun n hn=>⟨(saysM_w n 0 F hw0 (by omega)).1,by rw [(saysM_w n 0 F hw0 (by omega)).2,hns0],saysM_len n 0 F hw0 (by omega)⟩
  simp -implicitDefEqProofs (disch:=omega) only [push_cast,simprocAttr,h1,h2,h4,k0,k1,↓gd]
  refine wpV_loop (fun m t S2=>∃(n b2 c2:Nat),m=e.strs.length - n∧n≤e.strs.length∧t 1=.ptr S.length 0∧t 2=.ptr (S.length+1) 0∧t 4=.str (o++(saysM n 0 F).2)∧t 6=.int .i64 n ∧
   S2[S.length]?=some (.cells 0 (enC (.heap b2 e.strs.length) (.heap c2 (saysM n 0 F).1.wait.length) (saysM n 0 F).1))∧S2[S.length+1]?=some (.cells 0 zE) ∧
   EnTo S b c (saysM n 0 F).1 b2 c2 S2) e.strs.length
   ⟨0,b1,S1.length,by omega,by omega,h1,h2,by have:(saysM 0 0 F).2=[]:=rfl; rw [this,List.append_nil]; exact h4,rfl,by subst hF; simp -implicitDefEqProofs (disch:=omega) only [push_cast,simprocAttr,↓gd]; simp [saysM,enC],by simp -implicitDefEqProofs (disch:=omega) only [push_cast,simprocAttr,k1,↓gd],by simpa [saysM] using hto0⟩ ?_
  rintro m t S2 ⟨n,b2,c2,rfl,hn,h1,h2,h4,h6,k0,k1,hto2⟩
  have l0:=lt_of_some k0
  have l1:=lt_of_some k1
  obtain ⟨hXw,hXs,hXl⟩:=hk1 n hn
  have hsn:=saysM_snoc n 0 F
  rw [Nat.zero_add] at hsn
  generalize hX:saysM n 0 F=X at *
  obtain ⟨X,p⟩:=X
  simp only at *
  refine wpV_of0 hDe ?_
  simp -implicitDefEqProofs (disch:=omega) only [push_cast,simprocAttr,h1,h2,h4,h6,k0,↓gd]
  refine ⟨fun h=>?_,fun h=>?_⟩
  ·have hil:n < X.strs.length:=by omega
   refine ((l21Say_ok hXw (by omega) hil hto2.at_).as (by simp only [eV_eq,hXs])).mono ?_
   rintro r S3 ⟨v,rfl,b3,c3,rfl,hto3⟩
   have hb1:=cells_ne hto2.at_.1 k0 (by decide)
   have hc1:=cells_ne hto2.at_.2 k0 (by decide)
   have hb1':=cells_ne hto2.at_.1 k1 (by decide)
   have hc1':=cells_ne hto2.at_.2 k1 (by decide)
   have k0:=hto3.upd.get k0 (by simp; omega)
   have k1:=hto3.upd.get k1 (by simp; omega)
   have l0:=lt_of_some k0
   have l1:=lt_of_some k1
   have hnb:=cells_ne hto3.at_.1 k0 (by decide)
   have hnc:=cells_ne hto3.at_.2 k0 (by decide)
   have hYs:(sayM X n).1.strs.length=e.strs.length:=by rw [(sayM_w hXw hil).2]; exact hXs
   have hYl:=sayM_len hXw hil
   generalize hY:sayM X n=Y at *
   obtain ⟨Y,q⟩:=Y
   simp only at *
   have hwN:=hW.len
   have hsl:=hW.b hN
   have hsl:=hsl.len
   simp -implicitDefEqProofs (disch:=omega) only [push_cast,simprocAttr,h1,h2,h4,h6,k0,k1,↓gd]
   repeat refine And.intro (by omega) ?_
   exact ⟨e.strs.length - (n+1),by omega,n+1,b3,c3,rfl,by omega,by rw [hsn],rfl,by rw [hsn,hYs],by rw [hsn]; exact ((hto2.trans hto3).set _ (Nat.le_refl _) hnb hnc).appR _⟩
  ·have:n=e.strs.length:=by omega
   subst this
   rw [hX]
   simp -implicitDefEqProofs (disch:=omega) only [push_cast,simprocAttr,h1,h2,h4,h6,k0,k1,↓gd]
   have hnb:=cells_ne hto2.at_.1 k1 (by decide)
   have hnc:=cells_ne hto2.at_.2 k1 (by decide)
   refine ⟨_,_,Wk.refl _ _ _,_,rfl,b2,c2,by simp only [eV_eq,hXs],hto2.set _ (by omega) hnb hnc⟩
end
section
open Go
theorem decM_lenk:∀(k n:Nat),n < 10 ^ (k+1)→(decM n).length≤k+1
 | 0,n,h=>by rw [decM_small (by simpa using h)]; simp
 | k+1,n,h=>by
  by_cases hs:n < 10
  ·rw [decM_small hs]; simp
  ·rw [decM_big hs,List.length_append]
   have:=decM_lenk k (n / 10) (by rw [Nat.pow_succ] at h; omega)
   simp
   omega
theorem decM_len (n:Nat) (hn:n≤1000000000):(decM n).length≤10:=decM_lenk 9 n (by omega)
theorem by8_add (m:Nat):UInt8.ofNat (48+(m:Int)).toNat=by8 (48+m):=by
 rw [show (48+(m:Int)).toNat=48+m by omega]
 rfl
theorem l6Dec_ok (n:Nat) (hn:n≤1000000000) (S:List Blk):VCall Tryz.prog 132 [.int .i64 n] S fun r S'=>r=.str (decM n)∧S'=S:=by
 induction n using Nat.strongRecOn generalizing S with
 | ind n ih =>
 have h0:¬(n:Int) < -9223372036854775807:=by omega
 have h1:¬(n:Int) < 0:=by omega
 by_cases hs:n < 10
 ·have h2:(n:Int) < 10:=by omega
  refine VCall.ex hD (fun f=>if f=some 132 then true else false) (fun id=>if id=7 then [11,11,11,7,7,7,7,11,11,11,11] else []) Tryz.func132 Tryz.ntmps132 Tryz.results132 ?_
  simp -implicitDefEqProofs (disch:=omega) only [push_cast,simprocAttr,h0,h1,h2,↓gd]
  refine fin1 (.str _) ?_
  rw [decM_small hs]
  exact congrArg (fun x=>V.str [x]) (by8_add n)
 ·have h2:¬(n:Int) < 10:=by omega
  have e1:(n:Int).tdiv 10=((n / 10:Nat):Int):=by rw [Int.tdiv_eq_ediv_of_nonneg (by omega)]; omega
  have e2:(n:Int).tmod 10=((n % 10:Nat):Int):=by rw [Int.tmod_eq_emod_of_nonneg (by omega)]; omega
  refine VCall.ex hD (fun f=>if f=some 132 then true else false) (fun id=>if id=7 then [11,11,11,7,7,7,7,11,11,11,11] else []) Tryz.func132 Tryz.ntmps132 Tryz.results132 ?_
  simp -implicitDefEqProofs (disch:=omega) only [push_cast,simprocAttr,h0,h1,h2,e1,e2,↓gd]
  refine ⟨_,fun S0=>ih (n / 10) (by omega) (by omega) S0,?_⟩
  have hdl:=decM_len (n / 10) (by omega)
  simp -implicitDefEqProofs (disch:=omega) only [push_cast,simprocAttr,h0,h1,h2,e1,e2,↓gd]
  refine ⟨by omega,fin1 (.str _) ?_⟩
  rw [decM_big hs,←by8_add]
  rfl
theorem l21Table_ok (S:List Blk):VCall Tryz.prog 140 [] S fun r S'=>r=tV [] 64∧S'=S:=by
 refine VCall.en hD Tryz.func140 Tryz.ntmps140 Tryz.results140 ?_
 simp -implicitDefEqProofs (disch:=omega) only [push_cast,simprocAttr,↓gd]
 exact finE (cl_tab _ [] 64) rfl
theorem sEndNew_ok (a:Bool) (S:List Blk):VCall Tryz.prog 108 [.bool a] S fun r S'=>RNew S (newEn a) r S':=by
 refine VCall.en hDe Tryz.func108 Tryz.ntmps108 Tryz.results108 ?_
 simp -implicitDefEqProofs (disch:=omega) only [push_cast,simprocAttr,↓gd]
 refine (l21Table_ok _).to ?_
 simp -implicitDefEqProofs (disch:=omega) only [push_cast,simprocAttr,↓gd]
 refine (l21Table_ok _).to ?_
 simp -implicitDefEqProofs (disch:=omega) only [push_cast,simprocAttr,↓gd]
 refine ⟨_,_,Wk.refl _ _ _,S.length+1,S.length+2,rfl,⟨by simp -implicitDefEqProofs (disch:=omega) only [push_cast,simprocAttr,↓gd]; rfl,by simp -implicitDefEqProofs (disch:=omega) only [push_cast,simprocAttr,↓gd]; rfl⟩,by omega,by omega,(Upd.refl _ _).app _⟩
theorem stV_cl (n:Nat) (s:St):Cl n (stV s):=by
 refine .agg (fun v hv=>?_)
 simp only [strC,List.mem_cons,List.not_mem_nil,or_false] at hv
 rcases hv with rfl | rfl | rfl | rfl | rfl | rfl | rfl | rfl | rfl | rfl | rfl | rfl <;> first | exact .int _ _ | exact .str _ | exact .bool _ | exact cl_fds _ _
theorem l21New_ok (id:Int) (S:List Blk):VCall Tryz.prog 133 [.int .i64 id] S fun r S'=>r=stV (newSt id)∧S'=S:=by
 refine VCall.en hD Tryz.func133 Tryz.ntmps133 Tryz.results133 ?_
 simp -implicitDefEqProofs (disch:=omega) only [push_cast,simprocAttr,↓gd]
 exact finE (stV_cl _ (newSt id)) rfl
theorem l21Call_ok {N:Nat} {e:En} (hW:EnW N e) (hN:N≤1100000) (path text:List UInt8) (hp:path.length≤2000000) (ht:text.length≤2000000) {S:List Blk} {b c:Nat} (h:EnAt S b c e):VCall Tryz.prog 100 [eV b c e,.str path,.str text] S fun r S' =>
  ∃v,r=.tup [v,.int .i64 (callM e path text).2.1,.bool (callM e path text).2.2]∧RTo S b c (callM e path text).1 v S'∧((callM e path text).2.2=false→EnAt S' b c e):=by
 have he:=hW.b hN
 have hsl:=stsOk_len hW.sts
 obtain ⟨ans,out,outM,inn,innM,came,strs,snd,rm,wait,bad⟩:=e
 have hne:=h.ne
 have hb:S[b]?=some (.cells 12 (strsC strs)):=h.1
 have hc:S[c]?=some (.cells 4 (frmsC wait)):=h.2
 have hbl:=lt_of_some hb
 have hcl:=lt_of_some hc
 have hlen:=strsC_len strs
 simp only at hsl
 have hdl:=decM_len text.length (by omega)
 have hm:callM ⟨ans,out,outM,inn,innM,came,strs,snd,rm,wait,bad⟩ path text=if ans=true∨2 * (strs.length:Int)+1 > 7∨headOk (callHead path text)=false∨wordOk text=false then ((⟨ans,out,outM,inn,innM,came,strs,snd,rm,wait,bad⟩,0,false):En × Int × Bool)
  else (⟨ans,out,outM,inn,innM,came,strs++[{ newSt (2 * strs.length+1) with head:=callHead path text,say:=text }],snd,rm,wait,bad⟩,2 * strs.length+1,true):=rfl
 have hfb:FdsB (callHead path text):=by
  refine ⟨by simp [callHead],fun f hf=>?_⟩
  simp only [callHead,List.mem_cons,List.not_mem_nil,or_false] at hf
  rcases hf with rfl | rfl | rfl
  ·exact ⟨by simp [sPath],by simp only; omega⟩
  ·exact ⟨by simp [sKind],by simp [sText]⟩
  ·exact ⟨by simp [sSize],by simp only; omega⟩
 have hcv:([.agg [.str [58,112,97,116,104],.str path,.bool false],.agg [.str [107,105,110,100],.str [116,101,120,116],.bool false],.agg [.str [115,105,122,101],.str (decM text.length),.bool false]]:List V)=(callHead path text).map fV:=rfl
 refine VCall.en hDe Tryz.func100 Tryz.ntmps100 Tryz.results100 ?_
 simp -implicitDefEqProofs (disch:=omega) only [push_cast,simprocAttr,↓gd]
 refine (l6Dec_ok text.length (by omega) _).to ?_
 cases ans
 ·by_cases hid:2 * (strs.length:Int)+1 > 7
  ·rw [hm,if_pos (.inr (.inl hid))]
   simp -implicitDefEqProofs (disch:=omega) only [push_cast,simprocAttr,hid,↓gd]
   exact ⟨_,_,Wk.refl _ _ _,_,rfl,.stay h,h.app _⟩
  ·simp -implicitDefEqProofs (disch:=omega) only [push_cast,simprocAttr,hid,↓gd]
   refine ((sHeadOk_ok (callHead path text) hfb _).as rfl).to ?_
   cases hh:headOk (callHead path text)
   ·rw [hm,if_pos (.inr (.inr (.inl hh)))]
    simp -implicitDefEqProofs (disch:=omega) only [push_cast,simprocAttr,hid,↓gd]
    exact ⟨_,_,Wk.refl _ _ _,_,rfl,.stay h,h.app _⟩
   ·simp -implicitDefEqProofs (disch:=omega) only [push_cast,simprocAttr,hid,↓gd]
    refine ((sWordOk_ok text (by omega) _).as rfl).to ?_
    cases hwt:wordOk text
    ·rw [hm,if_pos (.inr (.inr (.inr hwt)))]
     simp -implicitDefEqProofs (disch:=omega) only [push_cast,simprocAttr,hid,↓gd]
     exact ⟨_,_,Wk.refl _ _ _,_,rfl,.stay h,h.app _⟩
    ·rw [hm,if_neg (by simp [hh,hwt]; omega)]
     simp -implicitDefEqProofs (disch:=omega) only [push_cast,simprocAttr,hid,↓gd]
     refine (l21New_ok _ _).to ?_
     simp -implicitDefEqProofs (disch:=omega) only [push_cast,simprocAttr,hb,↓gd]
     repeat refine And.intro (by omega) ?_
     refine ⟨_,_,Wk.refl _ _ _,_,rfl,RTo.mk (S.length+5) c (by simp [eV,enV,enC]) ?_ ?_ (.inr (by omega)) (.inl rfl) (((Upd.refl _ _).set _ (.inr (by simp))).app _)⟩
     ·simp -implicitDefEqProofs (disch:=omega) only [push_cast,simprocAttr,↓gd]
      rw [strsC_app,strsC_one]
      rfl
     ·simp -implicitDefEqProofs (disch:=omega) only [push_cast,simprocAttr,hc,↓gd]
 ·rw [hm,if_pos (.inl rfl)]
  simp -implicitDefEqProofs (disch:=omega) only [push_cast,simprocAttr,↓gd]
  exact ⟨_,_,Wk.refl _ _ _,_,rfl,.stay h,h.app _⟩
theorem getM_at {h:List Fd} {name:List UInt8} {i:Nat} (hi:i < h.length) (hno:∀j,j < i→(h.getD j fd0).name≠name) (he:(h.getD i fd0).name=name):getM h name=((h.getD i fd0).val,true):=by
 have:h.find? (fun f=>decide (f.name=name))=some (h.getD i fd0):=by
  rw [List.find?_eq_some_iff_getElem]
  have e:∀{j} (hj:j < h.length),h.getD j fd0=h[j]:=fun hj=>by rw [List.getD,List.getElem?_eq_getElem hj]; rfl
  refine ⟨by simpa using he,i,hi,(e hi).symm,fun j hj=>?_⟩
  have:=hno j hj
  rw [e (by omega)] at this
  simpa using this
 rw [getM,this]
theorem getM_no {h:List Fd} {name:List UInt8} (hno:∀j,j < h.length→(h.getD j fd0).name≠name):getM h name=([],false):=by
 have:h.find? (fun f=>decide (f.name=name))=none:=by
  rw [List.find?_eq_none]
  intro f hf
  obtain ⟨j,hj,rfl⟩:=List.getElem_of_mem hf
  have:=hno j hj
  rw [List.getD,List.getElem?_eq_getElem hj] at this
  simpa using this
 rw [getM,this]
theorem sHeadGet_ok (h:List Fd) (hk:headOk h=true) (name:List UInt8) (S:List Blk):VCall Tryz.prog 177 [.rows none (h.map fV),.str name] S fun r S'=>r=.tup [.str (getM h name).1,.bool (getM h name).2]∧S'=S:=by
 have hl:=headOk_b hk
 have hlen:=hl.1
 refine VCall.en hD Tryz.func177 Tryz.ntmps177 Tryz.results177 ?_
 simp -implicitDefEqProofs (disch:=omega) only [push_cast,simprocAttr,↓gd]
 refine ((sHeadOk_ok h hl _).as rfl).to ?_
 simp -implicitDefEqProofs (disch:=omega) only [push_cast,simprocAttr,hk,↓gd]
 refine wpV_loop (fun m t S'=>∃i:Nat,m=h.length - i∧i≤h.length∧(∀j,j < i→(h.getD j fd0).name≠name)∧t 0=.rows none (h.map fV)∧t 1=.str name∧t 6=.int .i64 i∧S'=S) h.length ⟨0,by omega,by omega,by omega,rfl,rfl,rfl,rfl⟩ ?_
 rintro m t S' ⟨i,rfl,hi,hno,h0,h1,h6,rfl⟩
 refine wpV_of0 hD ?_
 simp -implicitDefEqProofs (disch:=omega) only [push_cast,simprocAttr,h0,h1,h6,↓gd]
 refine ⟨fun q=>?_,fun q=>?_⟩
 ·have hil:i < h.length:=by omega
  have hgd:=getD_fV hil
  have hat:=getM_at (name:=name) hil hno
  generalize hf:h.getD i fd0=f at hgd hat
  by_cases hq:f.name=name
  ·have hm:=hat hq
   simp -implicitDefEqProofs (disch:=omega) only [push_cast,simprocAttr,h0,h1,h6,hgd,hq,↓gd]
   repeat refine And.intro (by omega) ?_
   exact fin0 (by rw [hm])
  ·simp -implicitDefEqProofs (disch:=omega) only [push_cast,simprocAttr,h0,h1,h6,hgd,hq,↓gd]
   repeat refine And.intro (by omega) ?_
   refine ⟨h.length - (i+1),by omega,i+1,rfl,by omega,fun j hj=>?_,by simp⟩
   by_cases e1:j=i
   ·rw [e1,hf]; exact hq
   ·exact hno j (by omega)
 ·exact fin0 (by rw [getM_no (fun j hj=>hno j (by omega))])
theorem upM_take {w:List UInt8} {i:Nat} (h:i < w.length):upM (w.take (i+1))=upM (w.take i)++[if 97≤(w.getD i 0).toNat∧(w.getD i 0).toNat < 122 then by8 ((w.getD i 0).toNat+1) else w.getD i 0]:=by
 rw [List.take_succ_eq_append_getElem h,upM,List.map_append,getD_lt 0 h]
 rfl
theorem upM_len (w:List UInt8):(upM w).length=w.length:=by simp [upM]
theorem l21Up_ok (w:List UInt8) (hw:w.length≤1100000) (S:List Blk):VCall Tryz.prog 199 [.str w] S fun r S'=>r=.str (upM w)∧S'=S:=by
 refine VCall.en hD Tryz.func199 Tryz.ntmps199 Tryz.results199 ?_
 simp -implicitDefEqProofs (disch:=omega) only [push_cast,simprocAttr,↓gd]
 refine wpV_loop (fun m t S'=>∃(i:Nat) (X:List Blk),m=w.length - i∧i≤w.length∧t 0=.str w∧t 3=.str (upM (w.take i))∧t 4=.int .i64 i∧S'=S++X) w.length ⟨0,[],by omega,by omega,rfl,rfl,rfl,by simp⟩ ?_
 rintro m t S' ⟨i,X,rfl,hi,h0,h3,h4,rfl⟩
 refine wpV_of0 hD ?_
 simp -implicitDefEqProofs (disch:=omega) only [push_cast,simprocAttr,h0,h3,h4,↓gd]
 refine ⟨fun q=>?_,fun q=>?_⟩
 ·have hil:i < w.length:=by omega
  have ht:=upM_take hil
  have hul:=upM_len (w.take i)
  have hti:(w.take i).length=i:=by simp; omega
  have hb:=UInt8.toNat_lt (w.getD i 0)
  generalize w.getD i 0=x at ht hb
  have hx:UInt8.ofNat x.toNat=x:=by simp
  have e:x.toNat < 122→UInt8.ofNat (IntKind.u8.wrap ((x.toNat:Int)+1)).toNat=by8 (x.toNat+1):=fun q=>by rw [show (x.toNat:Int)+1=((x.toNat+1:Nat):Int) by omega,by8_wrap]
  refine ⟨by omega,by omega,fun h1=>⟨fun h2=>?_,fun h2=>?_⟩,fun h1=>?_⟩
  ·rw [if_pos (by omega)] at ht
   rw [e (by omega)]
   exact ⟨by omega,w.length - (i+1),by omega,i+1,X++[.right 1],rfl,by omega,by rw [ht],by simp,rfl⟩
  ·rw [if_neg (by omega)] at ht
   rw [hx]
   exact ⟨by omega,w.length - (i+1),by omega,i+1,X++[.right 1],rfl,by omega,by rw [ht],by simp,rfl⟩
  ·rw [if_neg (by omega)] at ht
   rw [hx]
   exact ⟨by omega,w.length - (i+1),by omega,i+1,X++[.right 1],rfl,by omega,by rw [ht],by simp,rfl⟩
 ·have:i=w.length:=by omega
  subst this
  exact fin1 (.str _) (by rw [List.take_length])
theorem sEndAnswer_ok (path text:List UInt8) (ht:text.length < 100) (S:List Blk):VCall Tryz.prog 178 [.str path,.str text] S fun r S'=>r=.tup [.str (answerM path text).1,.str (answerM path text).2]∧S'=S:=by
 refine VCall.en hD Tryz.func178 Tryz.ntmps178 Tryz.results178 ?_
 by_cases h1:path=sEcho
 ·have h1':(path=[47,101,99,104,111])=True:=eq_true h1
  simp -implicitDefEqProofs (disch:=omega) only [push_cast,simprocAttr,h1',↓gd]
  exact fin0 (by rw [answerM,if_pos h1])
 ·have h1':¬path=[47,101,99,104,111]:=h1
  by_cases h2:path=sUp
  ·have h2':(path=[47,117,112])=True:=eq_true h2
   simp -implicitDefEqProofs (disch:=omega) only [push_cast,simprocAttr,h1',h2',↓gd]
   refine (l21Up_ok text (by omega) _).to ?_
   simp -implicitDefEqProofs (disch:=omega) only [push_cast,simprocAttr,↓gd]
   exact fin0 (by rw [answerM,if_neg h1,if_pos h2])
  ·have h2':¬path=[47,117,112]:=h2
   by_cases h3:path=sLen
   ·have h3':(path=[47,108,101,110])=True:=eq_true h3
    simp -implicitDefEqProofs (disch:=omega) only [push_cast,simprocAttr,h1',h2',h3',↓gd]
    refine (l6Dec_ok _ (by omega) _).to ?_
    simp -implicitDefEqProofs (disch:=omega) only [push_cast,simprocAttr,↓gd]
    exact fin0 (by rw [answerM,if_neg h1,if_neg h2,if_pos h3])
   ·have h3':¬path=[47,108,101,110]:=h3
    simp -implicitDefEqProofs (disch:=omega) only [push_cast,simprocAttr,h1',h2',h3',↓gd]
    refine fin0 ?_
    rw [answerM,if_neg h1,if_neg h2,if_neg h3]
theorem l21Ask_ok (s:St) (hg:headOk s.got=true) (ht:s.text.length < 100) (S:List Blk):VCall Tryz.prog 161 [stV s] S fun r S'=>r=stV (askM s)∧S'=S:=by
 refine VCall.en hD Tryz.func161 Tryz.ntmps161 Tryz.results161 ?_
 simp -implicitDefEqProofs (disch:=omega) only [push_cast,simprocAttr,↓gd]
 refine (sHeadGet_ok s.got hg _ _).to ?_
 simp -implicitDefEqProofs (disch:=omega) only [push_cast,simprocAttr,↓gd]
 refine (sEndAnswer_ok _ s.text ht _).to ?_
 simp -implicitDefEqProofs (disch:=omega) only [push_cast,simprocAttr,↓gd]
 exact finE (stV_cl _ (askM s)) rfl
theorem l21Done_ok {v w:V} (e:En) (s:St) (hg:headOk s.got=true) (ht:s.text.length < 100) (hv:V.one v=true) (hw:V.one w=true) (S:List Blk):VCall Tryz.prog 144 [enV v w e,stV s] S fun r S'=>r=stV (doneM e.ans s)∧S'=S:=by
 have hs0:=doneM e.ans s
 refine VCall.en hD Tryz.func144 Tryz.ntmps144 Tryz.results144 ?_
 by_cases h1:s.state=1
 ·rcases Bool.eq_false_or_eq_true e.ans with ha | ha
  ·simp -implicitDefEqProofs (disch:=omega) only [push_cast,simprocAttr,hv,hw,h1,ha,↓gd]
   refine ((l21Ask_ok { s with heard:=true } hg ht _).as (by simp [stV,strC,h1])).to ?_
   simp -implicitDefEqProofs (disch:=omega) only [push_cast,simprocAttr,↓gd]
   exact fin1 (stV_cl _ _) (by simp [doneM,h1,ha,stV,strC])
  ·simp -implicitDefEqProofs (disch:=omega) only [push_cast,simprocAttr,hv,hw,h1,ha,↓gd]
   exact fin1 (stV_cl _ { s with heard:=true,state:=2 }) (by simp [doneM,h1,ha,stV,strC])
 ·simp -implicitDefEqProofs (disch:=omega) only [push_cast,simprocAttr,hv,hw,h1,↓gd]
  exact fin1 (stV_cl _ { s with heard:=true }) (by simp [doneM,h1,stV,strC])
end
end Go.Proofs.YtldogccmhncnoaaGreatDoor
