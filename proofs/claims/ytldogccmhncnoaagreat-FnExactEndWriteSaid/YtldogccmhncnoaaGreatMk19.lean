/- A part of the proof: contracts of functions, or plain facts on which these lean. -/
import Derived.Test.YtldogccmhncnoaaGreatMk14
import Derived.Test.YtldogccmhncnoaaGreatMk16
import Derived.Test.YtldogccmhncnoaaGreatMk17
import Derived.Test.YtldogccmhncnoaaGreatMk18
namespace Go.Proofs.YtldogccmhncnoaaGreat
open Go
set_option linter.unusedVariables false
set_option linter.unusedSimpArgs false
set_option maxRecDepth 100000
set_option maxHeartbeats 16000000

section
open Go
theorem table_len {l:List Fd} {m:Int} (h:tableOk l m=true):l.length≤100:=by
 have:=(tableOk_parts h).1
 omega
theorem min3 (x y z:Int):(if z < (if y < x then y else x) then z else (if y < x then y else x))=min x (min y z):=by omega
theorem frW_len (f:Fr):(frW f).length=4+f.body.length:=by simp [frW]; omega
def sayE (e:En) (k:Nat) (s:St):En × List UInt8 :=
 let (e1,s1,o1):=beginM e s
 let (e2,s2,o2):=pieceM e1 s1
 (setSt e2 k { s2 with state:=if e.ans && s2.said then 2 else s2.state },o1++o2)
theorem sayM_E (e:En) (k:Nat):sayM e k=if (stAt e k).state≠1∨(stAt e k).head=[]∨(stAt e k).said=true then (e,[]) else sayE e k (stAt e k):=rfl
theorem say_fin {S X:List Blk} {b c k:Nat} {ans bad:Bool} {out inn:List Fd} {outM innM snd rm:Int} {came:List UInt8} {strs:List St} {wait:List Fr} {s':St} {o:List UInt8} {E:En × List UInt8}
  (hb:S[b]?=some (.cells 12 (strsC strs))) (hc:S[c]?=some (.cells 4 (frmsC wait))) (hne:b≠c) (hk:k < strs.length) (hE:E=(⟨ans,out,outM,inn,innM,came,strs.set k s',snd,rm,wait,bad⟩,o)) :
  ∃r S2,Wk S (.tup [.agg [.bool ans,.rows none (out.map fV),.int .i64 outM,.rows none (inn.map fV),.int .i64 innM,.str came,.heap b strs.length,.int .i64 snd,.int .i64 rm,.heap c wait.length,.bool bad],.str o])
   (S.set b (.cells 12 (splice (strsC strs) (k * 12) (strC s')))++X) r S2∧∃v,r=.tup [v,.str E.2]∧RTo S b c E.1 v S2:=by
 subst hE
 have hbl:=lt_of_some hb
 have hcl:=lt_of_some hc
 refine ⟨_,_,Wk.refl _ _ _,_,rfl,RTo.mk b c (by simp [eV,enV,enC]) ?_ ?_ (.inl rfl) (.inl rfl) (((Upd.refl _ _).set _ (.inr (by simp))).app _)⟩
 ·rw [strsC_set s' hk]
  simp -implicitDefEqProofs (maxSteps:=1000000) (disch:=omega) only [push_cast,simprocAttr,↓gd]
 ·simp -implicitDefEqProofs (maxSteps:=1000000) (disch:=omega) only [push_cast,simprocAttr,hc,↓gd]
theorem l21Say_ok {N:Nat} {e:En} (hW:EnW N e) (hN:N≤1100000) {k:Nat} (hk:k < e.strs.length) {S:List Blk} {b c:Nat} (h:EnAt S b c e):VCall Tryz.prog 48 [eV b c e,.int .i64 k] S fun r S' =>
  ∃v,r=.tup [v,.str (sayM e k).2]∧RTo S b c (sayM e k).1 v S':=by
 have he:=hW.b hN
 have hfl:=hW.flows
 have hsts:=hW.sts
 have hto:=hW.out
 obtain ⟨ans,out,outM,inn,innM,came,strs,snd,rm,wait,bad⟩:=e
 simp only at hfl hsts hto hk
 have hne:=h.ne
 have hb:S[b]?=some (.cells 12 (strsC strs)):=h.1
 have hc:S[c]?=some (.cells 4 (frmsC wait)):=h.2
 have hbl:=lt_of_some hb
 have hcl:=lt_of_some hc
 have hlen:=strsC_len strs
 have hat:=strsC_at hk
 have hso:=stsOk_at hsts hk
 have hsf:=stOk_flow hso
 obtain ⟨a1,a2,a3,a4,a5,a6,a7,a8⟩:=stOk_iff.1 hso
 have hm0:∀s,strs.getD k st0=s→sayM ⟨ans,out,outM,inn,innM,came,strs,snd,rm,wait,bad⟩ k=if s.state≠1∨s.head=[]∨s.said=true then (⟨ans,out,outM,inn,innM,came,strs,snd,rm,wait,bad⟩,[]) else
  sayE ⟨ans,out,outM,inn,innM,came,strs,snd,rm,wait,bad⟩ k s:=fun s hs=>by subst hs; rfl
 generalize hs:strs.getD k st0=s at hat hso hsf a1 a2 a3 a4 a5 a6 a7 a8
 rw [hm0 s hs]
 clear hm0
 obtain ⟨sid,sst,shd,ssay,sbg,ssd,ssent,sgot,stx,shrd,ssnd,srm⟩:=s
 simp only at hsf a1 a2 a3 a4 a5 a6 a7 a8
 have hwl:=(wordOk_iff.1 a5).2
 refine VCall.ex hDe (fun _=>false) (fun id=>if id=16 then [18,15,15,15,15,15,15,15,15,15,15,15,15,15,15,18,18,18] else []) Tryz.func48 Tryz.ntmps48 Tryz.results48 ?_
 simp -implicitDefEqProofs (maxSteps:=1000000) (disch:=omega) only [push_cast,simprocAttr,hb,hat,↓gd]
 repeat refine And.intro (by omega) ?_
 by_cases h1:sst=1
 ·by_cases h2:shd=[]
  ·rw [if_pos (by simp [h2])]
   subst h2
   simp -implicitDefEqProofs (maxSteps:=1000000) (disch:=omega) only [push_cast,simprocAttr,h1,↓gd]
   exact ⟨_,_,Wk.refl _ _ _,_,rfl,.stay h⟩
  ·have h2':¬(shd.length:Int)=0:=by
    have:=List.length_pos_iff.2 h2
    omega
   cases ssd
   ·rw [if_neg (by simp [h1,h2])]
    subst h1
    have hid0:=(strmOk_iff.1 a1).1
    generalize hq:min ((ssay.length:Int) - ssent) (min ssnd snd)=q
    have hq1:q≤ssay.length - ssent:=by omega
    have hq2:q≤ssnd:=by omega
    have hq3:q≤snd:=by omega
    have hsl:0 < q→List.drop ssent.toNat (List.take (ssent+q).toNat ssay)=(ssay.drop ssent.toNat).take q.toNat:=fun h0=>by
     rw [List.drop_take]
     congr 1
     omega
    have hsl2:((ssay.drop ssent.toNat).take q.toNat).length≤1000:=by simp; omega
    cases sbg
    ·simp -implicitDefEqProofs (maxSteps:=1000000) (disch:=omega) only [push_cast,simprocAttr,h2',↓gd]
     refine ((l11All_ok out outM shd (headOk_parts a3).1 (tableOk_b hto) (table_len hto) (by have:=(headOk_parts a3).2; omega) (tableOk_parts hto).2.1 _).as rfl).to ?_
     have hbl2:(headW out outM shd).2.length≤1000:=by
      have:=headW_len shd out outM (headOk_parts a3).1 (by have:=(headOk_parts a3).2; have:=(tableOk_parts hto).1; omega)
      have:=(headOk_parts a3).2
      omega
     by_cases hsy:ssay=[]
     ·subst hsy
      simp -implicitDefEqProofs (maxSteps:=1000000) (disch:=omega) only [push_cast,simprocAttr,↓gd]
      refine ((l12Write_ok ⟨1,true,sid,(headW out outM shd).2⟩ (by simp) (by simp only; omega) (by simp only; omega) _).as rfl).to ?_
      cases ans
      ·simp -implicitDefEqProofs (maxSteps:=1000000) (disch:=omega) only [push_cast,simprocAttr,min3,hq,frW_len,↓gd]
       repeat refine And.intro (by omega) ?_
       refine say_fin (s':=⟨sid,1,shd,[],true,true,ssent,sgot,stx,shrd,ssnd,srm⟩) hb hc hne hk ?_
       simp [sayE,beginM,pieceM,setSt]
      ·simp -implicitDefEqProofs (maxSteps:=1000000) (disch:=omega) only [push_cast,simprocAttr,min3,hq,frW_len,↓gd]
       repeat refine And.intro (by omega) ?_
       refine say_fin (s':=⟨sid,2,shd,[],true,true,ssent,sgot,stx,shrd,ssnd,srm⟩) hb hc hne hk ?_
       simp [sayE,beginM,pieceM,setSt]
     ·simp -implicitDefEqProofs (maxSteps:=1000000) (disch:=omega) only [push_cast,simprocAttr,hsy,↓gd]
      refine ((l12Write_ok ⟨1,false,sid,(headW out outM shd).2⟩ (by simp) (by simp only; omega) (by simp only; omega) _).as rfl).to ?_
      by_cases hq0:0 < q
      ·have hq0':q > 0:=hq0
       simp -implicitDefEqProofs (maxSteps:=1000000) (disch:=omega) only [push_cast,simprocAttr,min3,hq,hq0',hsl hq0,↓gd]
       repeat refine And.intro (by omega) ?_
       have hfh:=frW_len ⟨1,false,sid,(headW out outM shd).2⟩
       simp only at hfh
       refine ((l12Write_ok ⟨0,decide (ssent+q=ssay.length),sid,(ssay.drop ssent.toNat).take q.toNat⟩ (by simp) (by simp only; omega) (by simp only; omega) _).as rfl).to ?_
       have hfd:=frW_len ⟨0,decide (ssent+q=ssay.length),sid,(ssay.drop ssent.toNat).take q.toNat⟩
       simp only at hfd
       cases ans
       ·simp -implicitDefEqProofs (maxSteps:=1000000) (disch:=omega) only [push_cast,simprocAttr,min3,hq,frW_len,↓gd]
        repeat refine And.intro (by omega) ?_
        refine say_fin (s':=⟨sid,1,shd,ssay,true,decide (ssent+q=ssay.length),ssent+q,sgot,stx,shrd,ssnd - q,srm⟩) hb hc hne hk ?_
        simp [sayE,beginM,pieceM,setSt,mayM,hq,hq0,hsy]
       ·by_cases he0:ssent+q=ssay.length
        ·simp -implicitDefEqProofs (maxSteps:=1000000) (disch:=omega) only [push_cast,simprocAttr,min3,hq,he0,frW_len,↓gd]
         repeat refine And.intro (by omega) ?_
         refine say_fin (s':=⟨sid,2,shd,ssay,true,decide True,ssay.length,sgot,stx,shrd,ssnd - q,srm⟩) hb hc hne hk ?_
         simp [sayE,beginM,pieceM,setSt,mayM,hq,hq0,he0,hsy]
        ·simp -implicitDefEqProofs (maxSteps:=1000000) (disch:=omega) only [push_cast,simprocAttr,min3,hq,he0,frW_len,↓gd]
         repeat refine And.intro (by omega) ?_
         refine say_fin (s':=⟨sid,1,shd,ssay,true,decide False,ssent+q,sgot,stx,shrd,ssnd - q,srm⟩) hb hc hne hk ?_
         simp [sayE,beginM,pieceM,setSt,mayM,hq,hq0,he0,hsy]
      ·have hq0':¬q > 0:=hq0
       cases ans
       ·simp -implicitDefEqProofs (maxSteps:=1000000) (disch:=omega) only [push_cast,simprocAttr,min3,hq,hq0',↓gd]
        repeat refine And.intro (by omega) ?_
        refine say_fin (s':=⟨sid,1,shd,ssay,true,decide False,ssent,sgot,stx,shrd,ssnd,srm⟩) hb hc hne hk ?_
        simp [sayE,beginM,pieceM,setSt,mayM,hq,hq0,hsy]
       ·simp -implicitDefEqProofs (maxSteps:=1000000) (disch:=omega) only [push_cast,simprocAttr,min3,hq,hq0',↓gd]
        repeat refine And.intro (by omega) ?_
        refine say_fin (s':=⟨sid,1,shd,ssay,true,decide False,ssent,sgot,stx,shrd,ssnd,srm⟩) hb hc hne hk ?_
        simp [sayE,beginM,pieceM,setSt,mayM,hq,hq0,hsy]
    ·by_cases hq0:0 < q
     ·have hq0':q > 0:=hq0
      simp -implicitDefEqProofs (maxSteps:=1000000) (disch:=omega) only [push_cast,simprocAttr,h2',min3,hq,hq0',hsl hq0,↓gd]
      repeat refine And.intro (by omega) ?_
      refine ((l12Write_ok ⟨0,decide (ssent+q=ssay.length),sid,(ssay.drop ssent.toNat).take q.toNat⟩ (by simp) (by simp only; omega) (by simp only; omega) _).as rfl).to ?_
      have hfd:=frW_len ⟨0,decide (ssent+q=ssay.length),sid,(ssay.drop ssent.toNat).take q.toNat⟩
      simp only at hfd
      cases ans
      ·simp -implicitDefEqProofs (maxSteps:=1000000) (disch:=omega) only [push_cast,simprocAttr,min3,hq,frW_len,↓gd]
       repeat refine And.intro (by omega) ?_
       refine say_fin (s':=⟨sid,1,shd,ssay,true,decide (ssent+q=ssay.length),ssent+q,sgot,stx,shrd,ssnd - q,srm⟩) hb hc hne hk ?_
       simp [sayE,beginM,pieceM,setSt,mayM,hq,hq0]
      ·by_cases he0:ssent+q=ssay.length
       ·simp -implicitDefEqProofs (maxSteps:=1000000) (disch:=omega) only [push_cast,simprocAttr,min3,hq,he0,frW_len,↓gd]
        repeat refine And.intro (by omega) ?_
        refine say_fin (s':=⟨sid,2,shd,ssay,true,decide True,ssay.length,sgot,stx,shrd,ssnd - q,srm⟩) hb hc hne hk ?_
        simp [sayE,beginM,pieceM,setSt,mayM,hq,hq0,he0]
       ·simp -implicitDefEqProofs (maxSteps:=1000000) (disch:=omega) only [push_cast,simprocAttr,min3,hq,he0,frW_len,↓gd]
        repeat refine And.intro (by omega) ?_
        refine say_fin (s':=⟨sid,1,shd,ssay,true,decide False,ssent+q,sgot,stx,shrd,ssnd - q,srm⟩) hb hc hne hk ?_
        simp [sayE,beginM,pieceM,setSt,mayM,hq,hq0,he0]
     ·have hq0':¬q > 0:=hq0
      cases ans
      ·simp -implicitDefEqProofs (maxSteps:=1000000) (disch:=omega) only [push_cast,simprocAttr,h2',min3,hq,hq0',↓gd]
       repeat refine And.intro (by omega) ?_
       refine say_fin (s':=⟨sid,1,shd,ssay,true,false,ssent,sgot,stx,shrd,ssnd,srm⟩) hb hc hne hk ?_
       simp [sayE,beginM,pieceM,setSt,mayM,hq,hq0]
      ·simp -implicitDefEqProofs (maxSteps:=1000000) (disch:=omega) only [push_cast,simprocAttr,h2',min3,hq,hq0',↓gd]
       repeat refine And.intro (by omega) ?_
       refine say_fin (s':=⟨sid,1,shd,ssay,true,false,ssent,sgot,stx,shrd,ssnd,srm⟩) hb hc hne hk ?_
       simp [sayE,beginM,pieceM,setSt,mayM,hq,hq0]
   ·rw [if_pos (by simp)]
    simp -implicitDefEqProofs (maxSteps:=1000000) (disch:=omega) only [push_cast,simprocAttr,h1,h2',↓gd]
    exact ⟨_,_,Wk.refl _ _ _,_,rfl,.stay h⟩
 ·rw [if_pos (by simp [h1])]
  simp -implicitDefEqProofs (maxSteps:=1000000) (disch:=omega) only [push_cast,simprocAttr,h1,↓gd]
  exact ⟨_,_,Wk.refl _ _ _,_,rfl,.stay h⟩
end
section
open Go
theorem sayM_len {N:Nat} {e:En} (h:EnW N e) {k:Nat} (hk:k < e.strs.length):(sayM e k).2.length≤2000:=by
 have hs:stOk (stAt e k)=true:=stsOk_at h.sts hk
 rw [sayM_E]
 generalize stAt e k=s at hs
 obtain ⟨a1,a2,a3,a4,a5,a6,a7,a8⟩:=stOk_iff.1 hs
 have hw5:=(wordOk_iff.1 a5).2
 split
 ·simp
 ·show ((beginM e s).2.2++(pieceM (beginM e s).1 (beginM e s).2.1).2.2).length≤2000
  have hb:(beginM e s).2.2.length≤1000:=by
   unfold beginM
   split
   ·simp
   ·have:=headW_len s.head e.out e.outM (headOk_parts a3).1 (by have:=(headOk_parts a3).2; have:=(tableOk_parts h.out).1; omega)
    have:=(headOk_parts a3).2
    rw [frW_len]
    simp only
    omega
  have hsy:(beginM e s).2.1.say=s.say∧(beginM e s).2.1.sent=s.sent:=by unfold beginM; split <;> exact ⟨rfl,rfl⟩
  have hp:(pieceM (beginM e s).1 (beginM e s).2.1).2.2.length≤1000:=by
   have hmay:=(mayM_le (beginM e s).1 (beginM e s).2.1).1
   unfold pieceM
   split
   ·rw [frW_len]
    simp only [List.length_take,List.length_drop]
    rw [hsy.1,hsy.2] at *
    omega
   ·simp
  rw [List.length_append]
  omega
theorem saysM_succ (n k:Nat) (e:En):saysM (n+1) k e=((saysM n (k+1) (sayM e k).1).1,(sayM e k).2++(saysM n (k+1) (sayM e k).1).2):=rfl
theorem waitM_cons (e:En) (f:Fr) (l:List Fr):waitM e (f :: l)=((waitM (roomM e f) l).1,frW f++(waitM (roomM e f) l).2):=rfl
theorem writeM_eq (e:En):writeM e=((saysM e.strs.length 0 { (waitM e e.wait).1 with wait:=[] }).1,(waitM e e.wait).2++(saysM e.strs.length 0 { (waitM e e.wait).1 with wait:=[] }).2):=rfl
theorem cells_ne {S:List Blk} {i j m n:Nat} {cs ds:List V} (h:S[i]?=some (.cells m cs)) (k:S[j]?=some (.cells n ds)) (hs:m≠n):i≠j:=by
 rintro rfl
 rw [h] at k
 cases k
 exact hs rfl
theorem EnTo.set {S:List Blk} {b c:Nat} {e:En} {b' c':Nat} {S':List Blk} (h:EnTo S b c e b' c' S') {j:Nat} (B:Blk) (hj:S.length≤j) (h1:b'≠j) (h2:c'≠j):EnTo S b c e b' c' (S'.set j B) :=
 ⟨⟨by rw [get_set_ne (Ne.symm h1)]; exact h.at_.1,by rw [get_set_ne (Ne.symm h2)]; exact h.at_.2⟩,h.hb,h.hc,h.upd.set B (.inl hj)⟩
theorem EnTo.appR {S:List Blk} {b c:Nat} {e:En} {b' c':Nat} {S':List Blk} (h:EnTo S b c e b' c' S') (X:List Blk):EnTo S b c e b' c' (S'++X):=⟨h.at_.app X,h.hb,h.hc,h.upd.app X⟩
theorem EnTo.stay {S X:List Blk} {b c:Nat} {e:En} (h:EnAt S b c e):EnTo S b c e b c (S++X):=⟨h.app _,.inl rfl,.inl rfl,(Upd.refl _ _).app _⟩
theorem saysM_len {N:Nat}:∀(n k:Nat) (e:En),EnW N e→k+n≤e.strs.length→(saysM n k e).2.length≤n * 2000
 | 0,k,e,_,_=>by simp [saysM]
 | n+1,k,e,h,hk=>by
  have h1:=sayM_w h (k:=k) (by omega)
  have ih:=saysM_len n (k+1) (sayM e k).1 h1.1 (by rw [h1.2]; omega)
  have hsl:(sayM e k).2.length≤2000:=sayM_len h (by omega)
  rw [saysM_succ]
  simp only [List.length_append]
  have:(n+1) * 2000=n * 2000+2000:=by omega
  omega
theorem waitM_len {N:Nat}:∀(l:List Fr) (e:En),(∀f ∈ l,frameOk f=true)→(waitM e l).2.length≤l.length * 300
 | [],e,_=>by simp [waitM]
 | f :: l,e,h=>by
  have ih:=waitM_len (N:=N) l (roomM e f) (fun g hg=>h g (by simp [hg]))
  have:=(frameOk_nat (h f (by simp))).2.2
  rw [waitM_cons]
  simp only [List.length_append,List.length_cons,frW_len]
  omega
theorem waitM_snoc (l:List Fr) (f:Fr):∀e,waitM e (l++[f])=(roomM (waitM e l).1 f,(waitM e l).2++frW f):=by
 induction l with
 | nil=>intro e; simp [waitM]
 | cons g l ih =>
  intro e
  simp only [List.cons_append,waitM_cons,ih,List.append_assoc]
theorem saysM_snoc:∀(n k:Nat) (e:En),saysM (n+1) k e=((sayM (saysM n k e).1 (k+n)).1,(saysM n k e).2++(sayM (saysM n k e).1 (k+n)).2)
 | 0,k,e=>by simp [saysM]
 | n+1,k,e=>by
  rw [saysM_succ (n+1),saysM_snoc n (k+1) (sayM e k).1,saysM_succ n]
  simp only [List.append_assoc,show k+1+n=k+(n+1) by omega]
theorem frW_pos {f:Fr} (h:frameOk f=true):0≤f.kind∧0≤f.stream∧f.body.length≤1100000:=by
 have:=frameOk_nat h
 omega
theorem l21Write_ok {N:Nat} {e:En} (hW:EnW N e) (hN:N≤1100000) {S:List Blk} {b c:Nat} (h:EnAt S b c e):VCall Tryz.prog 16 [eV b c e] S fun r S' =>
  ∃v,r=.tup [v,.str (writeM e).2]∧RTo S b c (writeM e).1 v S':=by
 have hwl:=hW.len
 have hst:∀i,EnW N (waitM e (e.wait.take i)).1∧(waitM e (e.wait.take i)).1.strs.length=e.strs.length∧(waitM e (e.wait.take i)).1.wait=e.wait:=fun i=>waitM_w _ _ hW
 have hol:∀i,(waitM e (e.wait.take i)).2.length≤(e.wait.take i).length * 300:=fun i=>waitM_len (N:=N) _ _ (fun f hf=>hW.wait f (List.mem_of_mem_take hf))
 refine VCall.ex hDe (fun _=>false) (fun id=>if id=5 then [6,6,6,6,6,6,7,8] else []) Tryz.func16 Tryz.ntmps16 Tryz.results16 ?_
 simp -implicitDefEqProofs (disch:=omega) only [push_cast,simprocAttr,↓gd]
 refine wpV_loop (fun m t S1=>∃(i:Nat) (b1 c1:Nat),m=e.wait.length - i∧i≤e.wait.length∧t 1=.ptr S.length 0∧t 2=.ptr (S.length+1) 0∧t 4=.str (waitM e (e.wait.take i)).2∧t 5=.int .i64 i ∧
  S1[S.length]?=some (.cells 0 (enC (.heap b1 e.strs.length) (.heap c1 e.wait.length) (waitM e (e.wait.take i)).1))∧S1[S.length+1]?=some (.cells 0 zE) ∧
  EnTo S b c (waitM e (e.wait.take i)).1 b1 c1 S1) e.wait.length
  ⟨0,b,c,by omega,by omega,rfl,rfl,rfl,rfl,by simp [waitM,enC],by simp [zE],by simpa [waitM] using EnTo.stay h⟩ ?_
 rintro m t S1 ⟨i,b1,c1,rfl,hi,h1,h2,h4,h5,k0,k1,hto⟩
 have l0:=lt_of_some k0
 have l1:=lt_of_some k1
 obtain ⟨hEw,hEs,hEl⟩:=hst i
 have hoi:=hol i
 have hti:(e.wait.take i).length=i:=by simp; omega
 generalize hE:waitM e (e.wait.take i)=E at *
 obtain ⟨E,o⟩:=E
 simp only at *
 have kc:S1[c1]?=some (.cells 4 (frmsC E.wait)):=hto.at_.2
 rw [hEl] at kc
 have lc:=lt_of_some kc
 refine wpV_of hDe (fun _=>false) (fun id=>if id=5 then [6,6,6,6,6,6,7,8] else []) (by kernel_rfl) ?_
 simp -implicitDefEqProofs (disch:=omega) only [push_cast,simprocAttr,h1,h5,k0,↓gd]
 refine ⟨fun h=>?_,fun h=>?_⟩
 ·have hil:i < e.wait.length:=by omega
  have hat:=frmsC_at hil
  have hlw:=frmsC_len e.wait
  have hfk:=hW.wait _ (getD_memF hil)
  simp -implicitDefEqProofs (disch:=omega) only [push_cast,simprocAttr,h1,h4,h5,k0,kc,hat,↓gd]
  repeat refine And.intro (by omega) ?_
  refine ((l21Room_ok hEw hN hfk hto.at_).as (by simp only [eV_eq,frV_eq,hEs,hEl])).mono ?_
  rintro r S2 ⟨b2,c2,rfl,hto2⟩
  have hEw2:=roomM_w hEw (e.wait.getD i fr0)
  have hb1:=cells_ne hto.at_.1 k0 (by decide)
  have hc1:=cells_ne hto.at_.2 k0 (by decide)
  have hb1':=cells_ne hto.at_.1 k1 (by decide)
  have hc1':=cells_ne hto.at_.2 k1 (by decide)
  have k0:=hto2.upd.get k0 (by simp; omega)
  have k1:=hto2.upd.get k1 (by simp; omega)
  have l0:=lt_of_some k0
  have l1:=lt_of_some k1
  have hstep:=waitM_snoc (e.wait.take i) (e.wait.getD i fr0) e
  rw [hE,←take_fr hil] at hstep
  simp only at hstep
  generalize roomM E (e.wait.getD i fr0)=E2 at hto2 hEw2 hstep
  obtain ⟨hEw2,hEs2,hEl2⟩:=hEw2
  rw [hEs] at hEs2
  rw [hEl] at hEl2
  have kc2:S2[c2]?=some (.cells 4 (frmsC E2.wait)):=hto2.at_.2
  rw [hEl2] at kc2
  have lc2:=lt_of_some kc2
  have hc2:c2≠S.length:=cells_ne kc2 k0 (by decide)
  simp -implicitDefEqProofs (disch:=omega) only [push_cast,simprocAttr,h1,h4,h5,k0,kc2,hEs2,hEl2,hat,↓gd]
  repeat refine And.intro (by omega) ?_
  have hfp:=frW_pos hfk
  refine ((l12Write_ok (e.wait.getD i fr0) hfp.1 hfp.2.1 hfp.2.2 _).as rfl).to ?_
  have hwN:=hW.len
  simp -implicitDefEqProofs (disch:=omega) only [push_cast,simprocAttr,h1,h4,h5,k0,k1,kc2,hEs2,hEl2,hat,frW_len,↓gd]
  repeat refine And.intro (by omega) ?_
  have hns:c2≠S.length:=hc2
  have hnb:b2≠S.length:=cells_ne hto2.at_.1 k0 (by decide)
  exact ⟨e.wait.length - (i+1),by omega,i+1,b2,c2,rfl,by omega,h2,by rw [hstep],rfl,by rw [hstep],by rw [hstep]; exact (hto.trans hto2).set _ (Nat.le_refl _) hnb hns⟩
 ·have:i=e.wait.length:=by omega
  subst this
  rw [List.take_length] at hE
  have hw0:=hEw.noWait
  have hwe:writeM e=((saysM e.strs.length 0 { E with wait:=[] }).1,o++(saysM e.strs.length 0 { E with wait:=[] }).2):=by rw [writeM_eq,hE]
  have hns:c1≠S.length:=cells_ne hto.at_.2 k0 (by decide)
  have hnb:b1≠S.length:=cells_ne hto.at_.1 k0 (by decide)
  have hlb:=lt_of_some hto.at_.1
  have hto0:EnTo S b c { E with wait:=[] } b1 S1.length (S1.set S.length (.cells 0 (enC (.heap b1 e.strs.length) (.heap S1.length 0) { E with wait:=[] }))++[.cells 4 []]):=by
   refine ⟨⟨?_,?_⟩,hto.hb,.inr hto.upd.1,(hto.upd.set _ (.inl (Nat.le_refl _))).app _⟩
   ·have:=hto.at_.1
    simp -implicitDefEqProofs (disch:=omega) only [push_cast,simprocAttr,this,↓gd]
   ·rw [List.getElem?_append_right (by simp)]; simp [frmsC]
  rw [hwe]
  have hns0:({ E with wait:=[] }:En).strs.length=e.strs.length:=hEs
  have hen0:enC (.heap b1 e.strs.length) (.heap S1.length 0) { E with wait:=[] }=[.bool E.ans,.rows none (E.out.map fV),.int .i64 E.outM,.rows none (E.inn.map fV),.int .i64 E.innM,.str E.came,.heap b1 e.strs.length,.int .i64 E.send,.int .i64 E.room,.heap S1.length 0,.bool E.bad]:=rfl
  rw [hen0] at hto0
  generalize hF:({ E with wait:=[] }:En)=F at hto0 hw0 hns0
  have hk1:∀n,n≤e.strs.length→EnW 0 (saysM n 0 F).1∧(saysM n 0 F).1.strs.length=e.strs.length∧(saysM n 0 F).2.length≤n * 2000:=fun n hn=>⟨(saysM_w n 0 F hw0 (by omega)).1,by rw [(saysM_w n 0 F hw0 (by omega)).2,hns0],saysM_len n 0 F hw0 (by omega)⟩
  simp -implicitDefEqProofs (disch:=omega) only [push_cast,simprocAttr,h1,h2,h4,k0,k1,↓gd]
  refine wpV_loop (fun m t S2=>∃(n b2 c2:Nat),m=e.strs.length - n∧n≤e.strs.length∧t 1=.ptr S.length 0∧t 2=.ptr (S.length+1) 0∧t 4=.str (o++(saysM n 0 F).2)∧t 6=.int .i64 n ∧
   S2[S.length]?=some (.cells 0 (enC (.heap b2 e.strs.length) (.heap c2 (saysM n 0 F).1.wait.length) (saysM n 0 F).1))∧S2[S.length+1]?=some (.cells 0 zE) ∧
   EnTo S b c (saysM n 0 F).1 b2 c2 S2) e.strs.length
   ⟨0,b1,S1.length,by omega,by omega,h1,h2,by have:(saysM 0 0 F).2=[]:=rfl; rw [this,List.append_nil]; exact h4,rfl,by subst hF; simp -implicitDefEqProofs (disch:=omega) only [push_cast,simprocAttr,↓gd]; simp [saysM,enC],by simp -implicitDefEqProofs (disch:=omega) only [push_cast,simprocAttr,k1,↓gd],by simpa [saysM] using hto0⟩ ?_
  rintro m t S2 ⟨n,b2,c2,rfl,hn,h1,h2,h4,h6,k0,k1,hto2⟩
  have l0:=lt_of_some k0
  have l1:=lt_of_some k1
  obtain ⟨hXw,hXs,hXl⟩:=hk1 n hn
  have hsn:=saysM_snoc n 0 F
  rw [Nat.zero_add] at hsn
  generalize hX:saysM n 0 F=X at *
  obtain ⟨X,p⟩:=X
  simp only at *
  refine wpV_of0 hDe ?_
  simp -implicitDefEqProofs (disch:=omega) only [push_cast,simprocAttr,h1,h2,h4,h6,k0,↓gd]
  refine ⟨fun h=>?_,fun h=>?_⟩
  ·have hil:n < X.strs.length:=by omega
   refine ((l21Say_ok hXw (by omega) hil hto2.at_).as (by simp only [eV_eq,hXs])).mono ?_
   rintro r S3 ⟨v,rfl,b3,c3,rfl,hto3⟩
   have hb1:=cells_ne hto2.at_.1 k0 (by decide)
   have hc1:=cells_ne hto2.at_.2 k0 (by decide)
   have hb1':=cells_ne hto2.at_.1 k1 (by decide)
   have hc1':=cells_ne hto2.at_.2 k1 (by decide)
   have k0:=hto3.upd.get k0 (by simp; omega)
   have k1:=hto3.upd.get k1 (by simp; omega)
   have l0:=lt_of_some k0
   have l1:=lt_of_some k1
   have hnb:=cells_ne hto3.at_.1 k0 (by decide)
   have hnc:=cells_ne hto3.at_.2 k0 (by decide)
   have hYs:(sayM X n).1.strs.length=e.strs.length:=by rw [(sayM_w hXw hil).2]; exact hXs
   have hYl:=sayM_len hXw hil
   generalize hY:sayM X n=Y at *
   obtain ⟨Y,q⟩:=Y
   simp only at *
   have hwN:=hW.len
   have hsl:=hW.b hN
   have hsl:=hsl.len
   simp -implicitDefEqProofs (disch:=omega) only [push_cast,simprocAttr,h1,h2,h4,h6,k0,k1,↓gd]
   repeat refine And.intro (by omega) ?_
   exact ⟨e.strs.length - (n+1),by omega,n+1,b3,c3,rfl,by omega,by rw [hsn],rfl,by rw [hsn,hYs],by rw [hsn]; exact ((hto2.trans hto3).set _ (Nat.le_refl _) hnb hnc).appR _⟩
  ·have:n=e.strs.length:=by omega
   subst this
   rw [hX]
   simp -implicitDefEqProofs (disch:=omega) only [push_cast,simprocAttr,h1,h2,h4,h6,k0,k1,↓gd]
   have hnb:=cells_ne hto2.at_.1 k1 (by decide)
   have hnc:=cells_ne hto2.at_.2 k1 (by decide)
   refine ⟨_,_,Wk.refl _ _ _,_,rfl,b2,c2,by simp only [eV_eq,hXs],hto2.set _ (by omega) hnb hnc⟩
end
section
open Go
def endWriteM (e:En):En × List UInt8:=if endOk e=false then (en0,[]) else if e.bad then (e,[]) else writeM e
def wo0:Wo:=⟨en0,en0,[],[]⟩
end
section
open Go
def Plain:V→Prop
 | .int _ _ | .bool _ | .str _=>True
 | _=>False
theorem Plain.vr {x:V} (h:Plain x) {G G':Gh} {w w':World} {c:Value} (hv:VR G w x c):VR G' w' x c:=by
 cases hv <;> first | exact .int _ _ | exact .bool _ | exact .str _ | exact h.elim
theorem Wk.fst {S0 S S':List Blk} {r r':V} {xs:List V} (hx:∀x ∈ xs,Plain x) (h:Wk S0 r S r' S'):Wk S0 (.tup (r :: xs)) S (.tup (r' :: xs)) S':=by
 intro G0 w0 G w c h0 hE hv hR
 cases hv with
 | @tup _ c hl hr =>
  have hsz:0 < c.size:=by rw [←hl]; simp
  obtain ⟨G',h1,h2,h3⟩:=h G0 w0 G w c[0] h0 hE (hr 0 r c[0] rfl (Array.getElem?_eq_getElem hsz)) hR
  refine ⟨G',.tup hl (fun i v u hv hu=>?_),h2,h3⟩
  cases i with
  | zero =>
   cases hv
   rw [Array.getElem?_eq_getElem hsz] at hu
   cases hu
   exact h1
  | succ i=>exact (hx v (List.mem_of_getElem? hv)).vr (hr (i+1) v u hv hu)
theorem RNew.zero {S X:List Blk}:∃r S2,Wk S (.agg zE) (S++X) r S2∧RNew S en0 r S2:=by
 obtain ⟨r,S2,h1,b',c',rfl,h2⟩:=fin_new (S:=S) (S1:=S++X) (r:=enV .nils .nils en0) (e:=en0) rfl rfl ((Upd.refl _ _).app _) rfl rfl
 have hz:Wk S (.agg zE) (S++X) (.agg [.bool false,.nils,.int .i64 0,.nils,.int .i64 0,.str [],.nils,.int .i64 0,.int .i64 0,.nils,.bool false]) (S++X):=Wk.refl _ _ _
 have he:Wk S (.agg zE) (S++X) (enV .nils .nils en0) (S++X):=by
  intro G0 w0 G w c hR0 hE hv hR
  refine ⟨G,?_,hR,hE⟩
  cases hv with
  | agg hl hr ho =>
   refine .agg hl (fun i v u hv hu=>?_) ho
   have hi:i < 11:=by
    have:=List.getElem?_eq_some_iff.1 hv
    simpa [enC,enV] using this.1
   have hz:zE[i]?=some (zE[i]'(by simpa [zE] using hi)):=List.getElem?_eq_getElem _
   have hr':=hr i _ u hz hu
   have:i=0∨i=1∨i=2∨i=3∨i=4∨i=5∨i=6∨i=7∨i=8∨i=9∨i=10:=by omega
   rcases this with rfl | rfl | rfl | rfl | rfl | rfl | rfl | rfl | rfl | rfl | rfl <;> simp only [enC,en0,List.map_nil,List.getElem?_cons_zero,List.getElem?_cons_succ,Option.some.injEq] at hv <;> subst hv <;> first | exact hr' | exact eraseC_ok hr'
 exact ⟨_,_,he.trans h1,b',c',rfl,h2⟩
theorem EnNew.set {S:List Blk} {e:En} {b c:Nat} {S':List Blk} (h:EnNew S e b c S') {j:Nat} (B:Blk) (hj:S.length≤j) (h1:b≠j) (h2:c≠j):EnNew S e b c (S'.set j B) :=
 ⟨⟨by rw [get_set_ne (Ne.symm h1)]; exact h.at_.1,by rw [get_set_ne (Ne.symm h2)]; exact h.at_.2⟩,h.hb,h.hc,h.upd.set B (.inl hj)⟩
theorem EnNew.appR {S:List Blk} {e:En} {b c:Nat} {S':List Blk} (h:EnNew S e b c S') (X:List Blk):EnNew S e b c (S'++X):=⟨h.at_.app X,h.hb,h.hc,h.upd.app X⟩
theorem endOk_w {e:En} (h:endOk e=true):EnW 60 e:=endOk_iff.1 h
end
section
open Go
def wC (b c d f:Nat) (w:Wo):List V:=enC (.heap b w.caller.strs.length) (.heap c w.caller.wait.length) w.caller++enC (.heap d w.answerer.strs.length) (.heap f w.answerer.wait.length) w.answerer++[.str w.up,.str w.down]
def wV (b c d f:Nat) (w:Wo):V:=.agg (wC b c d f w)
@[push_cast] theorem wC_eq (b c d f:Nat) (w:Wo):wC b c d f w=enC (.heap b w.caller.strs.length) (.heap c w.caller.wait.length) w.caller++enC (.heap d w.answerer.strs.length) (.heap f w.answerer.wait.length) w.answerer++[.str w.up,.str w.down]:=rfl
@[push_cast] theorem wV_eq (b c d f:Nat) (w:Wo):wV b c d f w=.agg (enC (.heap b w.caller.strs.length) (.heap c w.caller.wait.length) w.caller++enC (.heap d w.answerer.strs.length) (.heap f w.answerer.wait.length) w.answerer++[.str w.up,.str w.down]):=rfl
def zW:List V:=zE++zE++[.str [],.str []]
@[push_cast] theorem zW_eq:zW=zE++zE++[.str [],.str []]:=rfl
structure WoAt (S:List Blk) (b c d f:Nat) (w:Wo):Prop where
 caller:EnAt S b c w.caller
 answerer:EnAt S d f w.answerer
 ne1:b≠d
 ne2:c≠f
theorem WoAt.app {S:List Blk} {b c d f:Nat} {w:Wo} (h:WoAt S b c d f w) (X:List Blk):WoAt (S++X) b c d f w:=⟨h.caller.app X,h.answerer.app X,h.ne1,h.ne2⟩
theorem WoAt.nes {S:List Blk} {b c d f:Nat} {w:Wo} (h:WoAt S b c d f w):b≠c∧d≠f∧b≠f∧c≠d∧b < S.length∧c < S.length∧d < S.length∧f < S.length :=
 ⟨h.caller.ne,h.answerer.ne,cells_ne h.caller.1 h.answerer.2 (by decide),cells_ne h.caller.2 h.answerer.1 (by decide),lt_of_some h.caller.1,lt_of_some h.caller.2,lt_of_some h.answerer.1,lt_of_some h.answerer.2⟩
structure WoNew (S:List Blk) (w:Wo) (b c d f:Nat) (S':List Blk):Prop where
 at_:WoAt S' b c d f w
 hb:S.length≤b
 hc:S.length≤c
 hd:S.length≤d
 hf:S.length≤f
 upd:Upd [] S S'
structure WoTo (S:List Blk) (b c d f:Nat) (w:Wo) (b' c' d' f':Nat) (S':List Blk):Prop where
 at_:WoAt S' b' c' d' f' w
 hb:b'=b∨S.length≤b'
 hc:c'=c∨S.length≤c'
 hd:d'=d∨S.length≤d'
 hf:f'=f∨S.length≤f'
 upd:Upd [b,c,d,f] S S'
def RWNew (S:List Blk) (w:Wo) (v:V) (S':List Blk):Prop:=∃b c d f,v=wV b c d f w∧WoNew S w b c d f S'
theorem WoTo.refl {S:List Blk} {b c d f:Nat} {w:Wo} (h:WoAt S b c d f w):WoTo S b c d f w b c d f S:=⟨h,.inl rfl,.inl rfl,.inl rfl,.inl rfl,Upd.refl _ _⟩
theorem WoTo.stay {S X:List Blk} {b c d f:Nat} {w:Wo} (h:WoAt S b c d f w):WoTo S b c d f w b c d f (S++X):=⟨h.app _,.inl rfl,.inl rfl,.inl rfl,.inl rfl,(Upd.refl _ _).app _⟩
theorem WoTo.trans {S S1 S2:List Blk} {b c d f b1 c1 d1 f1 b2 c2 d2 f2:Nat} {w1 w2:Wo} (h:WoTo S b c d f w1 b1 c1 d1 f1 S1) (k:WoTo S1 b1 c1 d1 f1 w2 b2 c2 d2 f2 S2):WoTo S b c d f w2 b2 c2 d2 f2 S2:=by
 have hl:=h.upd.1
 have h1:=h.hb; have h2:=h.hc; have h3:=h.hd; have h4:=h.hf
 refine ⟨k.at_,?_,?_,?_,?_,h.upd.then_ k.upd fun j hj hm=>?_⟩
 ·rcases k.hb with e | e <;> omega
 ·rcases k.hc with e | e <;> omega
 ·rcases k.hd with e | e <;> omega
 ·rcases k.hf with e | e <;> omega
 ·simp only [List.mem_cons,List.not_mem_nil,or_false] at hm ⊢
  omega
theorem WoNew.to {S S1 S2:List Blk} {b1 c1 d1 f1 b2 c2 d2 f2:Nat} {w1 w2:Wo} (h:WoNew S w1 b1 c1 d1 f1 S1) (k:WoTo S1 b1 c1 d1 f1 w2 b2 c2 d2 f2 S2):WoNew S w2 b2 c2 d2 f2 S2:=by
 have hl:=h.upd.1
 have h1:=h.hb; have h2:=h.hc; have h3:=h.hd; have h4:=h.hf
 refine ⟨k.at_,?_,?_,?_,?_,h.upd.then_ k.upd fun j hj hm=>?_⟩
 ·rcases k.hb with e | e <;> omega
 ·rcases k.hc with e | e <;> omega
 ·rcases k.hd with e | e <;> omega
 ·rcases k.hf with e | e <;> omega
 ·simp only [List.mem_cons,List.not_mem_nil,or_false] at hm
  omega
theorem WoNew.app {S X:List Blk} {w:Wo} {b c d f:Nat} {S':List Blk} (h:WoNew (S++X) w b c d f S'):WoNew S w b c d f S':=by
 have h1:=h.hb; have h2:=h.hc; have h3:=h.hd; have h4:=h.hf
 rw [List.length_append] at h1 h2 h3 h4
 exact ⟨h.at_,by omega,by omega,by omega,by omega,((Upd.refl [] S).app X).then_ h.upd (fun j hj hm=>hm)⟩
theorem WoTo.app {S X:List Blk} {b c d f:Nat} {w:Wo} {b' c' d' f':Nat} {S':List Blk} (h:WoTo (S++X) b c d f w b' c' d' f' S'):WoTo S b c d f w b' c' d' f' S':=by
 have h1:=h.hb; have h2:=h.hc; have h3:=h.hd; have h4:=h.hf
 rw [List.length_append] at h1 h2 h3 h4
 exact ⟨h.at_,by omega,by omega,by omega,by omega,((Upd.refl [b,c,d,f] S).app X).then_ h.upd (fun j hj hm=>hm)⟩
theorem EnAt.set {S:List Blk} {b c:Nat} {e:En} (h:EnAt S b c e) {j:Nat} (B:Blk) (h1:b≠j) (h2:c≠j):EnAt (S.set j B) b c e:=⟨by rw [get_set_ne (Ne.symm h1)]; exact h.1,by rw [get_set_ne (Ne.symm h2)]; exact h.2⟩
theorem WoAt.var {S:List Blk} {b c d f:Nat} {w:Wo} (h:WoAt S b c d f w) {j:Nat} {cs:List V} (hj:S[j]?=some (.cells 0 cs)):b≠j∧c≠j∧d≠j∧f≠j :=
 ⟨cells_ne h.caller.1 hj (by decide),cells_ne h.caller.2 hj (by decide),cells_ne h.answerer.1 hj (by decide),cells_ne h.answerer.2 hj (by decide)⟩
theorem WoAt.set {S:List Blk} {b c d f:Nat} {w:Wo} (h:WoAt S b c d f w) {j:Nat} (B:Blk) (hj:b≠j∧c≠j∧d≠j∧f≠j):WoAt (S.set j B) b c d f w:=⟨h.caller.set B hj.1 hj.2.1,h.answerer.set B hj.2.2.1 hj.2.2.2,h.ne1,h.ne2⟩
theorem WoTo.set {S:List Blk} {b c d f:Nat} {w:Wo} {b' c' d' f':Nat} {S':List Blk} (h:WoTo S b c d f w b' c' d' f' S') {j:Nat} (B:Blk) (hj:S.length≤j) (hn:b'≠j∧c'≠j∧d'≠j∧f'≠j):WoTo S b c d f w b' c' d' f' (S'.set j B) :=
 ⟨h.at_.set B hn,h.hb,h.hc,h.hd,h.hf,h.upd.set B (.inl hj)⟩
theorem WoTo.appR {S:List Blk} {b c d f:Nat} {w:Wo} {b' c' d' f':Nat} {S':List Blk} (h:WoTo S b c d f w b' c' d' f' S') (X:List Blk):WoTo S b c d f w b' c' d' f' (S'++X):=⟨h.at_.app X,h.hb,h.hc,h.hd,h.hf,h.upd.app X⟩
theorem WoNew.set {S:List Blk} {w:Wo} {b' c' d' f':Nat} {S':List Blk} (h:WoNew S w b' c' d' f' S') {j:Nat} (B:Blk) (hj:S.length≤j) (hn:b'≠j∧c'≠j∧d'≠j∧f'≠j):WoNew S w b' c' d' f' (S'.set j B) :=
 ⟨h.at_.set B hn,h.hb,h.hc,h.hd,h.hf,h.upd.set B (.inl hj)⟩
theorem WoNew.appR {S:List Blk} {w:Wo} {b' c' d' f':Nat} {S':List Blk} (h:WoNew S w b' c' d' f' S') (X:List Blk):WoNew S w b' c' d' f' (S'++X):=⟨h.at_.app X,h.hb,h.hc,h.hd,h.hf,h.upd.app X⟩
end
section
open Go
structure WoB (w:Wo):Prop where
 caller:EnB w.caller
 answerer:EnB w.answerer
 up:w.up.length≤1100000
 down:w.down.length≤1100000
theorem WoW.b {N:Nat} {w:Wo} (h:WoW N w) (hN:N≤1100000):WoB w:=⟨h.caller.b hN,h.answerer.b hN,by have:=h.up; omega,by have:=h.down; omega⟩
end
section
open Go
theorem WoTo.still {S S':List Blk} {b c d f:Nat} {w:Wo} (h:WoAt S b c d f w) (hu:Upd [] S S'):WoTo S b c d f w b c d f S' :=
 ⟨⟨h.caller.upd hu (by simp) (by simp),h.answerer.upd hu (by simp) (by simp),h.ne1,h.ne2⟩,.inl rfl,.inl rfl,.inl rfl,.inl rfl,hu.mono (fun _ _ hm=>by cases hm)⟩
end
section
open Go
theorem EnAt.zero (S:List Blk):EnAt (S++[.cells 12 [],.cells 4 []]) S.length (S.length+1) en0:=⟨by simp -implicitDefEqProofs (disch:=omega) only [push_cast,simprocAttr,↓gd]; rfl,by simp -implicitDefEqProofs (disch:=omega) only [push_cast,simprocAttr,↓gd]; rfl⟩
theorem RWNew.zero {S X:List Blk}:∃r S2,Wk S (.agg zW) (S++X) r S2∧RWNew S wo0 r S2:=by
 let L:=(S++X).length
 have er:Wk S (.agg zW) (S++X) (.agg (enC .nils .nils en0++enC .nils .nils en0++[.str [],.str []])) (S++X):=by
  intro G0 w0 G w c hR0 hE hv hR
  refine ⟨G,?_,hR,hE⟩
  cases hv with
  | agg hl hr ho =>
   refine .agg hl (fun i v u hv hu=>?_) ho
   have hi:i < 24:=by
    have:=List.getElem?_eq_some_iff.1 hv
    simpa [enC] using this.1
   have hz:zW[i]?=some (zW[i]'(by simpa [zW,zE] using hi)):=List.getElem?_eq_getElem _
   have hr':=hr i _ u hz hu
   have:i=0∨i=1∨i=2∨i=3∨i=4∨i=5∨i=6∨i=7∨i=8∨i=9∨i=10∨i=11∨i=12∨i=13∨i=14∨i=15∨i=16∨i=17∨i=18∨i=19∨i=20∨i=21∨i=22∨i=23:=by omega
   rcases this with rfl | rfl | rfl | rfl | rfl | rfl | rfl | rfl | rfl | rfl | rfl | rfl | rfl | rfl | rfl | rfl | rfl | rfl | rfl | rfl | rfl | rfl | rfl | rfl <;>
    simp only [enC,en0,List.map_nil,List.cons_append,List.nil_append,List.getElem?_cons_zero,List.getElem?_cons_succ,Option.some.injEq] at hv <;> subst hv <;> first | exact hr' | exact eraseC_ok hr'
 have s1:=Wk.nh (S0:=S) (S:=S++X) 12 (NH.aggAt (n:=(S++X).length) (cs:=enC .nils .nils en0++enC .nils .nils en0++[V.str [],V.str []]) (i:=6) rfl)
 have s2:=Wk.nh (S0:=S) (S:=(S++X)++[Blk.cells 12 []]) 4 (NH.aggAt (n:=((S++X)++[Blk.cells 12 []]).length) (cs:=(enC .nils .nils en0++enC .nils .nils en0++[V.str [],V.str []]).set 6 (V.heap (S++X).length 0)) (i:=9) rfl)
 have s3:=Wk.nh (S0:=S) (S:=((S++X)++[Blk.cells 12 []])++[Blk.cells 4 []]) 12 (NH.aggAt (n:=(((S++X)++[Blk.cells 12 []])++[Blk.cells 4 []]).length) (cs:=((enC .nils .nils en0++enC .nils .nils en0++[V.str [],V.str []]).set 6 (V.heap (S++X).length 0)).set 9 (V.heap ((S++X)++[Blk.cells 12 []]).length 0)) (i:=17) rfl)
 have s4:=Wk.nh (S0:=S) (S:=(((S++X)++[Blk.cells 12 []])++[Blk.cells 4 []])++[Blk.cells 12 []]) 4 (NH.aggAt (n:=((((S++X)++[Blk.cells 12 []])++[Blk.cells 4 []])++[Blk.cells 12 []]).length)
  (cs:=(((enC .nils .nils en0++enC .nils .nils en0++[V.str [],V.str []]).set 6 (V.heap (S++X).length 0)).set 9 (V.heap ((S++X)++[Blk.cells 12 []]).length 0)).set 17 (V.heap (((S++X)++[Blk.cells 12 []])++[Blk.cells 4 []]).length 0)) (i:=20) rfl)
 have hl:S.length≤(S++X).length:=by simp
 refine ⟨_,_,(((er.trans s1).trans s2).trans s3).trans s4,(S++X).length,(S++X).length+1,(S++X).length+2,(S++X).length+3,?_,⟨⟨⟨?_,?_⟩,⟨?_,?_⟩,by omega,by omega⟩,hl,by omega,by omega,by omega,?_⟩⟩
 ·simp [wV,wC,enC,en0,wo0]
  omega
 ·generalize S++X=T; simp only [List.append_assoc,List.cons_append,List.nil_append]; rw [app_get0]; rfl
 ·generalize S++X=T; simp only [List.append_assoc,List.cons_append,List.nil_append]; rw [app_get]; rfl
 ·generalize S++X=T; simp only [List.append_assoc,List.cons_append,List.nil_append]; rw [app_get]; rfl
 ·generalize S++X=T; simp only [List.append_assoc,List.cons_append,List.nil_append]; rw [app_get]; rfl
 ·simp only [List.append_assoc]
  exact (Upd.refl _ _).app _
end
end Go.Proofs.YtldogccmhncnoaaGreat
