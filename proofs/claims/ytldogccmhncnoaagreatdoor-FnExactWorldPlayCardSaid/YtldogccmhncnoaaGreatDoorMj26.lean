/- A part of the proof: contracts of functions, or plain facts on which these lean. -/
import Derived.Test.YtldogccmhncnoaaGreatDoorMj25
namespace Go.Proofs.YtldogccmhncnoaaGreatDoor
open Go
set_option linter.unusedVariables false
set_option linter.unusedSimpArgs false
set_option maxRecDepth 100000
set_option maxHeartbeats 16000000

section
open Go
def evV (v:Ev):V:=.agg [.int .i64 v.kind,.int .i64 v.a,.int .i64 v.b,.str v.path,.str v.text]
@[push_cast] theorem evV_eq (v:Ev):evV v=.agg [.int .i64 v.kind,.int .i64 v.a,.int .i64 v.b,.str v.path,.str v.text]:=rfl
def EvB (v:Ev):Prop:=v.path.length≤2000000∧v.text.length≤2000000
theorem doM_kinds (w:Wo) (v:Ev) (k:Int) (h:v.kind=k):doM w v=if k=1 then { w with caller:=(callM w.caller v.path v.text).1 }
 else if k=2 then { w with caller:=(leaveM w.caller v.a).1 } else if k=3 then sayWM w v.a else if k=4 then passM w v.a v.b else w:=by rw [←h]; rfl
theorem l22Do_ok {N:Nat} {w:Wo} (hW:WoW N w) (hN:N≤900000) (v:Ev) (hv:EvB v) {S:List Blk} {b c d f:Nat} (h:WoAt S b c d f w):VCall Tryz.prog 56 [wV b c d f w,evV v] S fun r S'=>RWTo S b c d f (doM w v) r S':=by
 have hB:=hW.b (by omega)
 obtain ⟨n1,n2,n3,n4,n5,n6,n7,n8⟩:=h.nes
 have hcon1:=fun X=>l21Call_ok hW.caller (by omega) v.path v.text hv.1 hv.2 (h.caller.app X)
 have hcon2:=fun X=>l21Leave_ok hB.caller (h.caller.app X) v.a
 have hcon3:=fun X=>l22Say_ok hW hN v.a (h.app X)
 have hcon4:=fun X=>l22Pass_ok hW hN v.a v.b (h.app X)
 refine VCall.en hDe Tryz.func56 Tryz.ntmps56 Tryz.results56 ?_
 by_cases k1:v.kind=1
 ·rw [doM_kinds w v 1 k1,if_pos rfl]
  simp -implicitDefEqProofs (disch:=omega) only [push_cast,simprocAttr,k1,↓gd]
  refine ((hcon1 _).as (by simp [eV,enV,enC])).mono ?_
  rintro r S1 ⟨u,rfl,⟨b1,c1,rfl,hto⟩,hno⟩
  have q0:S1[S.length]?=some (.cells 0 (wC b c d f w)):=hto.upd.get (by simp -implicitDefEqProofs (disch:=omega) only [push_cast,simprocAttr,↓gd]) (by simp; omega)
  have q2:S1[S.length+2]?=some (.cells 0 zW):=hto.upd.get (by simp -implicitDefEqProofs (disch:=omega) only [push_cast,simprocAttr,↓gd]) (by simp; omega)
  have l0:=lt_of_some q0
  have l2:=lt_of_some q2
  have h0:=h.caller_to hto.app
  have v0:=h0.at_.var q0
  have v2:=h0.at_.var q2
  have hfail:(callM w.caller v.path v.text).2.2=false→(callM w.caller v.path v.text).1=w.caller:=by
   unfold callM
   split
   ·exact fun _=>rfl
   ·exact fun q=>by cases q
  generalize callM w.caller v.path v.text=y at *
  obtain ⟨y,i,ok⟩:=y
  simp only at *
  cases ok
  ·have e:=hfail rfl
   subst e
   have hst:WoTo S b c d f w b c d f S1:=⟨⟨hno rfl,h0.at_.answerer,n1 |> fun _=>h.ne1,h.ne2⟩,.inl rfl,.inl rfl,.inl rfl,.inl rfl,h0.upd⟩
   have v2':=hst.at_.var q2
   simp -implicitDefEqProofs (disch:=omega) only [push_cast,simprocAttr,q0,q2,k1,↓gd]
   exact ⟨_,_,Wk.refl _ _ _,b,c,d,f,rfl,(hst.set (j:=S.length+2) _ (by omega) v2').appR _⟩
  ·simp -implicitDefEqProofs (disch:=omega) only [push_cast,simprocAttr,q0,q2,k1,↓gd]
   exact ⟨_,_,Wk.refl _ _ _,b1,c1,d,f,rfl,((h0.set (j:=S.length) _ (by omega) v0).set (j:=S.length+2) _ (by omega) v2).appR _⟩
 by_cases k2:v.kind=2
 ·rw [doM_kinds w v 2 k2,if_neg (by decide),if_pos rfl]
  simp -implicitDefEqProofs (disch:=omega) only [push_cast,simprocAttr,k1,k2,↓gd]
  refine ((hcon2 _).as (by simp [eV,enV,enC])).mono ?_
  rintro r S1 ⟨u,rfl,b1,c1,rfl,hto⟩
  have q0:S1[S.length]?=some (.cells 0 (wC b c d f w)):=hto.upd.get (by simp -implicitDefEqProofs (disch:=omega) only [push_cast,simprocAttr,↓gd]) (by simp; omega)
  have q2:S1[S.length+2]?=some (.cells 0 zW):=hto.upd.get (by simp -implicitDefEqProofs (disch:=omega) only [push_cast,simprocAttr,↓gd]) (by simp; omega)
  have l0:=lt_of_some q0
  have l2:=lt_of_some q2
  have h0:=h.caller_to hto.app
  have v0:=h0.at_.var q0
  have v2:=h0.at_.var q2
  generalize leaveM w.caller v.a=y at *
  obtain ⟨y,ok⟩:=y
  simp only at *
  simp -implicitDefEqProofs (disch:=omega) only [push_cast,simprocAttr,q0,q2,k2,↓gd]
  exact ⟨_,_,Wk.refl _ _ _,b1,c1,d,f,rfl,((h0.set (j:=S.length) _ (by omega) v0).set (j:=S.length+2) _ (by omega) v2).appR _⟩
 by_cases k3:v.kind=3
 ·rw [doM_kinds w v 3 k3,if_neg (by decide),if_neg (by decide),if_pos rfl]
  simp -implicitDefEqProofs (disch:=omega) only [push_cast,simprocAttr,k1,k2,k3,↓gd]
  refine ((hcon3 _).as (by simp [wV,wC,enC])).mono ?_
  rintro r S1 ⟨b1,c1,d1,f1,rfl,hto⟩
  have q2:S1[S.length+2]?=some (.cells 0 zW):=hto.upd.get (by simp -implicitDefEqProofs (disch:=omega) only [push_cast,simprocAttr,↓gd]) (by simp; omega)
  have l2:=lt_of_some q2
  have h0:=hto.app
  have v2:=h0.at_.var q2
  generalize sayWM w v.a=y at *
  simp -implicitDefEqProofs (disch:=omega) only [push_cast,simprocAttr,q2,↓gd]
  exact ⟨_,_,Wk.refl _ _ _,b1,c1,d1,f1,rfl,h0.set (j:=S.length+2) _ (by omega) v2⟩
 by_cases k4:v.kind=4
 ·rw [doM_kinds w v 4 k4,if_neg (by decide),if_neg (by decide),if_neg (by decide),if_pos rfl]
  simp -implicitDefEqProofs (disch:=omega) only [push_cast,simprocAttr,k1,k2,k3,k4,↓gd]
  refine ((hcon4 _).as (by simp [wV,wC,enC])).mono ?_
  rintro r S1 ⟨b1,c1,d1,f1,rfl,hto⟩
  have q2:S1[S.length+2]?=some (.cells 0 zW):=hto.upd.get (by simp -implicitDefEqProofs (disch:=omega) only [push_cast,simprocAttr,↓gd]) (by simp; omega)
  have l2:=lt_of_some q2
  have h0:=hto.app
  have v2:=h0.at_.var q2
  generalize passM w v.a v.b=y at *
  simp -implicitDefEqProofs (disch:=omega) only [push_cast,simprocAttr,q2,↓gd]
  exact ⟨_,_,Wk.refl _ _ _,b1,c1,d1,f1,rfl,h0.set (j:=S.length+2) _ (by omega) v2⟩
 rw [doM_kinds w v v.kind rfl,if_neg k1,if_neg k2,if_neg k3,if_neg k4]
 simp -implicitDefEqProofs (disch:=omega) only [push_cast,simprocAttr,k1,k2,k3,k4,↓gd]
 exact ⟨_,_,Wk.refl _ _ _,b,c,d,f,rfl,.stay h⟩
theorem RWNew.zero {S X:List Blk}:∃r S2,Wk S (.agg zW) (S++X) r S2∧RWNew S wo0 r S2:=by
 let L:=(S++X).length
 have er:Wk S (.agg zW) (S++X) (.agg (enC .nils .nils en0++enC .nils .nils en0++[.str [],.str []])) (S++X):=by
  intro G0 w0 G w c hR0 hE hv hR
  refine ⟨G,?_,hR,hE⟩
  cases hv with
  | agg hl hr ho =>
   refine .agg hl (fun i v u hv hu=>?_) ho
   have hi:i < 24:=by
    have:=List.getElem?_eq_some_iff.1 hv
    simpa [enC] using this.1
   have hz:zW[i]?=some (zW[i]'(by simpa [zW,zE] using hi)):=List.getElem?_eq_getElem _
   have hr':=hr i _ u hz hu
   have:i=0∨i=1∨i=2∨i=3∨i=4∨i=5∨i=6∨i=7∨i=8∨i=9∨i=10∨i=11∨i=12∨i=13∨i=14∨i=15∨i=16∨i=17∨i=18∨i=19∨i=20∨i=21∨i=22∨i=23:=by omega
   rcases this with rfl | rfl | rfl | rfl | rfl | rfl | rfl | rfl | rfl | rfl | rfl | rfl | rfl | rfl | rfl | rfl | rfl | rfl | rfl | rfl | rfl | rfl | rfl | rfl <;>
    simp only [enC,en0,List.map_nil,List.cons_append,List.nil_append,List.getElem?_cons_zero,List.getElem?_cons_succ,Option.some.injEq] at hv <;> subst hv <;> first | exact hr' | exact eraseC_ok hr'
 have s1:=Wk.nh (S0:=S) (S:=S++X) 12 (NH.aggAt (n:=(S++X).length) (cs:=enC .nils .nils en0++enC .nils .nils en0++[V.str [],V.str []]) (i:=6) rfl)
 have s2:=Wk.nh (S0:=S) (S:=(S++X)++[Blk.cells 12 []]) 4 (NH.aggAt (n:=((S++X)++[Blk.cells 12 []]).length) (cs:=(enC .nils .nils en0++enC .nils .nils en0++[V.str [],V.str []]).set 6 (V.heap (S++X).length 0)) (i:=9) rfl)
 have s3:=Wk.nh (S0:=S) (S:=((S++X)++[Blk.cells 12 []])++[Blk.cells 4 []]) 12 (NH.aggAt (n:=(((S++X)++[Blk.cells 12 []])++[Blk.cells 4 []]).length) (cs:=((enC .nils .nils en0++enC .nils .nils en0++[V.str [],V.str []]).set 6 (V.heap (S++X).length 0)).set 9 (V.heap ((S++X)++[Blk.cells 12 []]).length 0)) (i:=17) rfl)
 have s4:=Wk.nh (S0:=S) (S:=(((S++X)++[Blk.cells 12 []])++[Blk.cells 4 []])++[Blk.cells 12 []]) 4 (NH.aggAt (n:=((((S++X)++[Blk.cells 12 []])++[Blk.cells 4 []])++[Blk.cells 12 []]).length)
  (cs:=(((enC .nils .nils en0++enC .nils .nils en0++[V.str [],V.str []]).set 6 (V.heap (S++X).length 0)).set 9 (V.heap ((S++X)++[Blk.cells 12 []]).length 0)).set 17 (V.heap (((S++X)++[Blk.cells 12 []])++[Blk.cells 4 []]).length 0)) (i:=20) rfl)
 have hl:S.length≤(S++X).length:=by simp
 refine ⟨_,_,(((er.trans s1).trans s2).trans s3).trans s4,(S++X).length,(S++X).length+1,(S++X).length+2,(S++X).length+3,?_,⟨⟨⟨?_,?_⟩,⟨?_,?_⟩,by omega,by omega⟩,hl,by omega,by omega,by omega,?_⟩⟩
 ·simp [wV,wC,enC,en0,wo0]
  omega
 ·generalize S++X=T; simp only [List.append_assoc,List.cons_append,List.nil_append]; rw [app_get0]; rfl
 ·generalize S++X=T; simp only [List.append_assoc,List.cons_append,List.nil_append]; rw [app_get]; rfl
 ·generalize S++X=T; simp only [List.append_assoc,List.cons_append,List.nil_append]; rw [app_get]; rfl
 ·generalize S++X=T; simp only [List.append_assoc,List.cons_append,List.nil_append]; rw [app_get]; rfl
 ·simp only [List.append_assoc]
  exact (Upd.refl _ _).app _
end
section
open Go
theorem playM_take {l:List Ev} {i:Nat} (ev0:Ev) (h:i < l.length):playM (l.take (i+1))=doM (playM (l.take i)) (l.getD i ev0):=by
 rw [List.take_succ_eq_append_getElem h,playM,List.foldl_append,List.getD,List.getElem?_eq_getElem h]
 rfl
theorem playM_w:∀(l:List Ev),WoW (642+l.length) (playM l):=by
 have gen:∀(l:List Ev) (N:Nat) (w:Wo),642≤N→WoW N w→WoW (N+l.length) (l.foldl doM w):=by
  intro l
  induction l with
  | nil=>intro N w _ h; exact h
  | cons v l ih =>
   intro N w hN h
   have:=ih (N+1) (doM w v) (by omega) (doM_w h hN v)
   rw [List.foldl_cons,List.length_cons,show N+(l.length+1)=N+1+l.length by omega]
   exact this
 exact fun l=>gen l 642 newWo (Nat.le_refl _) (newWo_w.mono (by omega))
def ev0:Ev:=⟨0,0,0,[],[]⟩
theorem getD_evV {l:List Ev} {i:Nat} (h:i < l.length):(l.map evV).getD i .junk=evV (l.getD i ev0):=by
 rw [List.getD,List.getElem?_map,List.getElem?_eq_getElem h,List.getD,List.getElem?_eq_getElem h]
 rfl
theorem evs_len5 (l:List Ev):(l.map evV).all (lenIs 5)=true:=by rw [List.all_eq_true]; intro v hv; obtain ⟨f,_,rfl⟩:=List.mem_map.1 hv; rfl
theorem sWorldPlay_ok (l:List Ev) (hl:l.length≤1100000) (hv:∀v ∈ l,EvB v) (S:List Blk):VCall Tryz.prog 26 [.rows none (l.map evV)] S fun r S'=>∃u,r=.tup [u,.bool (worldPlayM l).2]∧RWNew S (worldPlayM l).1 u S':=by
 refine VCall.ex hDe (fun _=>false) (fun id=>if id=7 then [5,5,5,5,5,6,7] else []) Tryz.func26 Tryz.ntmps26 Tryz.results26 ?_
 by_cases h60:(l.length:Int) > 60
 ·rw [worldPlayM,if_pos (by omega)]
  simp -implicitDefEqProofs (disch:=omega) only [push_cast,simprocAttr,h60,↓gd]
  obtain ⟨r,S2,h1,h2⟩:=RWNew.zero (S:=S) (X:=[.cells 0 zW])
  exact ⟨_,S2,h1.fst (xs:=[.bool false]) (by simp [Plain]),r,rfl,h2⟩
 ·rw [worldPlayM,if_neg (by omega)]
  simp -implicitDefEqProofs (disch:=omega) only [push_cast,simprocAttr,h60,↓gd]
  refine (sWorldNew_ok _).mono ?_
  rintro r S1 ⟨b,c,d,f,rfl,q1⟩
  have k0:S1[S.length]?=some (.cells 0 zW):=q1.upd.get (by simp -implicitDefEqProofs (disch:=omega) only [push_cast,simprocAttr,↓gd]) (by simp)
  have e0:=q1.hb; have e1:=q1.hc; have e2:=q1.hd; have e3:=q1.hf
  simp at e0 e1 e2 e3
  have hS1:=lt_of_some k0
  simp -implicitDefEqProofs (disch:=omega) only [push_cast,simprocAttr,k0,↓gd]
  refine wpV_loop (fun m t S2=>∃(i b c d f:Nat),m=l.length - i∧i≤l.length∧t 0=.rows none (l.map evV)∧t 2=.ptr S.length 0∧t 4=.ptr S1.length 0∧t 5=.int .i64 i ∧
   S2[S1.length]?=some (.cells 0 (wC b c d f (playM (l.take i))))∧S2[S.length]?=some (.cells 0 zW)∧WoNew S (playM (l.take i)) b c d f S2) l.length
   ⟨0,b,c,d,f,by omega,by omega,rfl,rfl,rfl,rfl,by simp -implicitDefEqProofs (disch:=omega) only [push_cast,simprocAttr,↓gd]; rfl,by simp -implicitDefEqProofs (disch:=omega) only [push_cast,simprocAttr,k0,↓gd],q1.app.appR _⟩ ?_
  rintro m t S2 ⟨i,b1,c1,d1,f1,rfl,hi,h0,h2,h4,h5,k1,k0,q2⟩
  have l0:=lt_of_some k0
  have l1:=lt_of_some k1
  refine wpV_of hDe (fun _=>false) (fun id=>if id=7 then [5,5,5,5,5,6,7] else []) (by kernel_rfl) ?_
  simp -implicitDefEqProofs (disch:=omega) only [push_cast,simprocAttr,h0,h2,h4,h5,k0,k1,↓gd]
  refine ⟨fun h=>?_,fun h=>?_⟩
  ·have hil:i < l.length:=by omega
   have hgd:=getD_evV hil
   have hst:=playM_take ev0 hil
   have hW:=playM_w (l.take i)
   have hti:(l.take i).length=i:=by simp; omega
   have hvb:EvB (l.getD i ev0):=hv _ (by rw [getD_lt ev0 hil]; exact List.getElem_mem hil)
   generalize l.getD i ev0=v at *
   generalize playM (l.take i)=w at *
   simp -implicitDefEqProofs (disch:=omega) only [push_cast,simprocAttr,h0,h2,h4,h5,k0,k1,hgd,evs_len5,↓gd]
   repeat refine And.intro (by omega) ?_
   refine ((l22Do_ok hW (by omega) v hvb q2.at_).as (by simp [wV,wC,enC,evV])).mono ?_
   rintro r S3 ⟨b2,c2,d2,f2,rfl,q3⟩
   have v0:=q2.at_.var k0
   have v1:=q2.at_.var k1
   have k0':=q3.upd.get k0 (by simp; omega)
   have k1':=q3.upd.get k1 (by simp; omega)
   have l1':=lt_of_some k1'
   have hn:=q2.to q3
   have v1':=hn.at_.var k1'
   rw [←hst] at hn
   rw [←hst]
   generalize doM w v=y at *
   simp -implicitDefEqProofs (disch:=omega) only [push_cast,simprocAttr,h0,h2,h4,h5,k0,k1,k0',k1',↓gd]
   exact ⟨l.length - (i+1),by omega,i+1,b2,c2,d2,f2,rfl,by omega,rfl,rfl,hn.set (j:=S1.length) _ (by omega) v1'⟩
  ·have:i=l.length:=by omega
   subst this
   rw [List.take_length] at *
   have v0:=q2.at_.var k0
   exact ⟨_,_,Wk.refl _ _ _,_,rfl,b1,c1,d1,f1,rfl,q2.set (j:=S.length) _ (Nat.le_refl _) v0⟩
end
section
open Go
theorem frmsC_in {S:List Blk} {c:Nat} {l:List Fr} (hc:S[c]?=some (.cells 4 (frmsC l))) (X:List Blk):(S++X)[c]?=some (.cells 4 (frmsC l)):=by
 rw [List.getElem?_append_left (lt_of_some hc)]; exact hc
theorem IndexFuncF_ok (l:List Fr) (fid:Nat) (caps:List V) (p:Fr→Bool) (hlen:l.length≤2000000) {c:Nat} (S:List Blk) (hc:S[c]?=some (.cells 4 (frmsC l))) (hp:∀g ∈ l,VCall Tryz.prog fid (eraseArgs (frV g :: caps)) S fun r S'=>r=.bool (p g)∧S'=S) :
  VCall Tryz.prog 123 [.heap c l.length,.fn fid caps] S fun r S'=>r=.int .i64 (if l.any p then (l.findIdx p:Int) else -1)∧S'=S:=by
 have hlw:=frmsC_len l
 refine VCall.en hDe Tryz.func123 Tryz.ntmps123 Tryz.results123 ?_
 simp -implicitDefEqProofs (maxSteps:=1000000) (disch:=omega) only [push_cast,simprocAttr,↓gd]
 refine wpV_loop (fun m t S'=>∃i:Nat,m=l.length - i∧i≤l.length∧(l.take i).any p=false∧t 0=.heap c l.length∧t 1=.fn fid caps∧t 7=.int .i64 l.length∧t 8=.int .i64 i∧S'=S) l.length ⟨0,by omega,by omega,by simp,rfl,rfl,rfl,rfl,rfl⟩ ?_
 rintro m t S' ⟨i,rfl,hi,hno,h0,h1,h7,h8,rfl⟩
 refine wpV_of0 hDe ?_
 simp -implicitDefEqProofs (maxSteps:=1000000) (disch:=omega) only [push_cast,simprocAttr,h0,h1,h7,h8,↓gd]
 refine ⟨fun h=>?_,fun h=>?_⟩
 ·have hil:i < l.length:=by omega
  have hat:=frmsC_at hil
  have hpf:=hp _ (getD_memF hil)
  have htk:=take_fr hil
  have hfi:p (l.getD i fr0)=true→l.findIdx p=i:=fun q=>by
   rw [getD_lt fr0 hil] at q
   rw [List.findIdx_eq hil]
   refine ⟨q,fun j hj=>?_⟩
   have:=List.any_eq_false.1 hno l[j] (by rw [List.mem_take_iff_getElem]; exact ⟨j,by omega,rfl⟩)
   simpa using this
  have han:p (l.getD i fr0)=true→l.any p=true:=fun q=>List.any_eq_true.2 ⟨_,getD_memF hil,q⟩
  generalize l.getD i fr0=f at *
  simp -implicitDefEqProofs (maxSteps:=1000000) (disch:=omega) only [push_cast,simprocAttr,h0,h1,h7,h8,hc,hat,↓gd]
  repeat refine And.intro (by omega) ?_
  refine (hpf.as rfl).to ?_
  cases hpv:p f
  ·simp -implicitDefEqProofs (maxSteps:=1000000) (disch:=omega) only [push_cast,simprocAttr,h0,h1,h7,h8,↓gd]
   refine ⟨l.length - (i+1),by omega,i+1,rfl,by omega,?_,by simp⟩
   rw [htk,List.any_append,hno]; simp [hpv]
  ·simp -implicitDefEqProofs (maxSteps:=1000000) (disch:=omega) only [push_cast,simprocAttr,h0,h1,h7,h8,↓gd]
   exact fin0 (by rw [han hpv,hfi hpv]; rfl)
 ·have:i=l.length:=by omega
  subst this
  rw [List.take_length] at hno
  exact fin0 (by rw [hno]; rfl)
theorem ContainsFuncF_ok (l:List Fr) (fid:Nat) (caps:List V) (p:Fr→Bool) (hlen:l.length≤2000000) {c:Nat} (S:List Blk) (hc:S[c]?=some (.cells 4 (frmsC l))) (hp:∀g ∈ l,VCall Tryz.prog fid (eraseArgs (frV g :: caps)) S fun r S'=>r=.bool (p g)∧S'=S) :
  VCall Tryz.prog 84 [.heap c l.length,.fn fid caps] S fun r S'=>r=.bool (l.any p)∧S'=S:=by
 refine VCall.en hDe Tryz.func84 Tryz.ntmps84 Tryz.results84 ?_
 simp -implicitDefEqProofs (maxSteps:=1000000) (disch:=omega) only [push_cast,simprocAttr,↓gd]
 refine (IndexFuncF_ok l fid caps p hlen S hc hp).to ?_
 cases h:l.any p
 ·simp -implicitDefEqProofs (maxSteps:=1000000) (disch:=omega) only [push_cast,simprocAttr,↓gd]
  exact fin0 rfl
 ·simp -implicitDefEqProofs (maxSteps:=1000000) (disch:=omega) only [push_cast,simprocAttr,↓gd]
  exact fin0 (by simp)
theorem endOk1_ok (f:Fr) (S:List Blk):VCall Tryz.prog 85 [frV f] S fun r S'=>r=.bool (!frameOk f)∧S'=S:=by
 refine VCall.en hD Tryz.func85 Tryz.ntmps85 Tryz.results85 ?_
 simp -implicitDefEqProofs (maxSteps:=1000000) (disch:=omega) only [push_cast,simprocAttr,↓gd]
 refine ((FrameOk_ok f _).as rfl).to ?_
 simp -implicitDefEqProofs (maxSteps:=1000000) (disch:=omega) only [push_cast,simprocAttr,↓gd]
 exact fin1 (.bool _) rfl
theorem EndOk_ok {e:En} (he:EnB e) {S:List Blk} {b c:Nat} (h:EnAt S b c e):VCall Tryz.prog 41 [eV b c e] S fun r S'=>r=.bool (endOk e)∧S'=S:=by
 obtain ⟨hb,hc⟩:=h
 have hbl:=lt_of_some hb
 have hcl:=lt_of_some hc
 have hlen:=strsC_len e.strs
 have hel:=he.len
 have hwn:=he.wait
 refine VCall.ex hDe (fun _=>false) (fun id=>if id=4 then [2,2,35,35,35,35,35,35,35,35,35,35,35,35,35,35,35,35,35,35,35,35,35,35,35,35,35,35,35,35,35,35,35,35,35,38,38,38] else []) Tryz.func41 Tryz.ntmps41 Tryz.results41 ?_
 simp -implicitDefEqProofs (maxSteps:=1000000) (disch:=omega) only [push_cast,simprocAttr,↓gd]
 refine wpV_loop (fun m t S1=>∃(i:Nat) (X:List Blk),m=e.strs.length - i∧i≤e.strs.length∧(∀j,j < i→okAt e.ans e.strs j=true)∧t 1=.ptr S.length 0∧t 6=.heap b e.strs.length∧t 7=.int .i64 e.strs.length∧t 8=.int .i64 i ∧
  S1=S++([.cells 0 (enC (.heap b e.strs.length) (.heap c e.wait.length) e)]++X)) e.strs.length
  ⟨0,[],by omega,by omega,by omega,rfl,rfl,rfl,rfl,rfl⟩ ?_
 rintro m t S1 ⟨i,X,rfl,hi,hok,h1,h6,h7,h8,rfl⟩
 refine wpV_of hDe (fun _=>false) (fun id=>if id=4 then [2,2,35,35,35,35,35,35,35,35,35,35,35,35,35,35,35,35,35,35,35,35,35,35,35,35,35,35,35,35,35,35,35,35,35,38,38,38] else []) (by kernel_rfl) ?_
 simp -implicitDefEqProofs (maxSteps:=1000000) (disch:=omega) only [push_cast,simprocAttr,h1,h6,h7,h8,↓gd]
 refine ⟨fun h=>?_,fun h=>?_⟩
 ·have hil:i < e.strs.length:=by omega
  have hat:=strsC_at hil
  have hid:=strsC_id hil
  have hsb:=he.sts _ (getD_memS hil)
  have bad:okAt e.ans e.strs i=false→endOk e=false:=fun q=>endOk_bad hil q
  have hx:okAt e.ans e.strs i=(stOk (e.strs.getD i st0) && (decide (i=0) || decide ((e.strs.getD (i - 1) st0).id < (e.strs.getD i st0).id)) && (e.ans || decide ((e.strs.getD i st0).id=2 * i+1))):=rfl
  have hid':∀_:0 < i,(strsC e.strs)[(i - 1) * 12]?=some (.int .i64 (e.strs.getD (i - 1) st0).id):=fun q=>strsC_id (l:=e.strs) (i:=i - 1) (by omega)
  generalize e.strs.getD i st0=s at hat hid hsb hx
  generalize e.strs.getD (i - 1) st0=p at hid' hx
  simp -implicitDefEqProofs (maxSteps:=1000000) (disch:=omega) only [push_cast,simprocAttr,h1,h6,h7,h8,hb,hat,hid,↓gd]
  repeat refine And.intro (by omega) ?_
  refine (isStream_ok s.id _).to ?_
  cases hs:strmOk s.id
  ·simp -implicitDefEqProofs (maxSteps:=1000000) (disch:=omega) only [push_cast,simprocAttr,h1,h6,h7,h8,hb,hat,hid,↓gd]
   exact fin1 (.bool _) (by rw [bad (by rw [hx,stOk,hs]; rfl)])
  have okf:stOk s=true→(i=0∨p.id < s.id)→(e.ans=true∨s.id=2 * (i:Int)+1)→okAt e.ans e.strs i=true:=fun q1 q2 q3=>by
   have a2:(decide (i=0) || decide (p.id < s.id))=true:=by rcases q2 with q | q <;> simp [q]
   have a3:(e.ans || decide (s.id=2 * (i:Int)+1))=true:=by
    rcases q3 with q | q
    ·simp [q]
    ·rw [decide_eq_true q]; simp
   rw [hx,q1,a2,a3]; rfl
  have next:∀(a:Bool) (B:Blk) (Y:List Blk),e.ans=a→okAt e.ans e.strs i=true→∃m',m' < e.strs.length - i∧∃(i':Nat) (X':List Blk),m'=e.strs.length - i'∧i'≤e.strs.length∧(∀j,j < i'→okAt a e.strs j=true) ∧
    V.int .i64 ((i:Int)+1)=.int .i64 (i':Nat)∧S++B :: (X++Y)=S++B :: X':=fun a B Y ea q =>
   ⟨e.strs.length - (i+1),by omega,i+1,X++Y,rfl,by omega,fun j hj=>by
    subst ea
    by_cases ej:j=i
    ·rw [ej]; exact q
    ·exact hok j (by omega),by simp,rfl⟩
  have fstrm:=fun X=>streamOk_ok s hsb hs X
  by_cases h0:i=0
  ·have hip:¬(i:Int) > 0:=by omega
   rcases Bool.eq_false_or_eq_true e.ans with ha | ha
   ·simp -implicitDefEqProofs (maxSteps:=1000000) (disch:=omega) only [push_cast,simprocAttr,h1,h6,h7,h8,hb,hat,hid,hip,ha,↓gd]
    refine ((fstrm _).as rfl).to ?_
    cases hso:stOk s
    ·simp -implicitDefEqProofs (maxSteps:=1000000) (disch:=omega) only [push_cast,simprocAttr,h1,h6,h7,h8,↓gd]
     exact fin1 (.bool _) (by rw [bad (by rw [hx,hso]; rfl)])
    ·simp -implicitDefEqProofs (maxSteps:=1000000) (disch:=omega) only [push_cast,simprocAttr,h1,h6,h7,h8,↓gd]
     exact next _ _ _ ha (okf hso (.inl h0) (.inl ha))
   ·by_cases h1d:s.id=2 * (i:Int)+1
    ·have hd:=eq_true h1d
     simp -implicitDefEqProofs (maxSteps:=1000000) (disch:=omega) only [push_cast,simprocAttr,h1,h6,h7,h8,hb,hat,hid,hip,ha,hd,↓gd]
     repeat refine And.intro (by omega) ?_
     refine ((fstrm _).as rfl).to ?_
     cases hso:stOk s
     ·simp -implicitDefEqProofs (maxSteps:=1000000) (disch:=omega) only [push_cast,simprocAttr,h1,h6,h7,h8,↓gd]
      exact fin1 (.bool _) (by rw [bad (by rw [hx,hso]; rfl)])
     ·simp -implicitDefEqProofs (maxSteps:=1000000) (disch:=omega) only [push_cast,simprocAttr,h1,h6,h7,h8,↓gd]
      exact next _ _ _ ha (okf hso (.inl h0) (.inr h1d))
    ·simp -implicitDefEqProofs (maxSteps:=1000000) (disch:=omega) only [push_cast,simprocAttr,h1,h6,h7,h8,hb,hat,hid,hip,ha,h1d,↓gd]
     repeat refine And.intro (by omega) ?_
     exact fin1 (.bool _) (by rw [bad (by rw [hx,ha,decide_eq_false h1d]; simp)])
  ·have hip:(i:Int) > 0:=by omega
   have hi0:((i:Int) - 1).toNat=i - 1:=by omega
   have hid':=hid' (by omega)
   by_cases hlt:s.id≤p.id
   ·simp -implicitDefEqProofs (maxSteps:=1000000) (disch:=omega) only [push_cast,simprocAttr,h1,h6,h7,h8,hb,hat,hid,hip,hid',hi0,hlt,↓gd]
    repeat refine And.intro (by omega) ?_
    exact fin1 (.bool _) (by rw [bad (by rw [hx,decide_eq_false h0,decide_eq_false (by omega:¬p.id < s.id)]; simp)])
   ·rcases Bool.eq_false_or_eq_true e.ans with ha | ha
    ·simp -implicitDefEqProofs (maxSteps:=1000000) (disch:=omega) only [push_cast,simprocAttr,h1,h6,h7,h8,hb,hat,hid,hip,hid',hi0,hlt,ha,↓gd]
     repeat refine And.intro (by omega) ?_
     refine ((fstrm _).as rfl).to ?_
     cases hso:stOk s
     ·simp -implicitDefEqProofs (maxSteps:=1000000) (disch:=omega) only [push_cast,simprocAttr,h1,h6,h7,h8,↓gd]
      exact fin1 (.bool _) (by rw [bad (by rw [hx,hso]; rfl)])
     ·simp -implicitDefEqProofs (maxSteps:=1000000) (disch:=omega) only [push_cast,simprocAttr,h1,h6,h7,h8,↓gd]
      exact next _ _ _ ha (okf hso (.inr (by omega)) (.inl ha))
    ·by_cases h1d:s.id=2 * (i:Int)+1
     ·have hd:=eq_true h1d
      simp -implicitDefEqProofs (maxSteps:=1000000) (disch:=omega) only [push_cast,simprocAttr,h1,h6,h7,h8,hb,hat,hid,hip,hid',hi0,hlt,ha,hd,↓gd]
      repeat refine And.intro (by omega) ?_
      refine ((fstrm _).as rfl).to ?_
      cases hso:stOk s
      ·simp -implicitDefEqProofs (maxSteps:=1000000) (disch:=omega) only [push_cast,simprocAttr,h1,h6,h7,h8,↓gd]
       exact fin1 (.bool _) (by rw [bad (by rw [hx,hso]; rfl)])
      ·simp -implicitDefEqProofs (maxSteps:=1000000) (disch:=omega) only [push_cast,simprocAttr,h1,h6,h7,h8,↓gd]
       exact next _ _ _ ha (okf hso (.inr (by omega)) (.inr h1d))
     ·simp -implicitDefEqProofs (maxSteps:=1000000) (disch:=omega) only [push_cast,simprocAttr,h1,h6,h7,h8,hb,hat,hid,hip,hid',hi0,hlt,ha,h1d,↓gd]
      repeat refine And.intro (by omega) ?_
      exact fin1 (.bool _) (by rw [bad (by rw [hx,ha,decide_eq_false h1d]; simp)])
 ·have:i=e.strs.length:=by omega
  subst this
  have hsts:stsOk e.ans e.strs=true:=by rw [stsOk,List.all_eq_true]; exact fun j hj=>hok j (List.mem_range.1 hj)
  have hE:endOk e=(e.wait.all frameOk && tableOk e.out e.outM && tableOk e.inn e.innM && flowOk e.send e.room && decide (e.came.length≤600) && decide (e.wait.length≤60)):=by
   simp only [endOk,hsts,Bool.true_and]
  by_cases hw:(e.wait.length:Int)≤60
  ·simp -implicitDefEqProofs (maxSteps:=1000000) (disch:=omega) only [push_cast,simprocAttr,h1,hc,hw,↓gd]
   have hcf:=fun X=>ContainsFuncF_ok e.wait 85 [] (fun f=>!frameOk f) (by omega) (c:=c) (S++X) (frmsC_in hc X) (fun g hg=>(endOk1_ok g _).as rfl)
   refine ((hcf _).as rfl).to ?_
   have hany:e.wait.any (fun f=>!frameOk f)=!e.wait.all frameOk:=by
    rw [List.all_eq_not_any_not,Bool.not_not]
   rw [hany]
   cases hall:e.wait.all frameOk
   ·simp -implicitDefEqProofs (maxSteps:=1000000) (disch:=omega) only [push_cast,simprocAttr,h1,↓gd]
    exact fin1 (.bool _) (by rw [hE,hall]; rfl)
   by_cases hcm:(e.came.length:Int)≤600
   ·simp -implicitDefEqProofs (maxSteps:=1000000) (disch:=omega) only [push_cast,simprocAttr,h1,hcm,↓gd]
    refine ((TableOk_ok e.out e.outM he.out _).as rfl).to ?_
    cases ht1:tableOk e.out e.outM
    ·simp -implicitDefEqProofs (maxSteps:=1000000) (disch:=omega) only [push_cast,simprocAttr,h1,↓gd]
     exact fin1 (.bool _) (by rw [hE,ht1]; simp)
    simp -implicitDefEqProofs (maxSteps:=1000000) (disch:=omega) only [push_cast,simprocAttr,h1,↓gd]
    refine ((TableOk_ok e.inn e.innM he.inn _).as rfl).to ?_
    cases ht2:tableOk e.inn e.innM
    ·simp -implicitDefEqProofs (maxSteps:=1000000) (disch:=omega) only [push_cast,simprocAttr,h1,↓gd]
     exact fin1 (.bool _) (by rw [hE,ht2]; simp)
    simp -implicitDefEqProofs (maxSteps:=1000000) (disch:=omega) only [push_cast,simprocAttr,h1,↓gd]
    refine ((FlowOk_ok e.send e.room _).as rfl).to ?_
    simp -implicitDefEqProofs (maxSteps:=1000000) (disch:=omega) only [push_cast,simprocAttr,h1,↓gd]
    exact fin1 (.bool _) (by rw [hE,hall,ht1,ht2,decide_eq_true (by omega:e.came.length≤600),decide_eq_true (by omega:e.wait.length≤60)]; simp)
   ·simp -implicitDefEqProofs (maxSteps:=1000000) (disch:=omega) only [push_cast,simprocAttr,h1,hcm,↓gd]
    exact fin1 (.bool _) (by rw [hE]; simp; omega)
  ·simp -implicitDefEqProofs (maxSteps:=1000000) (disch:=omega) only [push_cast,simprocAttr,h1,hw,↓gd]
   exact fin1 (.bool _) (by rw [hE]; simp; omega)
end
end Go.Proofs.YtldogccmhncnoaaGreatDoor
