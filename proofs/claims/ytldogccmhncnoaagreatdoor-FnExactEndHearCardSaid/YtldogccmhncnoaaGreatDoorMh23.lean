/- A part of the proof: contracts of functions, or plain facts on which these lean. -/
import Derived.Test.YtldogccmhncnoaaGreatDoorMh18
import Derived.Test.YtldogccmhncnoaaGreatDoorMh22
namespace Go.Proofs.YtldogccmhncnoaaGreatDoor
open Go
set_option linter.unusedVariables false
set_option linter.unusedSimpArgs false
set_option maxRecDepth 100000
set_option maxHeartbeats 16000000

section
open Go
theorem frameOk_kinds {f:Fr} (h:frameOk f=true):f.kind=0∨f.kind=1∨f.kind=3∨f.kind=8:=by
 unfold frameOk at h
 split at h
 ·omega
 ·split at h
  ·omega
  ·split at h
   ·omega
   ·cases h
theorem l21Frame_ok {N:Nat} {e:En} (hW:EnW N e) (hN:N≤1100000) {f:Fr} (hf:frameOk f=true) {S:List Blk} {b c:Nat} (h:EnAt S b c e):VCall Tryz.prog 78 [eV b c e,frV f] S fun r S'=>RTo S b c (frameM e f) r S':=by
 have he:=hW.b hN
 have hsts:=hW.sts
 have hkd:=frameOk_kinds hf
 have hfin:∀{X r S' E},RTo (S++X) b c E r S'→RTo S b c E r S':=fun ⟨b',c',h1,h2⟩=>⟨b',c',h1,h2.app⟩
 have kinds:∀k,f.kind=k→frameM e f=if k=1 then headFM e f else if k=0 then dataM e f else if k=8 then moreM e f
  else match atM e.strs f.stream with
   | none=>badM e
   | some k=>if e.ans=false then badM e else setSt e k { stAt e k with state:=3 }:=fun k hk=>by rw [←hk]; rfl
 by_cases k1:f.kind=1
 ·have hcon:=fun X=>l21Head_ok hW hN hf (h.app X)
  rw [kinds 1 k1,if_pos rfl]
  refine VCall.en hDe Tryz.func78 Tryz.ntmps78 Tryz.results78 ?_
  simp -implicitDefEqProofs (disch:=omega) only [push_cast,simprocAttr,k1,↓gd]
  refine ((hcon _).as (by simp [eV,enV,enC,frV,frmC,k1])).mono ?_
  rintro r S' ⟨b',c',rfl,hto⟩
  have hx:=hto.app
  have k0:S'[S.length+2]?=some (.cells 0 zE):=hto.upd.get (by simp -implicitDefEqProofs (disch:=omega) only [push_cast,simprocAttr,↓gd]) (by have:=lt_of_some h.1; have:=lt_of_some h.2; simp; omega)
  have l0:=lt_of_some k0
  generalize headFM e f=E at hto hx
  simp -implicitDefEqProofs (disch:=omega) only [push_cast,simprocAttr,k0,↓gd]
  refine ⟨_,_,Wk.refl _ _ _,b',c',rfl,hx.set _ (by omega) ?_ ?_⟩
  ·exact cells_ne hto.at_.1 k0 (by decide)
  ·exact cells_ne hto.at_.2 k0 (by decide)
 by_cases k2:f.kind=0
 ·have hcon:=fun X=>l21Data_ok hW hN hf k2 (h.app X)
  rw [kinds 0 k2,if_neg (by decide),if_pos rfl]
  refine VCall.en hDe Tryz.func78 Tryz.ntmps78 Tryz.results78 ?_
  simp -implicitDefEqProofs (disch:=omega) only [push_cast,simprocAttr,k2,↓gd]
  refine ((hcon _).as (by simp [eV,enV,enC,frV,frmC,k2])).mono ?_
  rintro r S' ⟨b',c',rfl,hto⟩
  have hx:=hto.app
  have k0:S'[S.length+2]?=some (.cells 0 zE):=hto.upd.get (by simp -implicitDefEqProofs (disch:=omega) only [push_cast,simprocAttr,↓gd]) (by have:=lt_of_some h.1; have:=lt_of_some h.2; simp; omega)
  have l0:=lt_of_some k0
  generalize dataM e f=E at hto hx
  simp -implicitDefEqProofs (disch:=omega) only [push_cast,simprocAttr,k0,↓gd]
  refine ⟨_,_,Wk.refl _ _ _,b',c',rfl,hx.set _ (by omega) ?_ ?_⟩
  ·exact cells_ne hto.at_.1 k0 (by decide)
  ·exact cells_ne hto.at_.2 k0 (by decide)
 by_cases k3:f.kind=8
 ·have hcon:=fun X=>l21More_ok hW hN hf k3 (h.app X)
  rw [kinds 8 k3,if_neg (by decide),if_neg (by decide),if_pos rfl]
  refine VCall.en hDe Tryz.func78 Tryz.ntmps78 Tryz.results78 ?_
  simp -implicitDefEqProofs (disch:=omega) only [push_cast,simprocAttr,k3,↓gd]
  refine ((hcon _).as (by simp [eV,enV,enC,frV,frmC,k3])).mono ?_
  rintro r S' ⟨b',c',rfl,hto⟩
  have hx:=hto.app
  have k0:S'[S.length+2]?=some (.cells 0 zE):=hto.upd.get (by simp -implicitDefEqProofs (disch:=omega) only [push_cast,simprocAttr,↓gd]) (by have:=lt_of_some h.1; have:=lt_of_some h.2; simp; omega)
  have l0:=lt_of_some k0
  generalize moreM e f=E at hto hx
  simp -implicitDefEqProofs (disch:=omega) only [push_cast,simprocAttr,k0,↓gd]
  refine ⟨_,_,Wk.refl _ _ _,b',c',rfl,hx.set _ (by omega) ?_ ?_⟩
  ·exact cells_ne hto.at_.1 k0 (by decide)
  ·exact cells_ne hto.at_.2 k0 (by decide)
 have k4:f.kind=3:=by omega
 rw [kinds 3 k4,if_neg (by decide),if_neg (by decide),if_neg (by decide)]
 clear kinds
 obtain ⟨ans,out,outM,inn,innM,came,strs,snd,rm,wait,bad⟩:=e
 simp only at hsts
 have hne:=h.ne
 have hb:S[b]?=some (.cells 12 (strsC strs)):=h.1
 have hc:S[c]?=some (.cells 4 (frmsC wait)):=h.2
 have hbl:=lt_of_some hb
 have hcl:=lt_of_some hc
 have hlen:=strsC_len strs
 obtain ⟨fk,fl,fs,fb⟩:=f
 simp only at k4 ⊢
 subst k4
 have sbad:∀X,RTo S b c ⟨ans,out,outM,inn,innM,came,strs,snd,rm,wait,true⟩ (eV b c ⟨ans,out,outM,inn,innM,came,strs,snd,rm,wait,true⟩) (S++X):=fun X=>.stay (e:=⟨ans,out,outM,inn,innM,came,strs,snd,rm,wait,true⟩) h
 refine VCall.en hDe Tryz.func78 Tryz.ntmps78 Tryz.results78 ?_
 simp -implicitDefEqProofs (disch:=omega) only [push_cast,simprocAttr,↓gd]
 refine ((l21At_ok he (h.app _) fs).as rfl).to ?_
 cases ha:atM strs fs with
 | none =>
  have hai:atI strs fs=-1:=by rw [atI,ha]
  simp only [badM]
  simp -implicitDefEqProofs (disch:=omega) only [push_cast,simprocAttr,hai,↓gd]
  exact ⟨_,_,Wk.refl _ _ _,sbad _⟩
 | some k =>
  obtain ⟨hk,hid⟩:=atM_some ha
  have hai:atI strs fs=k:=by rw [atI,ha]
  have hk0:¬(k:Int) < 0:=by omega
  cases ans
  ·simp only [badM,if_true]
   simp -implicitDefEqProofs (disch:=omega) only [push_cast,simprocAttr,hai,hk0,↓gd]
   exact ⟨_,_,Wk.refl _ _ _,sbad _⟩
  ·have hput:∀s',strC s'=(strC (strs.getD k st0)).set 1 (.int .i64 3)→splice (strsC strs) (k * 12+1) [.int .i64 3]=strsC (strs.set k s'):=fun s'=>strsC_put hk (by decide)
   simp only [stAt,setSt,Bool.true_eq_false,if_false]
   generalize strs.getD k st0=s at hput
   obtain ⟨sid,sst,shd,ssay,sbg,ssd,ssent,sgot,stx,shrd,ssnd,srm⟩:=s
   have hput:=hput ⟨sid,3,shd,ssay,sbg,ssd,ssent,sgot,stx,shrd,ssnd,srm⟩ rfl
   simp -implicitDefEqProofs (disch:=omega) only [push_cast,simprocAttr,hai,hk0,hb,hput,↓gd]
   repeat refine And.intro (by omega) ?_
   refine ⟨_,_,Wk.refl _ _ _,RTo.mk b c (by simp [eV,enV,enC]) ?_ ?_ (.inl rfl) (.inl rfl) (((Upd.refl _ _).set _ (.inr (by simp))).app _)⟩
   ·simp -implicitDefEqProofs (disch:=omega) only [push_cast,simprocAttr,↓gd]
   ·simp -implicitDefEqProofs (disch:=omega) only [push_cast,simprocAttr,hc,↓gd]
end
section
open Go
theorem hearsM_succ (n:Nat) (e:En):hearsM (n+1) e=if e.bad then e else if (frR e.came).2.2 < 0 then badM e else if (frR e.came).2.2=0 then e else hearsM n (frameM { e with came:=e.came.drop (frR e.came).2.1 } (frR e.came).1):=rfl
theorem l21Hear_ok {N:Nat} {e:En} (hW:EnW N e) (hN:N≤900000) {bs:List UInt8} (hbs:e.came.length+bs.length≤600) {S:List Blk} {b c:Nat} (h:EnAt S b c e):VCall Tryz.prog 36 [eV b c e,.str bs] S fun r S'=>RTo S b c (hearM e bs) r S':=by
 have hW0:EnW N { e with came:=e.came++bs }:=hW.withCame (by rw [List.length_append]; omega)
 have hl0:({ e with came:=e.came++bs }:En).came.length < e.came.length+bs.length+1:=by simp
 have hne:=h.ne
 have hbl:=lt_of_some h.1
 have hcl:=lt_of_some h.2
 have hcame:=hW.came
 have hen0:enC (.heap b e.strs.length) (.heap c e.wait.length) { e with came:=e.came++bs }=[.bool e.ans,.rows none (e.out.map fV),.int .i64 e.outM,.rows none (e.inn.map fV),.int .i64 e.innM,.str (e.came++bs),.heap b e.strs.length,.int .i64 e.send,.int .i64 e.room,.heap c e.wait.length,.bool e.bad]:=rfl
 have h0:EnAt S b c { e with came:=e.came++bs }:=h
 have hs0:({ e with came:=e.came++bs }:En).strs=e.strs∧({ e with came:=e.came++bs }:En).wait=e.wait:=⟨rfl,rfl⟩
 rw [hearM]
 generalize hR:hearsM (e.came.length+bs.length+1) { e with came:=e.came++bs }=R
 refine VCall.en hDe Tryz.func36 Tryz.ntmps36 Tryz.results36 ?_
 simp -implicitDefEqProofs (disch:=omega) only [push_cast,simprocAttr,↓gd]
 refine ⟨by omega,?_⟩
 generalize hE:({ e with came:=e.came++bs }:En)=E at *
 rw [←hen0]
 refine wpV_loop (fun m t S1=>∃(n:Nat) (x:En) (b1 c1 M:Nat),m=x.came.length∧x.came.length < n∧x.came.length≤600∧R=hearsM n x∧EnW M x∧M+2 * x.came.length≤N+1200 ∧
  t 2=.ptr S.length 0∧t 4=.ptr (S.length+1) 0∧S1[S.length]?=some (.cells 0 (enC (.heap b1 x.strs.length) (.heap c1 x.wait.length) x))∧S1[S.length+1]?=some (.cells 0 zE)∧EnTo S b c x b1 c1 S1) E.came.length
  ⟨e.came.length+bs.length+1,E,b,c,N,rfl,hl0,by omega,hR.symm,hW0,by omega,rfl,rfl,by simp -implicitDefEqProofs (disch:=omega) only [push_cast,simprocAttr,hs0.1,hs0.2,↓gd],by simp -implicitDefEqProofs (disch:=omega) only [push_cast,simprocAttr,↓gd],EnTo.stay h0⟩ ?_
 rintro m t S1 ⟨n,x,b1,c1,M,rfl,hn,hx6,hrun,hxW,hM,h2,h4,k0,k1,hto⟩
 clear hR
 have l0:=lt_of_some k0
 have l1:=lt_of_some k1
 refine wpV_of0 hDe ?_
 obtain ⟨n,rfl⟩:∃k,n=k+1:=⟨n - 1,by omega⟩
 rw [hearsM_succ] at hrun
 have hnb:=cells_ne hto.at_.1 k0 (by decide)
 have hnc:=cells_ne hto.at_.2 k0 (by decide)
 have hnb1:=cells_ne hto.at_.1 k1 (by decide)
 have hnc1:=cells_ne hto.at_.2 k1 (by decide)
 rcases Bool.eq_false_or_eq_true x.bad with hbad | hbad
 ·rw [if_pos hbad] at hrun
  rw [hrun]
  simp -implicitDefEqProofs (disch:=omega) only [push_cast,simprocAttr,h2,h4,k0,k1,hbad,↓gd]
  exact ⟨_,_,Wk.refl _ _ _,b1,c1,by simp -implicitDefEqProofs (disch:=omega) only [push_cast,simprocAttr,hbad,↓gd],hto.set _ (by omega) hnb1 hnc1⟩
 ·rw [if_neg (by rw [hbad]; simp)] at hrun
  simp -implicitDefEqProofs (disch:=omega) only [push_cast,simprocAttr,h2,h4,k0,k1,hbad,↓gd]
  refine (l12Read_ok x.came (by omega) _).to ?_
  have hsome:=@frR_some x.came
  generalize hq:frR x.came=q at hrun hsome
  obtain ⟨f,u,is⟩:=q
  simp only at hrun hsome
  by_cases h1:is < 0
  ·rw [if_pos h1] at hrun
   rw [hrun]
   have h1':is≤0:=by omega
   simp -implicitDefEqProofs (disch:=omega) only [push_cast,simprocAttr,h2,h4,k0,k1,h1,h1',↓gd]
   have hto':EnTo S b c (badM x) b1 c1 S1:=⟨hto.at_,hto.hb,hto.hc,hto.upd⟩
   exact ⟨_,_,Wk.refl _ _ _,b1,c1,rfl,((hto'.set _ (Nat.le_refl _) hnb hnc).set _ (by omega) hnb1 hnc1).appR _⟩
  ·rw [if_neg h1] at hrun
   by_cases h0:is=0
   ·subst h0
    rw [if_pos rfl] at hrun
    rw [hrun]
    simp -implicitDefEqProofs (disch:=omega) only [push_cast,simprocAttr,h2,h4,k0,k1,hbad,↓gd]
    exact ⟨_,_,Wk.refl _ _ _,b1,c1,by simp -implicitDefEqProofs (disch:=omega) only [push_cast,simprocAttr,hbad,↓gd],(hto.set _ (by omega) hnb1 hnc1).appR _⟩
   ·rw [if_neg h0] at hrun
    have h1':¬is≤0:=by omega
    obtain ⟨r1,r2,r3,r4⟩:=hsome (by omega)
    have hx':EnW M { x with came:=x.came.drop u }:=hxW.withCame (by rw [List.length_drop]; omega)
    simp -implicitDefEqProofs (disch:=omega) only [push_cast,simprocAttr,h2,h4,k0,k1,h1,h1',List.take_length,↓gd]
    repeat refine And.intro (by omega) ?_
    have hto':EnTo S b c { x with came:=x.came.drop u } b1 c1 S1:=⟨hto.at_,hto.hb,hto.hc,hto.upd⟩
    have htoX:=fun B X=>((hto'.set B (Nat.le_refl _) hnb hnc).appR X)
    refine ((l21Frame_ok hx' (by omega) r1 (htoX _ _).at_).as rfl).mono ?_
    rintro r S2 ⟨b2,c2,rfl,hto2⟩
    have k0':=hto2.upd.get (j:=S.length) (B:=.cells 0 (enC (.heap b1 x.strs.length) (.heap c1 x.wait.length) { x with came:=x.came.drop u })) (by simp -implicitDefEqProofs (disch:=omega) only [push_cast,simprocAttr,↓gd]) (by simp; omega)
    have k1':=hto2.upd.get (j:=S.length+1) (B:=.cells 0 zE) (by simp -implicitDefEqProofs (disch:=omega) only [push_cast,simprocAttr,k1,↓gd]) (by simp; omega)
    have l0':=lt_of_some k0'
    have hEw:=frameM_w hx' r1
    have hcl:(frameM { x with came:=x.came.drop u } f).came.length=x.came.length - u:=by rw [frameM_came,List.length_drop]
    have hto3:=(htoX _ _).trans hto2
    generalize frameM { x with came:=x.came.drop u } f=y at *
    have hnb':=cells_ne hto2.at_.1 k0' (by decide)
    have hnc':=cells_ne hto2.at_.2 k0' (by decide)
    simp -implicitDefEqProofs (disch:=omega) only [push_cast,simprocAttr,h2,h4,k0',k1',↓gd]
    exact ⟨y.came.length,by omega,n,y,b2,c2,M+2,rfl,by omega,by omega,hrun,hEw,by omega,rfl,hto3.set _ (Nat.le_refl _) hnb' hnc'⟩
end
section
open Go
def endHearM (e:En) (b:List UInt8):En:=if endOk e=false∨b.length > 300 then en0 else hearWM e b
end
section
open Go
theorem RNew.zero {S X:List Blk}:∃r S2,Wk S (.agg zE) (S++X) r S2∧RNew S en0 r S2:=by
 obtain ⟨r,S2,h1,b',c',rfl,h2⟩:=fin_new (S:=S) (S1:=S++X) (r:=enV .nils .nils en0) (e:=en0) rfl rfl ((Upd.refl _ _).app _) rfl rfl
 have hz:Wk S (.agg zE) (S++X) (.agg [.bool false,.nils,.int .i64 0,.nils,.int .i64 0,.str [],.nils,.int .i64 0,.int .i64 0,.nils,.bool false]) (S++X):=Wk.refl _ _ _
 have he:Wk S (.agg zE) (S++X) (enV .nils .nils en0) (S++X):=by
  intro G0 w0 G w c hR0 hE hv hR
  refine ⟨G,?_,hR,hE⟩
  cases hv with
  | agg hl hr ho =>
   refine .agg hl (fun i v u hv hu=>?_) ho
   have hi:i < 11:=by
    have:=List.getElem?_eq_some_iff.1 hv
    simpa [enC,enV] using this.1
   have hz:zE[i]?=some (zE[i]'(by simpa [zE] using hi)):=List.getElem?_eq_getElem _
   have hr':=hr i _ u hz hu
   have:i=0∨i=1∨i=2∨i=3∨i=4∨i=5∨i=6∨i=7∨i=8∨i=9∨i=10:=by omega
   rcases this with rfl | rfl | rfl | rfl | rfl | rfl | rfl | rfl | rfl | rfl | rfl <;> simp only [enC,en0,List.map_nil,List.getElem?_cons_zero,List.getElem?_cons_succ,Option.some.injEq] at hv <;> subst hv <;> first | exact hr' | exact eraseC_ok hr'
 exact ⟨_,_,he.trans h1,b',c',rfl,h2⟩
theorem EnNew.set {S:List Blk} {e:En} {b c:Nat} {S':List Blk} (h:EnNew S e b c S') {j:Nat} (B:Blk) (hj:S.length≤j) (h1:b≠j) (h2:c≠j):EnNew S e b c (S'.set j B) :=
 ⟨⟨by rw [get_set_ne (Ne.symm h1)]; exact h.at_.1,by rw [get_set_ne (Ne.symm h2)]; exact h.at_.2⟩,h.hb,h.hc,h.upd.set B (.inl hj)⟩
theorem EnNew.appR {S:List Blk} {e:En} {b c:Nat} {S':List Blk} (h:EnNew S e b c S') (X:List Blk):EnNew S e b c (S'++X):=⟨h.at_.app X,h.hb,h.hc,h.upd.app X⟩
theorem endOk_w {e:En} (h:endOk e=true):EnW 60 e:=endOk_iff.1 h
theorem sEndHear_ok {e:En} (he:EnB e) (bs:List UInt8) (hbs:bs.length≤1100000) {S:List Blk} {b c:Nat} (h:EnAt S b c e):VCall Tryz.prog 8 [eV b c e,.str bs] S fun r S'=>RNew S (endHearM e bs) r S':=by
 have hok:=fun X=>sEndOk_at he (h.app X)
 have hcp:=fun X=>l21Copy_ok he (h.app X)
 have hwn:=he.wait
 have hcm:=he.came
 refine VCall.en hDe Tryz.func8 Tryz.ntmps8 Tryz.results8 ?_
 simp -implicitDefEqProofs (disch:=omega) only [push_cast,simprocAttr,↓gd]
 refine ((hok _).as (by simp [eV,enV,enC])).to ?_
 cases hE:endOk e
 ·rw [endHearM,if_pos (.inl hE)]
  simp -implicitDefEqProofs (disch:=omega) only [push_cast,simprocAttr,↓gd]
  exact RNew.zero
 ·by_cases h3:(bs.length:Int) > 300
  ·rw [endHearM,if_pos (.inr (by omega))]
   simp -implicitDefEqProofs (disch:=omega) only [push_cast,simprocAttr,h3,↓gd]
   exact RNew.zero
  ·rw [endHearM,if_neg (by rintro (q | q); rw [hE] at q; cases q; omega),hearWM]
   have fin:∀{b' c' S'},EnNew (S++[.cells 0 (enC (.heap b e.strs.length) (.heap c e.wait.length) e),.cells 0 zE]) e b' c' S'→∃r S2,Wk S (eV b' c' e) (S'.set (S.length+1) (.cells 0 (enC (.heap b' e.strs.length) (.heap c' e.wait.length) e))) r S2∧RNew S e r S2:=by
    intro b' c' S' hn
    refine ⟨_,_,Wk.refl _ _ _,b',c',rfl,hn.app.set _ (by omega) ?_ ?_⟩
    ·have:=hn.hb; simp at this; omega
    ·have:=hn.hc; simp at this; omega
   rcases Bool.eq_false_or_eq_true e.bad with hbad | hbad
   ·rw [if_pos (.inl hbad)]
    simp -implicitDefEqProofs (disch:=omega) only [push_cast,simprocAttr,h3,hbad,↓gd]
    refine ((hcp _).as (by simp [eV,enV,enC,hbad])).mono ?_
    rintro r S' ⟨b',c',rfl,hn⟩
    have k0:S'[S.length+1]?=some (.cells 0 zE):=hn.upd.get (by simp -implicitDefEqProofs (disch:=omega) only [push_cast,simprocAttr,↓gd]) (by simp)
    have l0:=lt_of_some k0
    have hf:=fin (b':=b') (c':=c') (S':=S') (by simpa [enC,hbad,zE] using hn)
    simp -implicitDefEqProofs (disch:=omega) only [push_cast,simprocAttr,k0,↓gd]
    simpa [eV,enV,enC] using hf
   ·by_cases h4:(e.came.length:Int)+bs.length > 300
    ·rw [if_pos (.inr (.inl (by omega)))]
     simp -implicitDefEqProofs (disch:=omega) only [push_cast,simprocAttr,h3,hbad,h4,↓gd]
     refine ((hcp _).as (by simp [eV,enV,enC,hbad])).mono ?_
     rintro r S' ⟨b',c',rfl,hn⟩
     have k0:S'[S.length+1]?=some (.cells 0 zE):=hn.upd.get (by simp -implicitDefEqProofs (disch:=omega) only [push_cast,simprocAttr,↓gd]) (by simp)
     have l0:=lt_of_some k0
     have hf:=fin (b':=b') (c':=c') (S':=S') (by simpa [enC,hbad,zE] using hn)
     simp -implicitDefEqProofs (disch:=omega) only [push_cast,simprocAttr,k0,↓gd]
     simpa [eV,enV,enC] using hf
    ·by_cases h5:(e.wait.length:Int) > 40
     ·rw [if_pos (.inr (.inr (by omega)))]
      simp -implicitDefEqProofs (disch:=omega) only [push_cast,simprocAttr,h3,hbad,h4,h5,↓gd]
      refine ((hcp _).as (by simp [eV,enV,enC,hbad])).mono ?_
      rintro r S' ⟨b',c',rfl,hn⟩
      have k0:S'[S.length+1]?=some (.cells 0 zE):=hn.upd.get (by simp -implicitDefEqProofs (disch:=omega) only [push_cast,simprocAttr,↓gd]) (by simp)
      have l0:=lt_of_some k0
      have hf:=fin (b':=b') (c':=c') (S':=S') (by simpa [enC,hbad,zE] using hn)
      simp -implicitDefEqProofs (disch:=omega) only [push_cast,simprocAttr,k0,↓gd]
      simpa [eV,enV,enC] using hf
     ·rw [if_neg (by rw [hbad]; rintro (q | q | q); cases q; omega; omega)]
      simp -implicitDefEqProofs (disch:=omega) only [push_cast,simprocAttr,h3,hbad,h4,h5,↓gd]
      refine ((hcp _).as (by simp [eV,enV,enC,hbad])).mono ?_
      rintro r S' ⟨b',c',rfl,hn⟩
      have k0:S'[S.length+1]?=some (.cells 0 zE):=hn.upd.get (by simp -implicitDefEqProofs (disch:=omega) only [push_cast,simprocAttr,↓gd]) (by simp)
      have l0:=lt_of_some k0
      simp -implicitDefEqProofs (disch:=omega) only [push_cast,simprocAttr,↓gd]
      refine ((l21Hear_ok (bs:=bs) (endOk_w hE) (by decide) (by omega) hn.at_).as (by simp [eV,enV,enC])).mono ?_
      rintro r S2 ⟨b2,c2,rfl,hto⟩
      have hbb:=hn.hb; have hcc:=hn.hc
      simp at hbb hcc
      have k0':=hto.upd.get k0 (by simp; omega)
      have l0':=lt_of_some k0'
      have hn2:=(hn.to hto).app
      generalize hearM e bs=y at *
      simp -implicitDefEqProofs (disch:=omega) only [push_cast,simprocAttr,k0',↓gd]
      refine ⟨_,_,Wk.refl _ _ _,b2,c2,rfl,hn2.set (j:=S.length+1) _ (by omega) ?_ ?_⟩
      ·exact cells_ne hto.at_.1 k0' (by decide)
      ·exact cells_ne hto.at_.2 k0' (by decide)
end
section
open Go
theorem EnAt.set {S:List Blk} {b c:Nat} {e:En} (h:EnAt S b c e) {j:Nat} (B:Blk) (h1:b≠j) (h2:c≠j):EnAt (S.set j B) b c e:=⟨by rw [get_set_ne (Ne.symm h1)]; exact h.1,by rw [get_set_ne (Ne.symm h2)]; exact h.2⟩
end
section
open Go
theorem frmsC_in {S:List Blk} {c:Nat} {l:List Fr} (hc:S[c]?=some (.cells 4 (frmsC l))) (X:List Blk):(S++X)[c]?=some (.cells 4 (frmsC l)):=by
 rw [List.getElem?_append_left (lt_of_some hc)]; exact hc
theorem IndexFuncF_ok (l:List Fr) (fid:Nat) (caps:List V) (p:Fr→Bool) (hlen:l.length≤2000000) {c:Nat} (S:List Blk) (hc:S[c]?=some (.cells 4 (frmsC l))) (hp:∀g ∈ l,VCall Tryz.prog fid (eraseArgs (frV g :: caps)) S fun r S'=>r=.bool (p g)∧S'=S) :
  VCall Tryz.prog 123 [.heap c l.length,.fn fid caps] S fun r S'=>r=.int .i64 (if l.any p then (l.findIdx p:Int) else -1)∧S'=S:=by
 have hlw:=frmsC_len l
 refine VCall.en hDe Tryz.func123 Tryz.ntmps123 Tryz.results123 ?_
 simp -implicitDefEqProofs (maxSteps:=1000000) (disch:=omega) only [push_cast,simprocAttr,↓gd]
 refine wpV_loop (fun m t S'=>∃i:Nat,m=l.length - i∧i≤l.length∧(l.take i).any p=false∧t 0=.heap c l.length∧t 1=.fn fid caps∧t 7=.int .i64 l.length∧t 8=.int .i64 i∧S'=S) l.length ⟨0,by omega,by omega,by simp,rfl,rfl,rfl,rfl,rfl⟩ ?_
 rintro m t S' ⟨i,rfl,hi,hno,h0,h1,h7,h8,rfl⟩
 refine wpV_of0 hDe ?_
 simp -implicitDefEqProofs (maxSteps:=1000000) (disch:=omega) only [push_cast,simprocAttr,h0,h1,h7,h8,↓gd]
 refine ⟨fun h=>?_,fun h=>?_⟩
 ·have hil:i < l.length:=by omega
  have hat:=frmsC_at hil
  have hpf:=hp _ (getD_memF hil)
  have htk:=take_fr hil
  have hfi:p (l.getD i fr0)=true→l.findIdx p=i:=fun q=>by
   rw [getD_lt fr0 hil] at q
   rw [List.findIdx_eq hil]
   refine ⟨q,fun j hj=>?_⟩
   have:=List.any_eq_false.1 hno l[j] (by rw [List.mem_take_iff_getElem]; exact ⟨j,by omega,rfl⟩)
   simpa using this
  have han:p (l.getD i fr0)=true→l.any p=true:=fun q=>List.any_eq_true.2 ⟨_,getD_memF hil,q⟩
  generalize l.getD i fr0=f at *
  simp -implicitDefEqProofs (maxSteps:=1000000) (disch:=omega) only [push_cast,simprocAttr,h0,h1,h7,h8,hc,hat,↓gd]
  repeat refine And.intro (by omega) ?_
  refine (hpf.as rfl).to ?_
  cases hpv:p f
  ·simp -implicitDefEqProofs (maxSteps:=1000000) (disch:=omega) only [push_cast,simprocAttr,h0,h1,h7,h8,↓gd]
   refine ⟨l.length - (i+1),by omega,i+1,rfl,by omega,?_,by simp⟩
   rw [htk,List.any_append,hno]; simp [hpv]
  ·simp -implicitDefEqProofs (maxSteps:=1000000) (disch:=omega) only [push_cast,simprocAttr,h0,h1,h7,h8,↓gd]
   exact fin0 (by rw [han hpv,hfi hpv]; rfl)
 ·have:i=l.length:=by omega
  subst this
  rw [List.take_length] at hno
  exact fin0 (by rw [hno]; rfl)
theorem ContainsFuncF_ok (l:List Fr) (fid:Nat) (caps:List V) (p:Fr→Bool) (hlen:l.length≤2000000) {c:Nat} (S:List Blk) (hc:S[c]?=some (.cells 4 (frmsC l))) (hp:∀g ∈ l,VCall Tryz.prog fid (eraseArgs (frV g :: caps)) S fun r S'=>r=.bool (p g)∧S'=S) :
  VCall Tryz.prog 84 [.heap c l.length,.fn fid caps] S fun r S'=>r=.bool (l.any p)∧S'=S:=by
 refine VCall.en hDe Tryz.func84 Tryz.ntmps84 Tryz.results84 ?_
 simp -implicitDefEqProofs (maxSteps:=1000000) (disch:=omega) only [push_cast,simprocAttr,↓gd]
 refine (IndexFuncF_ok l fid caps p hlen S hc hp).to ?_
 cases h:l.any p
 ·simp -implicitDefEqProofs (maxSteps:=1000000) (disch:=omega) only [push_cast,simprocAttr,↓gd]
  exact fin0 rfl
 ·simp -implicitDefEqProofs (maxSteps:=1000000) (disch:=omega) only [push_cast,simprocAttr,↓gd]
  exact fin0 (by simp)
theorem endOk1_ok (f:Fr) (S:List Blk):VCall Tryz.prog 85 [frV f] S fun r S'=>r=.bool (!frameOk f)∧S'=S:=by
 refine VCall.en hD Tryz.func85 Tryz.ntmps85 Tryz.results85 ?_
 simp -implicitDefEqProofs (maxSteps:=1000000) (disch:=omega) only [push_cast,simprocAttr,↓gd]
 refine ((FrameOk_ok f _).as rfl).to ?_
 simp -implicitDefEqProofs (maxSteps:=1000000) (disch:=omega) only [push_cast,simprocAttr,↓gd]
 exact fin1 (.bool _) rfl
theorem EndOk_ok {e:En} (he:EnB e) {S:List Blk} {b c:Nat} (h:EnAt S b c e):VCall Tryz.prog 41 [eV b c e] S fun r S'=>r=.bool (endOk e)∧S'=S:=by
 obtain ⟨hb,hc⟩:=h
 have hbl:=lt_of_some hb
 have hcl:=lt_of_some hc
 have hlen:=strsC_len e.strs
 have hel:=he.len
 have hwn:=he.wait
 refine VCall.ex hDe (fun _=>false) (fun id=>if id=4 then [2,2,35,35,35,35,35,35,35,35,35,35,35,35,35,35,35,35,35,35,35,35,35,35,35,35,35,35,35,35,35,35,35,35,35,38,38,38] else []) Tryz.func41 Tryz.ntmps41 Tryz.results41 ?_
 simp -implicitDefEqProofs (maxSteps:=1000000) (disch:=omega) only [push_cast,simprocAttr,↓gd]
 refine wpV_loop (fun m t S1=>∃(i:Nat) (X:List Blk),m=e.strs.length - i∧i≤e.strs.length∧(∀j,j < i→okAt e.ans e.strs j=true)∧t 1=.ptr S.length 0∧t 6=.heap b e.strs.length∧t 7=.int .i64 e.strs.length∧t 8=.int .i64 i ∧
  S1=S++([.cells 0 (enC (.heap b e.strs.length) (.heap c e.wait.length) e)]++X)) e.strs.length
  ⟨0,[],by omega,by omega,by omega,rfl,rfl,rfl,rfl,rfl⟩ ?_
 rintro m t S1 ⟨i,X,rfl,hi,hok,h1,h6,h7,h8,rfl⟩
 refine wpV_of hDe (fun _=>false) (fun id=>if id=4 then [2,2,35,35,35,35,35,35,35,35,35,35,35,35,35,35,35,35,35,35,35,35,35,35,35,35,35,35,35,35,35,35,35,35,35,38,38,38] else []) (by kernel_rfl) ?_
 simp -implicitDefEqProofs (maxSteps:=1000000) (disch:=omega) only [push_cast,simprocAttr,h1,h6,h7,h8,↓gd]
 refine ⟨fun h=>?_,fun h=>?_⟩
 ·have hil:i < e.strs.length:=by omega
  have hat:=strsC_at hil
  have hid:=strsC_id hil
  have hsb:=he.sts _ (getD_memS hil)
  have bad:okAt e.ans e.strs i=false→endOk e=false:=fun q=>endOk_bad hil q
  have hx:okAt e.ans e.strs i=(stOk (e.strs.getD i st0) && (decide (i=0) || decide ((e.strs.getD (i - 1) st0).id < (e.strs.getD i st0).id)) && (e.ans || decide ((e.strs.getD i st0).id=2 * i+1))):=rfl
  have hid':∀_:0 < i,(strsC e.strs)[(i - 1) * 12]?=some (.int .i64 (e.strs.getD (i - 1) st0).id):=fun q=>strsC_id (l:=e.strs) (i:=i - 1) (by omega)
  generalize e.strs.getD i st0=s at hat hid hsb hx
  generalize e.strs.getD (i - 1) st0=p at hid' hx
  simp -implicitDefEqProofs (maxSteps:=1000000) (disch:=omega) only [push_cast,simprocAttr,h1,h6,h7,h8,hb,hat,hid,↓gd]
  repeat refine And.intro (by omega) ?_
  refine (isStream_ok s.id _).to ?_
  cases hs:strmOk s.id
  ·simp -implicitDefEqProofs (maxSteps:=1000000) (disch:=omega) only [push_cast,simprocAttr,h1,h6,h7,h8,hb,hat,hid,↓gd]
   exact fin1 (.bool _) (by rw [bad (by rw [hx,stOk,hs]; rfl)])
  have okf:stOk s=true→(i=0∨p.id < s.id)→(e.ans=true∨s.id=2 * (i:Int)+1)→okAt e.ans e.strs i=true:=fun q1 q2 q3=>by
   have a2:(decide (i=0) || decide (p.id < s.id))=true:=by rcases q2 with q | q <;> simp [q]
   have a3:(e.ans || decide (s.id=2 * (i:Int)+1))=true:=by
    rcases q3 with q | q
    ·simp [q]
    ·rw [decide_eq_true q]; simp
   rw [hx,q1,a2,a3]; rfl
  have next:∀(a:Bool) (B:Blk) (Y:List Blk),e.ans=a→okAt e.ans e.strs i=true→∃m',m' < e.strs.length - i∧∃(i':Nat) (X':List Blk),m'=e.strs.length - i'∧i'≤e.strs.length∧(∀j,j < i'→okAt a e.strs j=true) ∧
    V.int .i64 ((i:Int)+1)=.int .i64 (i':Nat)∧S++B :: (X++Y)=S++B :: X':=fun a B Y ea q =>
   ⟨e.strs.length - (i+1),by omega,i+1,X++Y,rfl,by omega,fun j hj=>by
    subst ea
    by_cases ej:j=i
    ·rw [ej]; exact q
    ·exact hok j (by omega),by simp,rfl⟩
  have fstrm:=fun X=>streamOk_ok s hsb hs X
  by_cases h0:i=0
  ·have hip:¬(i:Int) > 0:=by omega
   rcases Bool.eq_false_or_eq_true e.ans with ha | ha
   ·simp -implicitDefEqProofs (maxSteps:=1000000) (disch:=omega) only [push_cast,simprocAttr,h1,h6,h7,h8,hb,hat,hid,hip,ha,↓gd]
    refine ((fstrm _).as rfl).to ?_
    cases hso:stOk s
    ·simp -implicitDefEqProofs (maxSteps:=1000000) (disch:=omega) only [push_cast,simprocAttr,h1,h6,h7,h8,↓gd]
     exact fin1 (.bool _) (by rw [bad (by rw [hx,hso]; rfl)])
    ·simp -implicitDefEqProofs (maxSteps:=1000000) (disch:=omega) only [push_cast,simprocAttr,h1,h6,h7,h8,↓gd]
     exact next _ _ _ ha (okf hso (.inl h0) (.inl ha))
   ·by_cases h1d:s.id=2 * (i:Int)+1
    ·have hd:=eq_true h1d
     simp -implicitDefEqProofs (maxSteps:=1000000) (disch:=omega) only [push_cast,simprocAttr,h1,h6,h7,h8,hb,hat,hid,hip,ha,hd,↓gd]
     repeat refine And.intro (by omega) ?_
     refine ((fstrm _).as rfl).to ?_
     cases hso:stOk s
     ·simp -implicitDefEqProofs (maxSteps:=1000000) (disch:=omega) only [push_cast,simprocAttr,h1,h6,h7,h8,↓gd]
      exact fin1 (.bool _) (by rw [bad (by rw [hx,hso]; rfl)])
     ·simp -implicitDefEqProofs (maxSteps:=1000000) (disch:=omega) only [push_cast,simprocAttr,h1,h6,h7,h8,↓gd]
      exact next _ _ _ ha (okf hso (.inl h0) (.inr h1d))
    ·simp -implicitDefEqProofs (maxSteps:=1000000) (disch:=omega) only [push_cast,simprocAttr,h1,h6,h7,h8,hb,hat,hid,hip,ha,h1d,↓gd]
     repeat refine And.intro (by omega) ?_
     exact fin1 (.bool _) (by rw [bad (by rw [hx,ha,decide_eq_false h1d]; simp)])
  ·have hip:(i:Int) > 0:=by omega
   have hi0:((i:Int) - 1).toNat=i - 1:=by omega
   have hid':=hid' (by omega)
   by_cases hlt:s.id≤p.id
   ·simp -implicitDefEqProofs (maxSteps:=1000000) (disch:=omega) only [push_cast,simprocAttr,h1,h6,h7,h8,hb,hat,hid,hip,hid',hi0,hlt,↓gd]
    repeat refine And.intro (by omega) ?_
    exact fin1 (.bool _) (by rw [bad (by rw [hx,decide_eq_false h0,decide_eq_false (by omega:¬p.id < s.id)]; simp)])
   ·rcases Bool.eq_false_or_eq_true e.ans with ha | ha
    ·simp -implicitDefEqProofs (maxSteps:=1000000) (disch:=omega) only [push_cast,simprocAttr,h1,h6,h7,h8,hb,hat,hid,hip,hid',hi0,hlt,ha,↓gd]
     repeat refine And.intro (by omega) ?_
     refine ((fstrm _).as rfl).to ?_
     cases hso:stOk s
     ·simp -implicitDefEqProofs (maxSteps:=1000000) (disch:=omega) only [push_cast,simprocAttr,h1,h6,h7,h8,↓gd]
      exact fin1 (.bool _) (by rw [bad (by rw [hx,hso]; rfl)])
     ·simp -implicitDefEqProofs (maxSteps:=1000000) (disch:=omega) only [push_cast,simprocAttr,h1,h6,h7,h8,↓gd]
      exact next _ _ _ ha (okf hso (.inr (by omega)) (.inl ha))
    ·by_cases h1d:s.id=2 * (i:Int)+1
     ·have hd:=eq_true h1d
      simp -implicitDefEqProofs (maxSteps:=1000000) (disch:=omega) only [push_cast,simprocAttr,h1,h6,h7,h8,hb,hat,hid,hip,hid',hi0,hlt,ha,hd,↓gd]
      repeat refine And.intro (by omega) ?_
      refine ((fstrm _).as rfl).to ?_
      cases hso:stOk s
      ·simp -implicitDefEqProofs (maxSteps:=1000000) (disch:=omega) only [push_cast,simprocAttr,h1,h6,h7,h8,↓gd]
       exact fin1 (.bool _) (by rw [bad (by rw [hx,hso]; rfl)])
      ·simp -implicitDefEqProofs (maxSteps:=1000000) (disch:=omega) only [push_cast,simprocAttr,h1,h6,h7,h8,↓gd]
       exact next _ _ _ ha (okf hso (.inr (by omega)) (.inr h1d))
     ·simp -implicitDefEqProofs (maxSteps:=1000000) (disch:=omega) only [push_cast,simprocAttr,h1,h6,h7,h8,hb,hat,hid,hip,hid',hi0,hlt,ha,h1d,↓gd]
      repeat refine And.intro (by omega) ?_
      exact fin1 (.bool _) (by rw [bad (by rw [hx,ha,decide_eq_false h1d]; simp)])
 ·have:i=e.strs.length:=by omega
  subst this
  have hsts:stsOk e.ans e.strs=true:=by rw [stsOk,List.all_eq_true]; exact fun j hj=>hok j (List.mem_range.1 hj)
  have hE:endOk e=(e.wait.all frameOk && tableOk e.out e.outM && tableOk e.inn e.innM && flowOk e.send e.room && decide (e.came.length≤600) && decide (e.wait.length≤60)):=by
   simp only [endOk,hsts,Bool.true_and]
  by_cases hw:(e.wait.length:Int)≤60
  ·simp -implicitDefEqProofs (maxSteps:=1000000) (disch:=omega) only [push_cast,simprocAttr,h1,hc,hw,↓gd]
   have hcf:=fun X=>ContainsFuncF_ok e.wait 85 [] (fun f=>!frameOk f) (by omega) (c:=c) (S++X) (frmsC_in hc X) (fun g hg=>(endOk1_ok g _).as rfl)
   refine ((hcf _).as rfl).to ?_
   have hany:e.wait.any (fun f=>!frameOk f)=!e.wait.all frameOk:=by
    rw [List.all_eq_not_any_not,Bool.not_not]
   rw [hany]
   cases hall:e.wait.all frameOk
   ·simp -implicitDefEqProofs (maxSteps:=1000000) (disch:=omega) only [push_cast,simprocAttr,h1,↓gd]
    exact fin1 (.bool _) (by rw [hE,hall]; rfl)
   by_cases hcm:(e.came.length:Int)≤600
   ·simp -implicitDefEqProofs (maxSteps:=1000000) (disch:=omega) only [push_cast,simprocAttr,h1,hcm,↓gd]
    refine ((TableOk_ok e.out e.outM he.out _).as rfl).to ?_
    cases ht1:tableOk e.out e.outM
    ·simp -implicitDefEqProofs (maxSteps:=1000000) (disch:=omega) only [push_cast,simprocAttr,h1,↓gd]
     exact fin1 (.bool _) (by rw [hE,ht1]; simp)
    simp -implicitDefEqProofs (maxSteps:=1000000) (disch:=omega) only [push_cast,simprocAttr,h1,↓gd]
    refine ((TableOk_ok e.inn e.innM he.inn _).as rfl).to ?_
    cases ht2:tableOk e.inn e.innM
    ·simp -implicitDefEqProofs (maxSteps:=1000000) (disch:=omega) only [push_cast,simprocAttr,h1,↓gd]
     exact fin1 (.bool _) (by rw [hE,ht2]; simp)
    simp -implicitDefEqProofs (maxSteps:=1000000) (disch:=omega) only [push_cast,simprocAttr,h1,↓gd]
    refine ((FlowOk_ok e.send e.room _).as rfl).to ?_
    simp -implicitDefEqProofs (maxSteps:=1000000) (disch:=omega) only [push_cast,simprocAttr,h1,↓gd]
    exact fin1 (.bool _) (by rw [hE,hall,ht1,ht2,decide_eq_true (by omega:e.came.length≤600),decide_eq_true (by omega:e.wait.length≤60)]; simp)
   ·simp -implicitDefEqProofs (maxSteps:=1000000) (disch:=omega) only [push_cast,simprocAttr,h1,hcm,↓gd]
    exact fin1 (.bool _) (by rw [hE]; simp; omega)
  ·simp -implicitDefEqProofs (maxSteps:=1000000) (disch:=omega) only [push_cast,simprocAttr,h1,hw,↓gd]
   exact fin1 (.bool _) (by rw [hE]; simp; omega)
end
end Go.Proofs.YtldogccmhncnoaaGreatDoor
