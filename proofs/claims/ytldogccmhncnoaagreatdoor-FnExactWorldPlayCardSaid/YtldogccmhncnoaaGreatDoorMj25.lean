/- A part of the proof: contracts of functions, or plain facts on which these lean. -/
import Derived.Test.YtldogccmhncnoaaGreatDoorMj20
import Derived.Test.YtldogccmhncnoaaGreatDoorMj24
namespace Go.Proofs.YtldogccmhncnoaaGreatDoor
open Go
set_option linter.unusedVariables false
set_option linter.unusedSimpArgs false
set_option maxRecDepth 100000
set_option maxHeartbeats 16000000

section
open Go
theorem frameOk_kinds {f:Fr} (h:frameOk f=true):f.kind=0∨f.kind=1∨f.kind=3∨f.kind=8:=by
 unfold frameOk at h
 split at h
 ·omega
 ·split at h
  ·omega
  ·split at h
   ·omega
   ·cases h
theorem l21Frame_ok {N:Nat} {e:En} (hW:EnW N e) (hN:N≤1100000) {f:Fr} (hf:frameOk f=true) {S:List Blk} {b c:Nat} (h:EnAt S b c e):VCall Tryz.prog 78 [eV b c e,frV f] S fun r S'=>RTo S b c (frameM e f) r S':=by
 have he:=hW.b hN
 have hsts:=hW.sts
 have hkd:=frameOk_kinds hf
 have hfin:∀{X r S' E},RTo (S++X) b c E r S'→RTo S b c E r S':=fun ⟨b',c',h1,h2⟩=>⟨b',c',h1,h2.app⟩
 have kinds:∀k,f.kind=k→frameM e f=if k=1 then headFM e f else if k=0 then dataM e f else if k=8 then moreM e f
  else match atM e.strs f.stream with
   | none=>badM e
   | some k=>if e.ans=false then badM e else setSt e k { stAt e k with state:=3 }:=fun k hk=>by rw [←hk]; rfl
 by_cases k1:f.kind=1
 ·have hcon:=fun X=>l21Head_ok hW hN hf (h.app X)
  rw [kinds 1 k1,if_pos rfl]
  refine VCall.en hDe Tryz.func78 Tryz.ntmps78 Tryz.results78 ?_
  simp -implicitDefEqProofs (disch:=omega) only [push_cast,simprocAttr,k1,↓gd]
  refine ((hcon _).as (by simp [eV,enV,enC,frV,frmC,k1])).mono ?_
  rintro r S' ⟨b',c',rfl,hto⟩
  have hx:=hto.app
  have k0:S'[S.length+2]?=some (.cells 0 zE):=hto.upd.get (by simp -implicitDefEqProofs (disch:=omega) only [push_cast,simprocAttr,↓gd]) (by have:=lt_of_some h.1; have:=lt_of_some h.2; simp; omega)
  have l0:=lt_of_some k0
  generalize headFM e f=E at hto hx
  simp -implicitDefEqProofs (disch:=omega) only [push_cast,simprocAttr,k0,↓gd]
  refine ⟨_,_,Wk.refl _ _ _,b',c',rfl,hx.set _ (by omega) ?_ ?_⟩
  ·exact cells_ne hto.at_.1 k0 (by decide)
  ·exact cells_ne hto.at_.2 k0 (by decide)
 by_cases k2:f.kind=0
 ·have hcon:=fun X=>l21Data_ok hW hN hf k2 (h.app X)
  rw [kinds 0 k2,if_neg (by decide),if_pos rfl]
  refine VCall.en hDe Tryz.func78 Tryz.ntmps78 Tryz.results78 ?_
  simp -implicitDefEqProofs (disch:=omega) only [push_cast,simprocAttr,k2,↓gd]
  refine ((hcon _).as (by simp [eV,enV,enC,frV,frmC,k2])).mono ?_
  rintro r S' ⟨b',c',rfl,hto⟩
  have hx:=hto.app
  have k0:S'[S.length+2]?=some (.cells 0 zE):=hto.upd.get (by simp -implicitDefEqProofs (disch:=omega) only [push_cast,simprocAttr,↓gd]) (by have:=lt_of_some h.1; have:=lt_of_some h.2; simp; omega)
  have l0:=lt_of_some k0
  generalize dataM e f=E at hto hx
  simp -implicitDefEqProofs (disch:=omega) only [push_cast,simprocAttr,k0,↓gd]
  refine ⟨_,_,Wk.refl _ _ _,b',c',rfl,hx.set _ (by omega) ?_ ?_⟩
  ·exact cells_ne hto.at_.1 k0 (by decide)
  ·exact cells_ne hto.at_.2 k0 (by decide)
 by_cases k3:f.kind=8
 ·have hcon:=fun X=>l21More_ok hW hN hf k3 (h.app X)
  rw [kinds 8 k3,if_neg (by decide),if_neg (by decide),if_pos rfl]
  refine VCall.en hDe Tryz.func78 Tryz.ntmps78 Tryz.results78 ?_
  simp -implicitDefEqProofs (disch:=omega) only [push_cast,simprocAttr,k3,↓gd]
  refine ((hcon _).as (by simp [eV,enV,enC,frV,frmC,k3])).mono ?_
  rintro r S' ⟨b',c',rfl,hto⟩
  have hx:=hto.app
  have k0:S'[S.length+2]?=some (.cells 0 zE):=hto.upd.get (by simp -implicitDefEqProofs (disch:=omega) only [push_cast,simprocAttr,↓gd]) (by have:=lt_of_some h.1; have:=lt_of_some h.2; simp; omega)
  have l0:=lt_of_some k0
  generalize moreM e f=E at hto hx
  simp -implicitDefEqProofs (disch:=omega) only [push_cast,simprocAttr,k0,↓gd]
  refine ⟨_,_,Wk.refl _ _ _,b',c',rfl,hx.set _ (by omega) ?_ ?_⟩
  ·exact cells_ne hto.at_.1 k0 (by decide)
  ·exact cells_ne hto.at_.2 k0 (by decide)
 have k4:f.kind=3:=by omega
 rw [kinds 3 k4,if_neg (by decide),if_neg (by decide),if_neg (by decide)]
 clear kinds
 obtain ⟨ans,out,outM,inn,innM,came,strs,snd,rm,wait,bad⟩:=e
 simp only at hsts
 have hne:=h.ne
 have hb:S[b]?=some (.cells 12 (strsC strs)):=h.1
 have hc:S[c]?=some (.cells 4 (frmsC wait)):=h.2
 have hbl:=lt_of_some hb
 have hcl:=lt_of_some hc
 have hlen:=strsC_len strs
 obtain ⟨fk,fl,fs,fb⟩:=f
 simp only at k4 ⊢
 subst k4
 have sbad:∀X,RTo S b c ⟨ans,out,outM,inn,innM,came,strs,snd,rm,wait,true⟩ (eV b c ⟨ans,out,outM,inn,innM,came,strs,snd,rm,wait,true⟩) (S++X):=fun X=>.stay (e:=⟨ans,out,outM,inn,innM,came,strs,snd,rm,wait,true⟩) h
 refine VCall.en hDe Tryz.func78 Tryz.ntmps78 Tryz.results78 ?_
 simp -implicitDefEqProofs (disch:=omega) only [push_cast,simprocAttr,↓gd]
 refine ((l21At_ok he (h.app _) fs).as rfl).to ?_
 cases ha:atM strs fs with
 | none =>
  have hai:atI strs fs=-1:=by rw [atI,ha]
  simp only [badM]
  simp -implicitDefEqProofs (disch:=omega) only [push_cast,simprocAttr,hai,↓gd]
  exact ⟨_,_,Wk.refl _ _ _,sbad _⟩
 | some k =>
  obtain ⟨hk,hid⟩:=atM_some ha
  have hai:atI strs fs=k:=by rw [atI,ha]
  have hk0:¬(k:Int) < 0:=by omega
  cases ans
  ·simp only [badM,if_true]
   simp -implicitDefEqProofs (disch:=omega) only [push_cast,simprocAttr,hai,hk0,↓gd]
   exact ⟨_,_,Wk.refl _ _ _,sbad _⟩
  ·have hput:∀s',strC s'=(strC (strs.getD k st0)).set 1 (.int .i64 3)→splice (strsC strs) (k * 12+1) [.int .i64 3]=strsC (strs.set k s'):=fun s'=>strsC_put hk (by decide)
   simp only [stAt,setSt,Bool.true_eq_false,if_false]
   generalize strs.getD k st0=s at hput
   obtain ⟨sid,sst,shd,ssay,sbg,ssd,ssent,sgot,stx,shrd,ssnd,srm⟩:=s
   have hput:=hput ⟨sid,3,shd,ssay,sbg,ssd,ssent,sgot,stx,shrd,ssnd,srm⟩ rfl
   simp -implicitDefEqProofs (disch:=omega) only [push_cast,simprocAttr,hai,hk0,hb,hput,↓gd]
   repeat refine And.intro (by omega) ?_
   refine ⟨_,_,Wk.refl _ _ _,RTo.mk b c (by simp [eV,enV,enC]) ?_ ?_ (.inl rfl) (.inl rfl) (((Upd.refl _ _).set _ (.inr (by simp))).app _)⟩
   ·simp -implicitDefEqProofs (disch:=omega) only [push_cast,simprocAttr,↓gd]
   ·simp -implicitDefEqProofs (disch:=omega) only [push_cast,simprocAttr,hc,↓gd]
end
section
open Go
theorem hearsM_succ (n:Nat) (e:En):hearsM (n+1) e=if e.bad then e else if (frR e.came).2.2 < 0 then badM e else if (frR e.came).2.2=0 then e else hearsM n (frameM { e with came:=e.came.drop (frR e.came).2.1 } (frR e.came).1):=rfl
theorem l21Hear_ok {N:Nat} {e:En} (hW:EnW N e) (hN:N≤900000) {bs:List UInt8} (hbs:e.came.length+bs.length≤600) {S:List Blk} {b c:Nat} (h:EnAt S b c e):VCall Tryz.prog 36 [eV b c e,.str bs] S fun r S'=>RTo S b c (hearM e bs) r S':=by
 have hW0:EnW N { e with came:=e.came++bs }:=hW.withCame (by rw [List.length_append]; omega)
 have hl0:({ e with came:=e.came++bs }:En).came.length < e.came.length+bs.length+1:=by simp
 have hne:=h.ne
 have hbl:=lt_of_some h.1
 have hcl:=lt_of_some h.2
 have hcame:=hW.came
 have hen0:enC (.heap b e.strs.length) (.heap c e.wait.length) { e with came:=e.came++bs }=[.bool e.ans,.rows none (e.out.map fV),.int .i64 e.outM,.rows none (e.inn.map fV),.int .i64 e.innM,.str (e.came++bs),.heap b e.strs.length,.int .i64 e.send,.int .i64 e.room,.heap c e.wait.length,.bool e.bad]:=rfl
 have h0:EnAt S b c { e with came:=e.came++bs }:=h
 have hs0:({ e with came:=e.came++bs }:En).strs=e.strs∧({ e with came:=e.came++bs }:En).wait=e.wait:=⟨rfl,rfl⟩
 rw [hearM]
 generalize hR:hearsM (e.came.length+bs.length+1) { e with came:=e.came++bs }=R
 refine VCall.en hDe Tryz.func36 Tryz.ntmps36 Tryz.results36 ?_
 simp -implicitDefEqProofs (disch:=omega) only [push_cast,simprocAttr,↓gd]
 refine ⟨by omega,?_⟩
 generalize hE:({ e with came:=e.came++bs }:En)=E at *
 rw [←hen0]
 refine wpV_loop (fun m t S1=>∃(n:Nat) (x:En) (b1 c1 M:Nat),m=x.came.length∧x.came.length < n∧x.came.length≤600∧R=hearsM n x∧EnW M x∧M+2 * x.came.length≤N+1200 ∧
  t 2=.ptr S.length 0∧t 4=.ptr (S.length+1) 0∧S1[S.length]?=some (.cells 0 (enC (.heap b1 x.strs.length) (.heap c1 x.wait.length) x))∧S1[S.length+1]?=some (.cells 0 zE)∧EnTo S b c x b1 c1 S1) E.came.length
  ⟨e.came.length+bs.length+1,E,b,c,N,rfl,hl0,by omega,hR.symm,hW0,by omega,rfl,rfl,by simp -implicitDefEqProofs (disch:=omega) only [push_cast,simprocAttr,hs0.1,hs0.2,↓gd],by simp -implicitDefEqProofs (disch:=omega) only [push_cast,simprocAttr,↓gd],EnTo.stay h0⟩ ?_
 rintro m t S1 ⟨n,x,b1,c1,M,rfl,hn,hx6,hrun,hxW,hM,h2,h4,k0,k1,hto⟩
 clear hR
 have l0:=lt_of_some k0
 have l1:=lt_of_some k1
 refine wpV_of0 hDe ?_
 obtain ⟨n,rfl⟩:∃k,n=k+1:=⟨n - 1,by omega⟩
 rw [hearsM_succ] at hrun
 have hnb:=cells_ne hto.at_.1 k0 (by decide)
 have hnc:=cells_ne hto.at_.2 k0 (by decide)
 have hnb1:=cells_ne hto.at_.1 k1 (by decide)
 have hnc1:=cells_ne hto.at_.2 k1 (by decide)
 rcases Bool.eq_false_or_eq_true x.bad with hbad | hbad
 ·rw [if_pos hbad] at hrun
  rw [hrun]
  simp -implicitDefEqProofs (disch:=omega) only [push_cast,simprocAttr,h2,h4,k0,k1,hbad,↓gd]
  exact ⟨_,_,Wk.refl _ _ _,b1,c1,by simp -implicitDefEqProofs (disch:=omega) only [push_cast,simprocAttr,hbad,↓gd],hto.set _ (by omega) hnb1 hnc1⟩
 ·rw [if_neg (by rw [hbad]; simp)] at hrun
  simp -implicitDefEqProofs (disch:=omega) only [push_cast,simprocAttr,h2,h4,k0,k1,hbad,↓gd]
  refine (l12Read_ok x.came (by omega) _).to ?_
  have hsome:=@frR_some x.came
  generalize hq:frR x.came=q at hrun hsome
  obtain ⟨f,u,is⟩:=q
  simp only at hrun hsome
  by_cases h1:is < 0
  ·rw [if_pos h1] at hrun
   rw [hrun]
   have h1':is≤0:=by omega
   simp -implicitDefEqProofs (disch:=omega) only [push_cast,simprocAttr,h2,h4,k0,k1,h1,h1',↓gd]
   have hto':EnTo S b c (badM x) b1 c1 S1:=⟨hto.at_,hto.hb,hto.hc,hto.upd⟩
   exact ⟨_,_,Wk.refl _ _ _,b1,c1,rfl,((hto'.set _ (Nat.le_refl _) hnb hnc).set _ (by omega) hnb1 hnc1).appR _⟩
  ·rw [if_neg h1] at hrun
   by_cases h0:is=0
   ·subst h0
    rw [if_pos rfl] at hrun
    rw [hrun]
    simp -implicitDefEqProofs (disch:=omega) only [push_cast,simprocAttr,h2,h4,k0,k1,hbad,↓gd]
    exact ⟨_,_,Wk.refl _ _ _,b1,c1,by simp -implicitDefEqProofs (disch:=omega) only [push_cast,simprocAttr,hbad,↓gd],(hto.set _ (by omega) hnb1 hnc1).appR _⟩
   ·rw [if_neg h0] at hrun
    have h1':¬is≤0:=by omega
    obtain ⟨r1,r2,r3,r4⟩:=hsome (by omega)
    have hx':EnW M { x with came:=x.came.drop u }:=hxW.withCame (by rw [List.length_drop]; omega)
    simp -implicitDefEqProofs (disch:=omega) only [push_cast,simprocAttr,h2,h4,k0,k1,h1,h1',List.take_length,↓gd]
    repeat refine And.intro (by omega) ?_
    have hto':EnTo S b c { x with came:=x.came.drop u } b1 c1 S1:=⟨hto.at_,hto.hb,hto.hc,hto.upd⟩
    have htoX:=fun B X=>((hto'.set B (Nat.le_refl _) hnb hnc).appR X)
    refine ((l21Frame_ok hx' (by omega) r1 (htoX _ _).at_).as rfl).mono ?_
    rintro r S2 ⟨b2,c2,rfl,hto2⟩
    have k0':=hto2.upd.get (j:=S.length) (B:=.cells 0 (enC (.heap b1 x.strs.length) (.heap c1 x.wait.length) { x with came:=x.came.drop u })) (by simp -implicitDefEqProofs (disch:=omega) only [push_cast,simprocAttr,↓gd]) (by simp; omega)
    have k1':=hto2.upd.get (j:=S.length+1) (B:=.cells 0 zE) (by simp -implicitDefEqProofs (disch:=omega) only [push_cast,simprocAttr,k1,↓gd]) (by simp; omega)
    have l0':=lt_of_some k0'
    have hEw:=frameM_w hx' r1
    have hcl:(frameM { x with came:=x.came.drop u } f).came.length=x.came.length - u:=by rw [frameM_came,List.length_drop]
    have hto3:=(htoX _ _).trans hto2
    generalize frameM { x with came:=x.came.drop u } f=y at *
    have hnb':=cells_ne hto2.at_.1 k0' (by decide)
    have hnc':=cells_ne hto2.at_.2 k0' (by decide)
    simp -implicitDefEqProofs (disch:=omega) only [push_cast,simprocAttr,h2,h4,k0',k1',↓gd]
    exact ⟨y.came.length,by omega,n,y,b2,c2,M+2,rfl,by omega,by omega,hrun,hEw,by omega,rfl,hto3.set _ (Nat.le_refl _) hnb' hnc'⟩
end
section
open Go
def endWriteM (e:En):En × List UInt8:=if endOk e=false then (en0,[]) else if e.bad then (e,[]) else writeM e
def endLeaveM (e:En) (id:Int):En × Bool:=if endOk e=false then (en0,false) else leaveM e id
def endCallM (e:En) (path text:List UInt8):En × Int × Bool:=if endOk e=false then (en0,0,false) else callM e path text
def endHearM (e:En) (b:List UInt8):En:=if endOk e=false∨b.length > 300 then en0 else hearWM e b
def wo0:Wo:=⟨en0,en0,[],[]⟩
def worldPlayM (l:List Ev):Wo × Bool:=if l.length > 60 then (wo0,false) else (playM l,true)
end
section
open Go
def Plain:V→Prop
 | .int _ _ | .bool _ | .str _=>True
 | _=>False
theorem Plain.vr {x:V} (h:Plain x) {G G':Gh} {w w':World} {c:Value} (hv:VR G w x c):VR G' w' x c:=by
 cases hv <;> first | exact .int _ _ | exact .bool _ | exact .str _ | exact h.elim
theorem Wk.fst {S0 S S':List Blk} {r r':V} {xs:List V} (hx:∀x ∈ xs,Plain x) (h:Wk S0 r S r' S'):Wk S0 (.tup (r :: xs)) S (.tup (r' :: xs)) S':=by
 intro G0 w0 G w c h0 hE hv hR
 cases hv with
 | @tup _ c hl hr =>
  have hsz:0 < c.size:=by rw [←hl]; simp
  obtain ⟨G',h1,h2,h3⟩:=h G0 w0 G w c[0] h0 hE (hr 0 r c[0] rfl (Array.getElem?_eq_getElem hsz)) hR
  refine ⟨G',.tup hl (fun i v u hv hu=>?_),h2,h3⟩
  cases i with
  | zero =>
   cases hv
   rw [Array.getElem?_eq_getElem hsz] at hu
   cases hu
   exact h1
  | succ i=>exact (hx v (List.mem_of_getElem? hv)).vr (hr (i+1) v u hv hu)
theorem RNew.zero {S X:List Blk}:∃r S2,Wk S (.agg zE) (S++X) r S2∧RNew S en0 r S2:=by
 obtain ⟨r,S2,h1,b',c',rfl,h2⟩:=fin_new (S:=S) (S1:=S++X) (r:=enV .nils .nils en0) (e:=en0) rfl rfl ((Upd.refl _ _).app _) rfl rfl
 have hz:Wk S (.agg zE) (S++X) (.agg [.bool false,.nils,.int .i64 0,.nils,.int .i64 0,.str [],.nils,.int .i64 0,.int .i64 0,.nils,.bool false]) (S++X):=Wk.refl _ _ _
 have he:Wk S (.agg zE) (S++X) (enV .nils .nils en0) (S++X):=by
  intro G0 w0 G w c hR0 hE hv hR
  refine ⟨G,?_,hR,hE⟩
  cases hv with
  | agg hl hr ho =>
   refine .agg hl (fun i v u hv hu=>?_) ho
   have hi:i < 11:=by
    have:=List.getElem?_eq_some_iff.1 hv
    simpa [enC,enV] using this.1
   have hz:zE[i]?=some (zE[i]'(by simpa [zE] using hi)):=List.getElem?_eq_getElem _
   have hr':=hr i _ u hz hu
   have:i=0∨i=1∨i=2∨i=3∨i=4∨i=5∨i=6∨i=7∨i=8∨i=9∨i=10:=by omega
   rcases this with rfl | rfl | rfl | rfl | rfl | rfl | rfl | rfl | rfl | rfl | rfl <;> simp only [enC,en0,List.map_nil,List.getElem?_cons_zero,List.getElem?_cons_succ,Option.some.injEq] at hv <;> subst hv <;> first | exact hr' | exact eraseC_ok hr'
 exact ⟨_,_,he.trans h1,b',c',rfl,h2⟩
theorem EnNew.set {S:List Blk} {e:En} {b c:Nat} {S':List Blk} (h:EnNew S e b c S') {j:Nat} (B:Blk) (hj:S.length≤j) (h1:b≠j) (h2:c≠j):EnNew S e b c (S'.set j B) :=
 ⟨⟨by rw [get_set_ne (Ne.symm h1)]; exact h.at_.1,by rw [get_set_ne (Ne.symm h2)]; exact h.at_.2⟩,h.hb,h.hc,h.upd.set B (.inl hj)⟩
theorem EnNew.appR {S:List Blk} {e:En} {b c:Nat} {S':List Blk} (h:EnNew S e b c S') (X:List Blk):EnNew S e b c (S'++X):=⟨h.at_.app X,h.hb,h.hc,h.upd.app X⟩
theorem endOk_w {e:En} (h:endOk e=true):EnW 60 e:=endOk_iff.1 h
end
section
open Go
def wC (b c d f:Nat) (w:Wo):List V:=enC (.heap b w.caller.strs.length) (.heap c w.caller.wait.length) w.caller++enC (.heap d w.answerer.strs.length) (.heap f w.answerer.wait.length) w.answerer++[.str w.up,.str w.down]
def wV (b c d f:Nat) (w:Wo):V:=.agg (wC b c d f w)
@[push_cast] theorem wC_eq (b c d f:Nat) (w:Wo):wC b c d f w=enC (.heap b w.caller.strs.length) (.heap c w.caller.wait.length) w.caller++enC (.heap d w.answerer.strs.length) (.heap f w.answerer.wait.length) w.answerer++[.str w.up,.str w.down]:=rfl
@[push_cast] theorem wV_eq (b c d f:Nat) (w:Wo):wV b c d f w=.agg (enC (.heap b w.caller.strs.length) (.heap c w.caller.wait.length) w.caller++enC (.heap d w.answerer.strs.length) (.heap f w.answerer.wait.length) w.answerer++[.str w.up,.str w.down]):=rfl
def zW:List V:=zE++zE++[.str [],.str []]
@[push_cast] theorem zW_eq:zW=zE++zE++[.str [],.str []]:=rfl
structure WoAt (S:List Blk) (b c d f:Nat) (w:Wo):Prop where
 caller:EnAt S b c w.caller
 answerer:EnAt S d f w.answerer
 ne1:b≠d
 ne2:c≠f
theorem WoAt.app {S:List Blk} {b c d f:Nat} {w:Wo} (h:WoAt S b c d f w) (X:List Blk):WoAt (S++X) b c d f w:=⟨h.caller.app X,h.answerer.app X,h.ne1,h.ne2⟩
theorem WoAt.nes {S:List Blk} {b c d f:Nat} {w:Wo} (h:WoAt S b c d f w):b≠c∧d≠f∧b≠f∧c≠d∧b < S.length∧c < S.length∧d < S.length∧f < S.length :=
 ⟨h.caller.ne,h.answerer.ne,cells_ne h.caller.1 h.answerer.2 (by decide),cells_ne h.caller.2 h.answerer.1 (by decide),lt_of_some h.caller.1,lt_of_some h.caller.2,lt_of_some h.answerer.1,lt_of_some h.answerer.2⟩
structure WoNew (S:List Blk) (w:Wo) (b c d f:Nat) (S':List Blk):Prop where
 at_:WoAt S' b c d f w
 hb:S.length≤b
 hc:S.length≤c
 hd:S.length≤d
 hf:S.length≤f
 upd:Upd [] S S'
structure WoTo (S:List Blk) (b c d f:Nat) (w:Wo) (b' c' d' f':Nat) (S':List Blk):Prop where
 at_:WoAt S' b' c' d' f' w
 hb:b'=b∨S.length≤b'
 hc:c'=c∨S.length≤c'
 hd:d'=d∨S.length≤d'
 hf:f'=f∨S.length≤f'
 upd:Upd [b,c,d,f] S S'
def RWNew (S:List Blk) (w:Wo) (v:V) (S':List Blk):Prop:=∃b c d f,v=wV b c d f w∧WoNew S w b c d f S'
def RWTo (S:List Blk) (b c d f:Nat) (w:Wo) (v:V) (S':List Blk):Prop:=∃b' c' d' f',v=wV b' c' d' f' w∧WoTo S b c d f w b' c' d' f' S'
theorem WoTo.stay {S X:List Blk} {b c d f:Nat} {w:Wo} (h:WoAt S b c d f w):WoTo S b c d f w b c d f (S++X):=⟨h.app _,.inl rfl,.inl rfl,.inl rfl,.inl rfl,(Upd.refl _ _).app _⟩
theorem WoTo.trans {S S1 S2:List Blk} {b c d f b1 c1 d1 f1 b2 c2 d2 f2:Nat} {w1 w2:Wo} (h:WoTo S b c d f w1 b1 c1 d1 f1 S1) (k:WoTo S1 b1 c1 d1 f1 w2 b2 c2 d2 f2 S2):WoTo S b c d f w2 b2 c2 d2 f2 S2:=by
 have hl:=h.upd.1
 have h1:=h.hb; have h2:=h.hc; have h3:=h.hd; have h4:=h.hf
 refine ⟨k.at_,?_,?_,?_,?_,h.upd.then_ k.upd fun j hj hm=>?_⟩
 ·rcases k.hb with e | e <;> omega
 ·rcases k.hc with e | e <;> omega
 ·rcases k.hd with e | e <;> omega
 ·rcases k.hf with e | e <;> omega
 ·simp only [List.mem_cons,List.not_mem_nil,or_false] at hm ⊢
  omega
theorem WoNew.to {S S1 S2:List Blk} {b1 c1 d1 f1 b2 c2 d2 f2:Nat} {w1 w2:Wo} (h:WoNew S w1 b1 c1 d1 f1 S1) (k:WoTo S1 b1 c1 d1 f1 w2 b2 c2 d2 f2 S2):WoNew S w2 b2 c2 d2 f2 S2:=by
 have hl:=h.upd.1
 have h1:=h.hb; have h2:=h.hc; have h3:=h.hd; have h4:=h.hf
 refine ⟨k.at_,?_,?_,?_,?_,h.upd.then_ k.upd fun j hj hm=>?_⟩
 ·rcases k.hb with e | e <;> omega
 ·rcases k.hc with e | e <;> omega
 ·rcases k.hd with e | e <;> omega
 ·rcases k.hf with e | e <;> omega
 ·simp only [List.mem_cons,List.not_mem_nil,or_false] at hm
  omega
theorem WoNew.app {S X:List Blk} {w:Wo} {b c d f:Nat} {S':List Blk} (h:WoNew (S++X) w b c d f S'):WoNew S w b c d f S':=by
 have h1:=h.hb; have h2:=h.hc; have h3:=h.hd; have h4:=h.hf
 rw [List.length_append] at h1 h2 h3 h4
 exact ⟨h.at_,by omega,by omega,by omega,by omega,((Upd.refl [] S).app X).then_ h.upd (fun j hj hm=>hm)⟩
theorem WoTo.app {S X:List Blk} {b c d f:Nat} {w:Wo} {b' c' d' f':Nat} {S':List Blk} (h:WoTo (S++X) b c d f w b' c' d' f' S'):WoTo S b c d f w b' c' d' f' S':=by
 have h1:=h.hb; have h2:=h.hc; have h3:=h.hd; have h4:=h.hf
 rw [List.length_append] at h1 h2 h3 h4
 exact ⟨h.at_,by omega,by omega,by omega,by omega,((Upd.refl [b,c,d,f] S).app X).then_ h.upd (fun j hj hm=>hm)⟩
theorem EnAt.set {S:List Blk} {b c:Nat} {e:En} (h:EnAt S b c e) {j:Nat} (B:Blk) (h1:b≠j) (h2:c≠j):EnAt (S.set j B) b c e:=⟨by rw [get_set_ne (Ne.symm h1)]; exact h.1,by rw [get_set_ne (Ne.symm h2)]; exact h.2⟩
theorem WoAt.var {S:List Blk} {b c d f:Nat} {w:Wo} (h:WoAt S b c d f w) {j:Nat} {cs:List V} (hj:S[j]?=some (.cells 0 cs)):b≠j∧c≠j∧d≠j∧f≠j :=
 ⟨cells_ne h.caller.1 hj (by decide),cells_ne h.caller.2 hj (by decide),cells_ne h.answerer.1 hj (by decide),cells_ne h.answerer.2 hj (by decide)⟩
theorem WoAt.set {S:List Blk} {b c d f:Nat} {w:Wo} (h:WoAt S b c d f w) {j:Nat} (B:Blk) (hj:b≠j∧c≠j∧d≠j∧f≠j):WoAt (S.set j B) b c d f w:=⟨h.caller.set B hj.1 hj.2.1,h.answerer.set B hj.2.2.1 hj.2.2.2,h.ne1,h.ne2⟩
theorem WoTo.set {S:List Blk} {b c d f:Nat} {w:Wo} {b' c' d' f':Nat} {S':List Blk} (h:WoTo S b c d f w b' c' d' f' S') {j:Nat} (B:Blk) (hj:S.length≤j) (hn:b'≠j∧c'≠j∧d'≠j∧f'≠j):WoTo S b c d f w b' c' d' f' (S'.set j B) :=
 ⟨h.at_.set B hn,h.hb,h.hc,h.hd,h.hf,h.upd.set B (.inl hj)⟩
theorem WoTo.appR {S:List Blk} {b c d f:Nat} {w:Wo} {b' c' d' f':Nat} {S':List Blk} (h:WoTo S b c d f w b' c' d' f' S') (X:List Blk):WoTo S b c d f w b' c' d' f' (S'++X):=⟨h.at_.app X,h.hb,h.hc,h.hd,h.hf,h.upd.app X⟩
theorem WoNew.set {S:List Blk} {w:Wo} {b' c' d' f':Nat} {S':List Blk} (h:WoNew S w b' c' d' f' S') {j:Nat} (B:Blk) (hj:S.length≤j) (hn:b'≠j∧c'≠j∧d'≠j∧f'≠j):WoNew S w b' c' d' f' (S'.set j B) :=
 ⟨h.at_.set B hn,h.hb,h.hc,h.hd,h.hf,h.upd.set B (.inl hj)⟩
theorem WoNew.appR {S:List Blk} {w:Wo} {b' c' d' f':Nat} {S':List Blk} (h:WoNew S w b' c' d' f' S') (X:List Blk):WoNew S w b' c' d' f' (S'++X):=⟨h.at_.app X,h.hb,h.hc,h.hd,h.hf,h.upd.app X⟩
theorem WoAt.caller_to {S:List Blk} {b c d f:Nat} {w:Wo} (h:WoAt S b c d f w) {e:En} {b' c':Nat} {S':List Blk} (k:EnTo S b c e b' c' S'):WoTo S b c d f { w with caller:=e } b' c' d f S':=by
 obtain ⟨n1,n2,n3,n4,n5,n6,n7,n8⟩:=h.nes
 have n9:=h.ne1; have n10:=h.ne2
 have h1:=k.hb; have h2:=k.hc
 refine ⟨⟨k.at_,h.answerer.upd k.upd (by simp; omega) (by simp; omega),by omega,by omega⟩,k.hb,k.hc,.inl rfl,.inl rfl,k.upd.mono (fun j hj hm=>?_)⟩
 simp only [List.mem_cons,List.not_mem_nil,or_false] at hm ⊢
 omega
theorem WoAt.answerer_to {S:List Blk} {b c d f:Nat} {w:Wo} (h:WoAt S b c d f w) {e:En} {d' f':Nat} {S':List Blk} (k:EnTo S d f e d' f' S'):WoTo S b c d f { w with answerer:=e } b c d' f' S':=by
 obtain ⟨n1,n2,n3,n4,n5,n6,n7,n8⟩:=h.nes
 have n9:=h.ne1; have n10:=h.ne2
 have h1:=k.hb; have h2:=k.hc
 refine ⟨⟨h.caller.upd k.upd (by simp; omega) (by simp; omega),k.at_,by omega,by omega⟩,.inl rfl,.inl rfl,k.hb,k.hc,k.upd.mono (fun j hj hm=>?_)⟩
 simp only [List.mem_cons,List.not_mem_nil,or_false] at hm ⊢
 omega
end
section
open Go
theorem sWorldNew_ok (S:List Blk):VCall Tryz.prog 65 [] S fun r S'=>RWNew S newWo r S':=by
 refine VCall.en hDe Tryz.func65 Tryz.ntmps65 Tryz.results65 ?_
 simp -implicitDefEqProofs (disch:=omega) only [push_cast,simprocAttr,↓gd]
 refine (sEndNew_ok false _).mono ?_
 rintro r S1 ⟨b,c,rfl,h1⟩
 have k0:S1[S.length]?=some (.cells 0 zW):=h1.upd.get (by simp -implicitDefEqProofs (disch:=omega) only [push_cast,simprocAttr,↓gd]) (by simp)
 simp -implicitDefEqProofs (disch:=omega) only [push_cast,simprocAttr,k0,↓gd]
 refine (sEndNew_ok true _).mono ?_
 rintro r S2 ⟨d,f,rfl,h2⟩
 have k0':=h2.upd.get k0 (by simp)
 have l0:=lt_of_some k0'
 have hA:EnAt S2 b c (newEn false):=h1.at_.upd h2.upd (by simp) (by simp)
 simp -implicitDefEqProofs (disch:=omega) only [push_cast,simprocAttr,k0',↓gd]
 have hb1:=h1.hb; have hc1:=h1.hc; have hd1:=h2.hb; have hf1:=h2.hc
 have hbl:=lt_of_some h1.at_.1; have hcl:=lt_of_some h1.at_.2
 have hu:=h1.app.upd.trans h2.upd
 simp at hb1 hc1
 have hl1:=h1.upd.1
 simp at hl1
 refine ⟨_,_,Wk.refl _ _ _,b,c,d,f,rfl,⟨⟨hA.set _ (by omega) (by omega),h2.at_.set _ (by omega) (by omega),by omega,by omega⟩,by omega,by omega,by omega,by omega,hu.set _ (.inl (Nat.le_refl _))⟩⟩
structure WoB (w:Wo):Prop where
 caller:EnB w.caller
 answerer:EnB w.answerer
 up:w.up.length≤1100000
 down:w.down.length≤1100000
theorem WoW.b {N:Nat} {w:Wo} (h:WoW N w) (hN:N≤1100000):WoB w:=⟨h.caller.b hN,h.answerer.b hN,by have:=h.up; omega,by have:=h.down; omega⟩
theorem l22Hear_ok {N:Nat} {e:En} (hW:EnW N e) (hN:N≤900000) {bs:List UInt8} (hbs:bs.length≤1100000) {S:List Blk} {b c:Nat} (h:EnAt S b c e):VCall Tryz.prog 134 [eV b c e,.str bs] S fun r S'=>RTo S b c (hearWM e bs) r S':=by
 have hcm:=hW.came
 have hwn:=hW.len
 refine VCall.en hDe Tryz.func134 Tryz.ntmps134 Tryz.results134 ?_
 rw [hearWM]
 rcases Bool.eq_false_or_eq_true e.bad with hbad | hbad
 ·rw [if_pos (.inl hbad)]
  simp -implicitDefEqProofs (disch:=omega) only [push_cast,simprocAttr,hbad,↓gd]
  exact ⟨_,_,Wk.refl _ _ _,b,c,by simp -implicitDefEqProofs (disch:=omega) only [push_cast,simprocAttr,hbad,↓gd],EnTo.stay h⟩
 ·by_cases h4:(e.came.length:Int)+bs.length > 300
  ·rw [if_pos (.inr (.inl (by omega)))]
   simp -implicitDefEqProofs (disch:=omega) only [push_cast,simprocAttr,hbad,h4,↓gd]
   exact ⟨_,_,Wk.refl _ _ _,b,c,by simp -implicitDefEqProofs (disch:=omega) only [push_cast,simprocAttr,hbad,↓gd],EnTo.stay h⟩
  ·by_cases h5:(e.wait.length:Int) > 40
   ·rw [if_pos (.inr (.inr (by omega)))]
    simp -implicitDefEqProofs (disch:=omega) only [push_cast,simprocAttr,hbad,h4,h5,↓gd]
    exact ⟨_,_,Wk.refl _ _ _,b,c,by simp -implicitDefEqProofs (disch:=omega) only [push_cast,simprocAttr,hbad,↓gd],EnTo.stay h⟩
   ·rw [if_neg (by rw [hbad]; rintro (q | q | q); cases q; omega; omega)]
    have hcon:=fun X=>l21Hear_ok (bs:=bs) hW hN (by omega) (h.app X)
    simp -implicitDefEqProofs (disch:=omega) only [push_cast,simprocAttr,hbad,h4,h5,↓gd]
    refine ((hcon _).as (by simp [eV,enV,enC,hbad])).mono ?_
    rintro r S2 ⟨b2,c2,rfl,hto⟩
    have hbl:=lt_of_some h.1; have hcl:=lt_of_some h.2
    have k0:S2[S.length+1]?=some (.cells 0 zE):=hto.upd.get (by simp -implicitDefEqProofs (disch:=omega) only [push_cast,simprocAttr,↓gd]) (by simp; omega)
    have l0:=lt_of_some k0
    have hx:=hto.app
    generalize hearM e bs=y at *
    simp -implicitDefEqProofs (disch:=omega) only [push_cast,simprocAttr,k0,↓gd]
    exact ⟨_,_,Wk.refl _ _ _,b2,c2,rfl,hx.set _ (by omega) (cells_ne hto.at_.1 k0 (by decide)) (cells_ne hto.at_.2 k0 (by decide))⟩
end
section
open Go
theorem EnNew.toTo {S:List Blk} {e:En} {b' c':Nat} {S':List Blk} (h:EnNew S e b' c' S') (b c:Nat):EnTo S b c e b' c' S':=⟨h.at_,.inr h.hb,.inr h.hc,h.upd.mono (fun _ _ hm=>by cases hm)⟩
theorem WoTo.still {S S':List Blk} {b c d f:Nat} {w:Wo} (h:WoAt S b c d f w) (hu:Upd [] S S'):WoTo S b c d f w b c d f S' :=
 ⟨⟨h.caller.upd hu (by simp) (by simp),h.answerer.upd hu (by simp) (by simp),h.ne1,h.ne2⟩,.inl rfl,.inl rfl,.inl rfl,.inl rfl,hu.mono (fun _ _ hm=>by cases hm)⟩
theorem WoTo.withUp {S:List Blk} {b c d f:Nat} {w:Wo} {b' c' d' f':Nat} {S':List Blk} (h:WoTo S b c d f w b' c' d' f' S') (u v:List UInt8):WoTo S b c d f { w with up:=u,down:=v } b' c' d' f' S':=⟨⟨h.at_.caller,h.at_.answerer,h.at_.ne1,h.at_.ne2⟩,h.hb,h.hc,h.hd,h.hf,h.upd⟩
theorem writeM_len {N:Nat} {e:En} (h:EnW N e):(writeM e).2.length≤N * 300+8000:=by
 have h1:=waitM_len (N:=N) e.wait e h.wait
 obtain ⟨w1,w2,w3⟩:=waitM_w (N:=N) e.wait e h
 have h2:=saysM_len e.strs.length 0 { (waitM e e.wait).1 with wait:=[] } w1.noWait (by simp only [Nat.zero_add]; rw [w2]; exact Nat.le_refl _)
 have h3:=stsOk_len h.sts
 have h4:=h.len
 rw [writeM_eq]
 refine Nat.le_trans (Nat.le_of_eq List.length_append) ?_
 exact Nat.add_le_add (Nat.le_trans h1 (Nat.mul_le_mul_right _ h4)) (Nat.le_trans h2 (Nat.mul_le_mul_right 2000 h3))
theorem l22Say_ok {N:Nat} {w:Wo} (hW:WoW N w) (hN:N≤900000) (side:Int) {S:List Blk} {b c d f:Nat} (h:WoAt S b c d f w):VCall Tryz.prog 63 [wV b c d f w,.int .i64 side] S fun r S'=>RWTo S b c d f (sayWM w side) r S':=by
 have hB:=hW.b (by omega)
 have hup:=hB.up
 have hdn:=hB.down
 obtain ⟨n1,n2,n3,n4,n5,n6,n7,n8⟩:=h.nes
 refine VCall.en hDe Tryz.func63 Tryz.ntmps63 Tryz.results63 ?_
 by_cases hs:side=0
 ·subst hs
  have hcp:=fun X=>l21Copy_ok hB.caller (h.caller.app X)
  have hol:=writeM_len hW.caller
  have hm:sayWM w 0=if w.caller.bad=false∧w.up.length+(writeM w.caller).2.length≤800 then { w with caller:=(writeM w.caller).1,up:=w.up++(writeM w.caller).2 } else w:=rfl
  rw [hm]
  simp -implicitDefEqProofs (disch:=omega) only [push_cast,simprocAttr,↓gd]
  refine ((hcp _).as (by simp [eV,enV,enC])).mono ?_
  rintro r S1 ⟨b1,c1,rfl,q1⟩
  have k0:S1[S.length]?=some (.cells 0 (wC b c d f w)):=q1.upd.get (by simp -implicitDefEqProofs (disch:=omega) only [push_cast,simprocAttr,↓gd]) (by simp)
  have k1:S1[S.length+1]?=some (.cells 0 zW):=q1.upd.get (by simp -implicitDefEqProofs (disch:=omega) only [push_cast,simprocAttr,↓gd]) (by simp)
  simp -implicitDefEqProofs (disch:=omega) only [push_cast,simprocAttr,↓gd]
  refine ((l21Write_ok hW.caller (by omega) q1.at_).as (by simp [eV,enV,enC])).mono ?_
  rintro r S2 ⟨v,rfl,b2,c2,rfl,hto⟩
  have hb1:=q1.hb; have hc1:=q1.hc
  simp at hb1 hc1
  have k0:=hto.upd.get k0 (by simp; omega)
  have k1:=hto.upd.get k1 (by simp; omega)
  have l0:=lt_of_some k0
  have l1:=lt_of_some k1
  have hn:=(q1.to hto).app
  have h0:=h.caller_to (hn.toTo b c)
  have hst:=WoTo.still h hn.upd
  have v0:=h0.at_.var k0
  have v1:=h0.at_.var k1
  have v0':=hst.at_.var k0
  have v1':=hst.at_.var k1
  generalize hq:writeM w.caller=q at *
  obtain ⟨y,o⟩:=q
  simp only at *
  rcases Bool.eq_false_or_eq_true w.caller.bad with hbad | hbad
  ·rw [if_neg (by rw [hbad]; simp)]
   simp -implicitDefEqProofs (disch:=omega) only [push_cast,simprocAttr,k0,k1,hbad,↓gd]
   exact ⟨_,_,Wk.refl _ _ _,b,c,d,f,by simp -implicitDefEqProofs (disch:=omega) only [push_cast,simprocAttr,hbad,↓gd],(hst.set (j:=S.length+1) _ (by omega) v1').appR _⟩
  ·by_cases hl:(w.up.length:Int)+o.length≤800
   ·rw [if_pos ⟨hbad,by omega⟩]
    simp -implicitDefEqProofs (disch:=omega) only [push_cast,simprocAttr,k0,k1,hbad,hl,↓gd]
    repeat refine And.intro (by omega) ?_
    have h1:=h0.withUp (w.up++o) w.down
    exact ⟨_,_,Wk.refl _ _ _,b2,c2,d,f,rfl,((h1.set (j:=S.length) _ (by omega) v0).set (j:=S.length+1) _ (by omega) v1).appR _⟩
   ·rw [if_neg (by omega)]
    simp -implicitDefEqProofs (disch:=omega) only [push_cast,simprocAttr,k0,k1,hbad,hl,↓gd]
    exact ⟨_,_,Wk.refl _ _ _,b,c,d,f,by simp -implicitDefEqProofs (disch:=omega) only [push_cast,simprocAttr,hbad,↓gd],(hst.set (j:=S.length+1) _ (by omega) v1').appR _⟩
 ·by_cases hs1:side=1
  ·subst hs1
   have hcp:=fun X=>l21Copy_ok hB.answerer (h.answerer.app X)
   have hol:=writeM_len hW.answerer
   have hm:sayWM w 1=if w.answerer.bad=false∧w.down.length+(writeM w.answerer).2.length≤800 then { w with answerer:=(writeM w.answerer).1,down:=w.down++(writeM w.answerer).2 } else w:=rfl
   rw [hm]
   simp -implicitDefEqProofs (disch:=omega) only [push_cast,simprocAttr,↓gd]
   refine ((hcp _).as (by simp [eV,enV,enC])).mono ?_
   rintro r S1 ⟨b1,c1,rfl,q1⟩
   have k0:S1[S.length]?=some (.cells 0 (wC b c d f w)):=q1.upd.get (by simp -implicitDefEqProofs (disch:=omega) only [push_cast,simprocAttr,↓gd]) (by simp)
   have k1:S1[S.length+1]?=some (.cells 0 zW):=q1.upd.get (by simp -implicitDefEqProofs (disch:=omega) only [push_cast,simprocAttr,↓gd]) (by simp)
   simp -implicitDefEqProofs (disch:=omega) only [push_cast,simprocAttr,↓gd]
   refine ((l21Write_ok hW.answerer (by omega) q1.at_).as (by simp [eV,enV,enC])).mono ?_
   rintro r S2 ⟨v,rfl,b2,c2,rfl,hto⟩
   have hb1:=q1.hb; have hc1:=q1.hc
   simp at hb1 hc1
   have k0:=hto.upd.get k0 (by simp; omega)
   have k1:=hto.upd.get k1 (by simp; omega)
   have l0:=lt_of_some k0
   have l1:=lt_of_some k1
   have hn:=(q1.to hto).app
   have h0:=h.answerer_to (hn.toTo d f)
   have hst:=WoTo.still h hn.upd
   have v0:=h0.at_.var k0
   have v1:=h0.at_.var k1
   have v0':=hst.at_.var k0
   have v1':=hst.at_.var k1
   generalize hq:writeM w.answerer=q at *
   obtain ⟨y,o⟩:=q
   simp only at *
   rcases Bool.eq_false_or_eq_true w.answerer.bad with hbad | hbad
   ·rw [if_neg (by rw [hbad]; simp)]
    simp -implicitDefEqProofs (disch:=omega) only [push_cast,simprocAttr,k0,k1,hbad,↓gd]
    exact ⟨_,_,Wk.refl _ _ _,b,c,d,f,by simp -implicitDefEqProofs (disch:=omega) only [push_cast,simprocAttr,hbad,↓gd],(hst.set (j:=S.length+1) _ (by omega) v1').appR _⟩
   ·by_cases hl:(w.down.length:Int)+o.length≤800
    ·rw [if_pos ⟨hbad,by omega⟩]
     simp -implicitDefEqProofs (disch:=omega) only [push_cast,simprocAttr,k0,k1,hbad,hl,↓gd]
     repeat refine And.intro (by omega) ?_
     have h1:=h0.withUp w.up (w.down++o)
     exact ⟨_,_,Wk.refl _ _ _,b,c,b2,c2,rfl,((h1.set (j:=S.length) _ (by omega) v0).set (j:=S.length+1) _ (by omega) v1).appR _⟩
    ·rw [if_neg (by omega)]
     simp -implicitDefEqProofs (disch:=omega) only [push_cast,simprocAttr,k0,k1,hbad,hl,↓gd]
     exact ⟨_,_,Wk.refl _ _ _,b,c,d,f,by simp -implicitDefEqProofs (disch:=omega) only [push_cast,simprocAttr,hbad,↓gd],(hst.set (j:=S.length+1) _ (by omega) v1').appR _⟩
  ·have hm:sayWM w side=w:=by rw [sayWM,if_neg hs,if_neg hs1]
   rw [hm]
   simp -implicitDefEqProofs (disch:=omega) only [push_cast,simprocAttr,hs,hs1,↓gd]
   exact ⟨_,_,Wk.refl _ _ _,b,c,d,f,rfl,.stay h⟩
theorem l22Pass_ok {N:Nat} {w:Wo} (hW:WoW N w) (hN:N≤900000) (way n:Int) {S:List Blk} {b c d f:Nat} (h:WoAt S b c d f w):VCall Tryz.prog 102 [wV b c d f w,.int .i64 way,.int .i64 n] S fun r S'=>RWTo S b c d f (passM w way n) r S':=by
 have hB:=hW.b (by omega)
 have hup:=hB.up
 have hdn:=hB.down
 obtain ⟨n1,n2,n3,n4,n5,n6,n7,n8⟩:=h.nes
 refine VCall.ex hDe (fun _=>false) (fun id=>if id=6 then [6,6,6,6,6,6,8,8,9] else if id=10 then [6,6,6,6,6,6,8,8,9] else []) Tryz.func102 Tryz.ntmps102 Tryz.results102 ?_
 by_cases hin:0≤n∧n≤90
 ·have hm:passM w way n=if way=0 then { w with answerer:=hearWM w.answerer (w.up.take n.toNat),up:=w.up.drop n.toNat } else if way=1 then { w with caller:=hearWM w.caller (w.down.take n.toNat),down:=w.down.drop n.toNat } else w:=by rw [passM,if_pos hin]
  rw [hm]
  by_cases hs:way=0
  ·subst hs
   rw [if_pos rfl]
   have emin:(if (w.up.length:Int) < n then (w.up.length:Int) else n)=((min n.toNat w.up.length:Nat):Int):=by omega
   have etk:w.up.take (min n.toNat w.up.length)=w.up.take n.toNat:=by rw [List.take_eq_take_iff]; omega
   have edr:w.up.drop (min n.toNat w.up.length)=w.up.drop n.toNat:=by
    rw [List.drop_eq_drop_iff]; omega
   have hcon:=fun S2 q=>l22Hear_ok (bs:=w.up.take n.toNat) hW.answerer hN (by rw [List.length_take]; omega) (S:=S2) (b:=d) (c:=f) q
   simp -implicitDefEqProofs (disch:=omega) only [push_cast,simprocAttr,↓gd]
   refine (l6In_t hin _).to ?_
   simp -implicitDefEqProofs (disch:=omega) only [push_cast,simprocAttr,emin,etk,↓gd]
   repeat refine And.intro (by omega) ?_
   refine ((hcon _ (h.answerer.app _)).as (by simp [eV,enV,enC,List.drop_zero])).mono ?_
   rintro r S1 ⟨d1,f1,rfl,hto⟩
   have k0:S1[S.length]?=some (.cells 0 (wC b c d f w)):=hto.upd.get (by simp -implicitDefEqProofs (disch:=omega) only [push_cast,simprocAttr,↓gd]) (by simp; omega)
   have k1:S1[S.length+1]?=some (.cells 0 zW):=hto.upd.get (by simp -implicitDefEqProofs (disch:=omega) only [push_cast,simprocAttr,↓gd]) (by simp; omega)
   have l0:=lt_of_some k0
   have l1:=lt_of_some k1
   have h0:=h.answerer_to hto.app
   have v0:=h0.at_.var k0
   have v1:=h0.at_.var k1
   have h1:=h0.withUp (w.up.drop n.toNat) w.down
   generalize hearWM w.answerer (w.up.take n.toNat)=y at *
   simp -implicitDefEqProofs (disch:=omega) only [push_cast,simprocAttr,k0,k1,edr,List.take_length,↓gd]
   repeat refine And.intro (by omega) ?_
   exact ⟨_,_,Wk.refl _ _ _,b,c,d1,f1,rfl,((h1.set (j:=S.length) _ (by omega) v0).set (j:=S.length+1) _ (by omega) v1)⟩
  ·rw [if_neg hs]
   by_cases hs1:way=1
   ·subst hs1
    rw [if_pos rfl]
    have emin:(if (w.down.length:Int) < n then (w.down.length:Int) else n)=((min n.toNat w.down.length:Nat):Int):=by omega
    have etk:w.down.take (min n.toNat w.down.length)=w.down.take n.toNat:=by rw [List.take_eq_take_iff]; omega
    have edr:w.down.drop (min n.toNat w.down.length)=w.down.drop n.toNat:=by
     rw [List.drop_eq_drop_iff]; omega
    have hcon:=fun S2 q=>l22Hear_ok (bs:=w.down.take n.toNat) hW.caller hN (by rw [List.length_take]; omega) (S:=S2) (b:=b) (c:=c) q
    simp -implicitDefEqProofs (disch:=omega) only [push_cast,simprocAttr,↓gd]
    refine (l6In_t hin _).to ?_
    simp -implicitDefEqProofs (disch:=omega) only [push_cast,simprocAttr,emin,etk,↓gd]
    repeat refine And.intro (by omega) ?_
    refine ((hcon _ (h.caller.app _)).as (by simp [eV,enV,enC,List.drop_zero])).mono ?_
    rintro r S1 ⟨b1,c1,rfl,hto⟩
    have k0:S1[S.length]?=some (.cells 0 (wC b c d f w)):=hto.upd.get (by simp -implicitDefEqProofs (disch:=omega) only [push_cast,simprocAttr,↓gd]) (by simp; omega)
    have k1:S1[S.length+1]?=some (.cells 0 zW):=hto.upd.get (by simp -implicitDefEqProofs (disch:=omega) only [push_cast,simprocAttr,↓gd]) (by simp; omega)
    have l0:=lt_of_some k0
    have l1:=lt_of_some k1
    have h0:=h.caller_to hto.app
    have v0:=h0.at_.var k0
    have v1:=h0.at_.var k1
    have h1:=h0.withUp w.up (w.down.drop n.toNat)
    generalize hearWM w.caller (w.down.take n.toNat)=y at *
    simp -implicitDefEqProofs (disch:=omega) only [push_cast,simprocAttr,k0,k1,edr,List.take_length,↓gd]
    repeat refine And.intro (by omega) ?_
    exact ⟨_,_,Wk.refl _ _ _,b1,c1,d,f,rfl,((h1.set (j:=S.length) _ (by omega) v0).set (j:=S.length+1) _ (by omega) v1)⟩
   ·rw [if_neg hs1]
    simp -implicitDefEqProofs (disch:=omega) only [push_cast,simprocAttr,↓gd]
    refine (l6In_t hin _).to ?_
    simp -implicitDefEqProofs (disch:=omega) only [push_cast,simprocAttr,hs,hs1,↓gd]
    exact ⟨_,_,Wk.refl _ _ _,b,c,d,f,rfl,.stay h⟩
 ·have hm:passM w way n=w:=by rw [passM,if_neg hin]
  rw [hm]
  simp -implicitDefEqProofs (disch:=omega) only [push_cast,simprocAttr,↓gd]
  refine (l6In_f hin _).to ?_
  simp -implicitDefEqProofs (disch:=omega) only [push_cast,simprocAttr,↓gd]
  exact ⟨_,_,Wk.refl _ _ _,b,c,d,f,rfl,.stay h⟩
end
end Go.Proofs.YtldogccmhncnoaaGreatDoor
