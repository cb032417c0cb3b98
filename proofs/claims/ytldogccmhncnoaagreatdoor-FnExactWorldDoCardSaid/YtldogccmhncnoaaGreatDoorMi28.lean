/- A part of the proof: contracts of functions, or plain facts on which these lean. -/
import Derived.Test.YtldogccmhncnoaaGreatDoorMi25
import Derived.Test.YtldogccmhncnoaaGreatDoorMi27
namespace Go.Proofs.YtldogccmhncnoaaGreatDoor
open Go
set_option linter.unusedVariables false
set_option linter.unusedSimpArgs false
set_option maxRecDepth 100000
set_option maxHeartbeats 16000000

section
open Go
def xb:V→Nat
 | .heap p _=>p
 | _=>0
def fb (ls:List XS):List Nat:=ls.flatMap fun x=>[xb x.2.1,xb x.2.2]
theorem fb_app (l k:List XS):fb (l++k)=fb l++fb k:=by simp [fb]
def OwnL (S:List Blk) (ls:List XS):Prop:=∀x ∈ ls,(∃p,x.2.1=.heap p x.1.head.length∧S[p]?=some (.cells 3 (fcs x.1.head)))∧(∃p,x.2.2=.heap p x.1.got.length∧S[p]?=some (.cells 3 (fcs x.1.got)))
theorem OwnL.fl {S:List Blk} {ls:List XS} (h:OwnL S ls):∀x ∈ ls,FL S x.1.head x.2.1∧FL S x.1.got x.2.2:=fun x hx=>by
 obtain ⟨⟨p,h1,h2⟩,⟨q,h3,h4⟩⟩:=h x hx
 rw [h1,h3]
 exact ⟨.own h2,.own h4⟩
theorem OwnL.to {S S':List Blk} {ls:List XS} (h:OwnL S ls) (hk:∀(p:Nat) (cs:List V),S[p]?=some (.cells 3 cs)→S'[p]?=some (.cells 3 cs)):OwnL S' ls:=fun x hx=>by
 obtain ⟨⟨p,h1,h2⟩,⟨q,h3,h4⟩⟩:=h x hx
 exact ⟨⟨p,h1,hk _ _ h2⟩,⟨q,h3,hk _ _ h4⟩⟩
theorem OwnL.app {S:List Blk} {l k:List XS} (h:OwnL S l) (g:OwnL S k):OwnL S (l++k):=fun x hx=>(List.mem_append.1 hx).elim (h x) (g x)
theorem OwnL.lt {S:List Blk} {ls:List XS} (h:OwnL S ls):∀p ∈ fb ls,p < S.length:=fun p hp=>by
 obtain ⟨x,hx,hp⟩:=List.mem_flatMap.1 hp
 obtain ⟨⟨p1,h1,h2⟩,⟨q1,h3,h4⟩⟩:=h x hx
 simp only [List.mem_cons,List.not_mem_nil,or_false] at hp
 rcases hp with rfl | rfl
 ·rw [h1]; exact lt_of_some h2
 ·rw [h3]; exact lt_of_some h4
structure EnO (S:List Blk) (po pi b c:Nat) (ls:List XS) (e:En) (S':List Blk):Prop where
 strs:ls.map Prod.fst=e.strs
 kb:S'[b]?=some (.cells 12 (xsC ls))
 kc:S'[c]?=some (.cells 4 (frmsC e.wait))
 out:S'[po]?=some (.cells 3 (fcs e.out))
 inn:S'[pi]?=some (.cells 3 (fcs e.inn))
 own:OwnL S' ls
 lt:(po :: pi :: fb ls).Pairwise (· < ·)
 lo:∀p ∈ po :: pi :: fb ls,S.length≤p
 hb:S.length≤b
 hc:S.length≤c
 upd:Upd [] S S'
theorem EnO.x {S:List Blk} {po pi b c:Nat} {ls:List XS} {e:En} {S':List Blk} (h:EnO S po pi b c ls e S'):EnX S' (.heap po e.out.length) (.heap pi e.inn.length) b c ls e :=
 ⟨h.strs,h.kb,h.kc,.own h.out,.own h.inn,h.own.fl⟩
def ONew (S:List Blk) (e:En) (v:V) (S':List Blk):Prop:=∃po pi b c ls,v=xV (.heap po e.out.length) (.heap pi e.inn.length) b c e∧EnO S po pi b c ls e S'
theorem set_get {S X:List Blk} {L p n:Nat} {B:Blk} {cs ds:List V} (hL:S[L]?=some (.cells 12 ds)) (hp:S[p]?=some (.cells n cs)) (hn:n≠12):(S.set L B++X)[p]?=some (.cells n cs):=by
 have hne:L≠p:=by rintro rfl; rw [hL] at hp; cases hp; exact hn rfl
 rw [List.getElem?_append_left (by rw [List.length_set]; exact lt_of_some hp),List.getElem?_set_ne hne]
 exact hp
theorem getD_memX {ls:List XS} {i:Nat} (h:i < ls.length):ls.getD i xs0 ∈ ls:=by rw [List.getD_eq_getElem?_getD,List.getElem?_eq_getElem h]; exact List.getElem_mem h
theorem pair_snoc2 {l:List Nat} {p q:Nat} (h:l.Pairwise (· < ·)) (hp:∀x ∈ l,x < p) (hq:p < q):(l++[p,q]).Pairwise (· < ·):=by
 rw [List.pairwise_append]
 refine ⟨h,by simp [hq],fun a ha b hb=>?_⟩
 simp only [List.mem_cons,List.not_mem_nil,or_false] at hb
 have:=hp a ha
 rcases hb with rfl | rfl <;> omega
theorem eclone_O {e:En} (he:EnB e) {S:List Blk} {vo vi:V} {b c:Nat} {ls:List XS} (h:EnX S vo vi b c ls e):VCall Tryz.prog 42 [xV vo vi b c e] S fun r S'=>ONew S e r S':=by
 have hln:=h.len
 have hfst:=xs_fst h.strs
 obtain ⟨hls,hb,hc,hvo,hvi,hh⟩:=h
 have vo1:=hvo.one
 have vi1:=hvi.one
 have voe:=hvo.er
 have vie:=hvi.er
 have voe1:=hvo.er1
 have vie1:=hvi.er1
 have hbl:=lt_of_some hb
 have hcl:=lt_of_some hc
 have hlen:=xsC_len ls
 have hlw:=frmsC_len e.wait
 have hwn:=he.wait
 have hel:=he.len
 refine VCall.ex hDe (fun _=>false) (fun id=>if id=1 then [2,2,5,5,5,8,8,8,10,10,12,12,14,14,15] else if id=6 then [2,2,5,5,5,7,7,9,9,10] else []) Tryz.func42 Tryz.ntmps42 Tryz.results42 ?_
 simp -implicitDefEqProofs (disch:=omega) only [push_cast,simprocAttr,vo1,vi1,voe,vie,↓gd]
 refine ((tclone_O e.out e.outM he.out (hvo.app _)).as (by simp [voe,voe1])).mono ?_
 rintro r Sa ⟨po,rfl,ho1,ho2,ho3⟩
 have a0:=ho3.get (j:=S.length) (B:=.cells 0 (enX vo vi (.heap b e.strs.length) (.heap c e.wait.length) e)) (by simp -implicitDefEqProofs (disch:=omega) only [push_cast,simprocAttr,↓gd]) (by simp)
 have a1:=ho3.get (j:=S.length+1) (B:=.cells 0 zE) (by simp -implicitDefEqProofs (disch:=omega) only [push_cast,simprocAttr,↓gd]) (by simp)
 have la0:=lt_of_some a0
 have la1:=lt_of_some a1
 simp only [List.length_append,List.length_cons,List.length_nil] at ho2
 have hua:Upd [] S Sa:=((Upd.refl [] S).app _).trans ho3
 simp -implicitDefEqProofs (disch:=omega) only [push_cast,simprocAttr,a0,vo1,vi1,voe,vie,↓gd]
 refine ((tclone_O e.inn e.innM he.inn (hvi.upd hua)).as (by simp [vie,vie1])).mono ?_
 rintro r Sb ⟨pi,rfl,hi1,hi2,hi3⟩
 have b0:=hi3.get a0 (by simp)
 have b1:=hi3.get a1 (by simp)
 have lb0:=lt_of_some b0
 have lb1:=lt_of_some b1
 have hub:=hua.trans hi3
 have hcb:=hub.get hc (by simp)
 have lcb:=lt_of_some hcb
 simp -implicitDefEqProofs (disch:=omega) only [push_cast,simprocAttr,a0,b0,hcb,vo1,vi1,voe,vie,↓gd]
 repeat refine And.intro (by omega) ?_
 rw [frmsC_all,frmsC_erase]
 have c2:=hi3.get ho1 (by simp)
 have lpo:=lt_of_some ho1
 have lpi:=lt_of_some hi1
 refine wpV_loop (fun m t S1=>∃(i L:Nat) (hs:List XS),m=e.strs.length - i∧i≤e.strs.length∧t 1=.ptr S.length 0∧t 2=.ptr (S.length+1) 0∧t 19=.heap b e.strs.length∧t 20=.int .i64 e.strs.length∧t 21=.int .i64 i∧S.length≤L ∧
  (i=0∧t 3=.nils∨t 3=.heap L i∧S1[L]?=some (.cells 12 (xsC hs)))∧hs.map Prod.fst=e.strs.take i∧Upd [] S S1 ∧
  S1[S.length]?=some (.cells 0 (enX (.heap po e.out.length) (.heap pi e.inn.length) (.heap b e.strs.length) (.heap Sb.length e.wait.length) e)) ∧
  S1[S.length+1]?=some (.cells 0 zE)∧S1[Sb.length]?=some (.cells 4 (frmsC e.wait))∧S1[po]?=some (.cells 3 (fcs e.out))∧S1[pi]?=some (.cells 3 (fcs e.inn))∧OwnL S1 hs ∧
  (po :: pi :: fb hs).Pairwise (· < ·)∧(∀p ∈ po :: pi :: fb hs,S.length≤p)) e.strs.length
  ⟨0,S.length,[],by omega,by omega,rfl,rfl,rfl,rfl,rfl,Nat.le_refl _,.inl ⟨rfl,rfl⟩,by simp,(hub.set _ (.inl (Nat.le_refl _))).app _,?_,?_,?_,?_,?_,fun x hx=>(by cases hx),?_,?_⟩ ?_
 ·simp -implicitDefEqProofs (disch:=omega) only [push_cast,simprocAttr,↓gd]
 ·simp -implicitDefEqProofs (disch:=omega) only [push_cast,simprocAttr,b1,↓gd]
 ·simp -implicitDefEqProofs (disch:=omega) only [push_cast,simprocAttr,↓gd]
 ·have hne:S.length≠po:=by omega
  simp -implicitDefEqProofs (disch:=omega) only [push_cast,simprocAttr,c2,↓gd]
 ·have hne:S.length≠pi:=by have:=ho3.1; simp at this; omega
  simp -implicitDefEqProofs (disch:=omega) only [push_cast,simprocAttr,hi1,↓gd]
 ·simp [fb]; omega
 ·intro p hp
  have:=hua.1
  simp [fb] at hp
  omega
 rintro m t S1 ⟨i,L,hs,rfl,hi,h1,h2,h19,h20,h21,hL,h3,hfs,hu,k0,k1,kw,ko,ki,hown,hlt,hlo⟩
 have l0:=lt_of_some k0
 have l1:=lt_of_some k1
 have kb:=hu.get hb (by simp)
 have lb:=lt_of_some kb
 refine wpV_of hDe (fun _=>false) (fun id=>if id=6 then [2,2,5,5,5,7,7,9,9,10] else []) (by kernel_rfl) ?_
 simp -implicitDefEqProofs (disch:=omega) only [push_cast,simprocAttr,h1,h19,h20,h21,k0,↓gd]
 refine ⟨fun h=>?_,fun h=>?_⟩
 ·have hil:i < e.strs.length:=by omega
  have hil0:i < ls.length:=by omega
  have hat:=xsC_at hil0
  have hxm:=hh (ls.getD i xs0) (getD_memX hil0)
  have hsb:=he.sts _ (getD_memS hil)
  have hfi:=hfst i
  have htk:=take_st hil
  rw [←hfi] at hsb htk
  generalize ls.getD i xs0=xx at hat hsb htk hxm
  obtain ⟨s,vh,vg⟩:=xx
  obtain ⟨hvh,hvg⟩:=hxm
  simp only [xsF] at hat hsb htk hvh hvg
  have vh1:=hvh.one
  have vg1:=hvg.one
  have vhe:=hvh.er
  have vge:=hvg.er
  have vhe1:=hvh.er1
  have vge1:=hvg.er1
  have hlh:=xsC_len hs
  have hfl:hs.length=i:=by have:=congrArg List.length hfs; rw [List.length_map,List.length_take] at this; omega
  simp -implicitDefEqProofs (disch:=omega) only [push_cast,simprocAttr,h1,h2,h19,h21,k0,k1,kb,hat,vh1,vg1,vhe,vge,↓gd]
  repeat refine And.intro (by omega) ?_
  refine ((cloneFields_O s.head (by have:=hsb.head.1; omega) ((hvh.upd hu).app _)).as (by first | rfl | simp [vhe,vhe1])).to ?_
  simp -implicitDefEqProofs (disch:=omega) only [push_cast,simprocAttr,k0,k1,vh1,vg1,vhe,vge,↓gd]
  refine ((cloneFields_O s.got (by have:=hsb.got.1; omega) ((hvg.upd hu).app _)).as (by first | rfl | simp [vge,vge1])).to ?_
  have q1:(hs++[(s,V.heap (S1.length+1) s.head.length,V.heap (S1.length+2) s.got.length)]).map Prod.fst=e.strs.take (i+1):=by rw [List.map_append,hfs,htk]; rfl
  have q2:∀(Z:List Blk),(∀(p n:Nat) (cs:List V),n≠12→S1[p]?=some (.cells n cs)→Z[p]?=some (.cells n cs))→Z[S1.length+1]?=some (.cells 3 (fcs s.head))→Z[S1.length+2]?=some (.cells 3 (fcs s.got))→OwnL Z (hs++[(s,V.heap (S1.length+1) s.head.length,V.heap (S1.length+2) s.got.length)]):=fun Z hZ hZ1 hZ2 =>
   (hown.to (fun p cs=>hZ p 3 cs (by decide))).app (fun x hx=>by rw [List.mem_singleton.1 hx]; exact ⟨⟨_,rfl,hZ1⟩,⟨_,rfl,hZ2⟩⟩)
  have q3:(po :: pi :: fb (hs++[(s,V.heap (S1.length+1) s.head.length,V.heap (S1.length+2) s.got.length)])).Pairwise (· < ·):=by
   rw [fb_app]
   show ((po :: pi :: fb hs)++[S1.length+1,S1.length+2]).Pairwise (· < ·)
   refine pair_snoc2 hlt (fun x hx=>?_) (by omega)
   have h4:=lt_of_some ko
   have h5:=lt_of_some ki
   simp only [List.mem_cons] at hx
   rcases hx with rfl | rfl | hx
   ·omega
   ·omega
   ·have:=hown.lt x hx; omega
  have q4:∀p ∈ fb (hs++[(s,V.heap (S1.length+1) s.head.length,V.heap (S1.length+2) s.got.length)]),S.length≤p:=by
   intro p hp
   rw [fb_app] at hp
   have:=hu.1
   rcases List.mem_append.1 hp with hp | hp
   ·exact hlo p (by simp [hp])
   ·simp only [fb,xb,List.flatMap_cons,List.flatMap_nil,List.mem_append,List.mem_cons,List.not_mem_nil,or_false] at hp
    omega
  have q5:=hlo po (by simp)
  have q6:=hlo pi (by simp)
  have hZ:∀(X:List Blk) (p n:Nat) (cs:List V),n≠12→S1[p]?=some (.cells n cs)→(S1++X)[p]?=some (.cells n cs):=fun X p n cs _ hp=>by rw [List.getElem?_append_left (lt_of_some hp)]; exact hp
  rcases h3 with ⟨rfl,h3⟩ | ⟨h3,kL⟩
  ·have hs0:hs=[]:=List.length_eq_zero_iff.1 hfl
   subst hs0
   simp -implicitDefEqProofs (disch:=omega) only [push_cast,simprocAttr,h3,h21,k0,k1,vh1,vg1,vhe,vge,↓gd]
   refine ⟨e.strs.length - 1,by omega,1,S1.length+4,[]++[(s,V.heap (S1.length+1) s.head.length,V.heap (S1.length+2) s.got.length)],rfl,by omega,h1,h2,h19,h20,rfl,by have:=hu.1; omega,⟨rfl,by simp -implicitDefEqProofs (disch:=omega) only [push_cast,simprocAttr,↓gd]; rfl⟩,q1,hu.app _,?_⟩
   first
    | exact ⟨q2 _ (hZ _) (by simp -implicitDefEqProofs (disch:=omega) only [push_cast,simprocAttr,↓gd]) (by simp -implicitDefEqProofs (disch:=omega) only [push_cast,simprocAttr,↓gd]),q3,q5,q6,q4⟩
    | exact ⟨k0,k1,hZ _ _ _ _ (by decide) kw,hZ _ _ _ _ (by decide) ko,hZ _ _ _ _ (by decide) ki,q2 _ (hZ _) (by simp -implicitDefEqProofs (disch:=omega) only [push_cast,simprocAttr,↓gd]) (by simp -implicitDefEqProofs (disch:=omega) only [push_cast,simprocAttr,↓gd]),q3,q5,q6,q4⟩
    | exact ⟨hZ _ _ _ _ (by decide) kw,hZ _ _ _ _ (by decide) ko,hZ _ _ _ _ (by decide) ki,q2 _ (hZ _) (by simp -implicitDefEqProofs (disch:=omega) only [push_cast,simprocAttr,↓gd]) (by simp -implicitDefEqProofs (disch:=omega) only [push_cast,simprocAttr,↓gd]),q3,q5,q6,q4⟩
  ·have lL:=lt_of_some kL
   simp -implicitDefEqProofs (disch:=omega) only [push_cast,simprocAttr,h3,h21,k0,k1,kL,vh1,vg1,vhe,vge,↓gd]
   repeat refine And.intro (by omega) ?_
   refine ⟨e.strs.length - (i+1),by omega,i+1,S1.length+4,hs++[(s,V.heap (S1.length+1) s.head.length,V.heap (S1.length+2) s.got.length)],rfl,by omega,h1,h2,h19,h20,by simp,by have:=hu.1; omega,⟨rfl,?_⟩,q1,(hu.set _ (.inl hL)).app _,?_⟩
   ·simp -implicitDefEqProofs (disch:=omega) only [push_cast,simprocAttr,↓gd]
    unfold xsC
    rw [List.flatMap_append]
    rfl
   have hne:S.length≠L:=by rintro rfl; rw [kL] at k0; cases k0
   have hne1:S.length+1≠L:=by rintro rfl; rw [kL] at k1; cases k1
   have hS:∀(X:List Blk) (p n:Nat) (cs:List V),n≠12→S1[p]?=some (.cells n cs)→(S1.set L .dead++X)[p]?=some (.cells n cs):=fun X p n cs hn hp=>set_get kL hp hn
   exact ⟨by rw [List.getElem?_set_ne (Ne.symm hne)]; exact k0,by rw [List.getElem?_set_ne (Ne.symm hne1)]; exact k1,hS _ _ _ _ (by decide) kw,hS _ _ _ _ (by decide) ko,hS _ _ _ _ (by decide) ki,q2 _ (hS _) (by simp -implicitDefEqProofs (disch:=omega) only [push_cast,simprocAttr,↓gd]) (by simp -implicitDefEqProofs (disch:=omega) only [push_cast,simprocAttr,↓gd]),q3,q5,q6,q4⟩
 ·have:i=e.strs.length:=by omega
  subst this
  rw [List.take_length] at hfs
  rcases h3 with ⟨hz,h3⟩ | ⟨h3,kL⟩
  ·simp -implicitDefEqProofs (disch:=omega) only [push_cast,simprocAttr,h1,h2,h3,k0,k1,↓gd]
   have hz':hs=[]:=by
    have:=congrArg List.length hfs
    rw [List.length_map] at this
    exact List.length_eq_zero_iff.1 (by omega)
   subst hz'
   have hz0:e.strs=[]:=List.length_eq_zero_iff.1 hz
   have hnew:∀(A B:Blk),EnO S po pi S1.length Sb.length [] e ((S1.set S.length A).set (S.length+1) B++[.cells 12 []]):=fun A B=>by
    have e0:∀(p n:Nat) (cs:List V),n≠0→S1[p]?=some (.cells n cs)→((S1.set S.length A).set (S.length+1) B++[.cells 12 []])[p]?=some (.cells n cs):=fun p n cs hn hp=>by
     have g0:S.length≠p:=by rintro rfl; rw [k0] at hp; cases hp; exact hn rfl
     have g1:S.length+1≠p:=by rintro rfl; rw [k1] at hp; cases hp; exact hn rfl
     rw [List.getElem?_append_left (by simp; exact lt_of_some hp),List.getElem?_set_ne g1,List.getElem?_set_ne g0]
     exact hp
    refine ⟨by rw [hz0]; rfl,?_,e0 _ _ _ (by decide) kw,e0 _ _ _ (by decide) ko,e0 _ _ _ (by decide) ki,(fun x hx=>by cases hx),hlt,hlo,by have:=hu.1; omega,by have:=hub.1; omega,((hu.set _ (.inl (Nat.le_refl _))).set _ (.inl (by omega))).app _⟩
    rw [s2_get0]; rfl
   refine ⟨_,_,Wk.nh (r':=xV (.heap po e.out.length) (.heap pi e.inn.length) S1.length Sb.length e) 12 ?_,po,pi,S1.length,Sb.length,[],rfl,hnew _ _⟩
   have hlz:e.strs.length=0:=hz
   rw [xV_eq,hlz]
   have:=NH.aggAt (n:=S1.length) (i:=6) (cs:=[V.bool e.ans,.heap po e.out.length,.int .i64 e.outM,.heap pi e.inn.length,.int .i64 e.innM,.str e.came,.nils,.int .i64 e.send,.int .i64 e.room,.heap Sb.length e.wait.length,.bool e.bad]) rfl
   simpa using this
  ·simp -implicitDefEqProofs (disch:=omega) only [push_cast,simprocAttr,h1,h2,h3,k0,k1,kL,↓gd]
   have e0:∀(A B:Blk) (p n:Nat) (cs:List V),n≠0→S1[p]?=some (.cells n cs)→((S1.set S.length A).set (S.length+1) B)[p]?=some (.cells n cs):=fun A B p n cs hn hp=>by
    have g0:S.length≠p:=by rintro rfl; rw [k0] at hp; cases hp; exact hn rfl
    have g1:S.length+1≠p:=by rintro rfl; rw [k1] at hp; cases hp; exact hn rfl
    rw [List.getElem?_set_ne g1,List.getElem?_set_ne g0]
    exact hp
   exact ⟨_,_,Wk.refl _ _ _,po,pi,L,Sb.length,hs,rfl,⟨hfs,e0 _ _ _ _ _ (by decide) kL,e0 _ _ _ _ _ (by decide) kw,e0 _ _ _ _ _ (by decide) ko,e0 _ _ _ _ _ (by decide) ki,hown.to (fun p cs=>e0 _ _ p 3 cs (by decide)),hlt,hlo,hL,by have:=hub.1; omega,(hu.set _ (.inl (Nat.le_refl _))).set _ (.inl (by omega))⟩⟩
end
section
open Go
structure PtrAt (S:List Blk) (p b c:Nat) (e:En):Prop where
 var:S[p]?=some (.cells 0 (enC (.heap b e.strs.length) (.heap c e.wait.length) e))
 at_:EnAt S b c e
theorem PtrAt.nes {S:List Blk} {p b c:Nat} {e:En} (h:PtrAt S p b c e):b≠p∧c≠p∧b≠c∧p < S.length∧b < S.length∧c < S.length :=
 ⟨cells_ne h.at_.1 h.var (by decide),cells_ne h.at_.2 h.var (by decide),h.at_.ne,lt_of_some h.var,lt_of_some h.at_.1,lt_of_some h.at_.2⟩
structure PtrTo (S:List Blk) (p b c:Nat) (e:En) (b' c':Nat) (S':List Blk):Prop where
 at_:PtrAt S' p b' c' e
 hb:b'=b∨S.length≤b'
 hc:c'=c∨S.length≤c'
 upd:Upd [p,b,c] S S'
theorem PtrAt.app {S:List Blk} {p b c:Nat} {e:En} (h:PtrAt S p b c e) (X:List Blk):PtrAt (S++X) p b c e:=⟨by rw [List.getElem?_append_left (lt_of_some h.var)]; exact h.var,h.at_.app X⟩
theorem PtrTo.stay {S X:List Blk} {p b c:Nat} {e:En} (h:PtrAt S p b c e):PtrTo S p b c e b c (S++X):=⟨h.app X,.inl rfl,.inl rfl,(Upd.refl _ _).app X⟩
theorem PtrTo.trans {S S1 S2:List Blk} {p b c b1 c1 b2 c2:Nat} {e1 e2:En} (h:PtrTo S p b c e1 b1 c1 S1) (k:PtrTo S1 p b1 c1 e2 b2 c2 S2):PtrTo S p b c e2 b2 c2 S2:=by
 have hl:=h.upd.1
 have hb:=h.hb; have hc:=h.hc
 refine ⟨k.at_,?_,?_,h.upd.then_ k.upd fun j hj hm=>?_⟩
 ·rcases k.hb with e | e <;> omega
 ·rcases k.hc with e | e <;> omega
 ·simp only [List.mem_cons,List.not_mem_nil,or_false] at hm ⊢
  omega
theorem PtrTo.app {S X:List Blk} {p b c:Nat} {e:En} {b' c':Nat} {S':List Blk} (h:PtrTo (S++X) p b c e b' c' S'):PtrTo S p b c e b' c' S':=by
 have hb:=h.hb; have hc:=h.hc
 rw [List.length_append] at hb hc
 exact ⟨h.at_,by omega,by omega,((Upd.refl [p,b,c] S).app X).then_ h.upd (fun j hj hm=>hm)⟩
theorem PtrTo.mk' {S:List Blk} {p b c:Nat} {e:En} (b' c':Nat) {S':List Blk} (hv:S'[p]?=some (.cells 0 (enC (.heap b' e.strs.length) (.heap c' e.wait.length) e))) (h1:S'[b']?=some (.cells 12 (strsC e.strs))) (h2:S'[c']?=some (.cells 4 (frmsC e.wait)))
  (hb:b'=b∨S.length≤b') (hc:c'=c∨S.length≤c') (hu:Upd [p,b,c] S S'):PtrTo S p b c e b' c' S':=⟨⟨hv,h1,h2⟩,hb,hc,hu⟩
def atP (l:List St) (b:Nat) (id:Int):V:=match atM l id with
 | some k=>.ptr b (k * 12)
 | none=>.nilp
theorem newStream_ok (id:Int) (S:List Blk):VCall Tryz.prog 128 [.int .i64 id] S fun r S'=>r=stV (newSt id)∧S'=S:=by
 refine VCall.en hD Tryz.func128 Tryz.ntmps128 Tryz.results128 ?_
 simp -implicitDefEqProofs (disch:=omega) only [push_cast,simprocAttr,↓gd]
 exact finE (stV_cl _ (newSt id)) rfl
theorem stream_ok {e:En} (he:EnB e) {S:List Blk} {p b c:Nat} (h:PtrAt S p b c e) (id:Int):VCall Tryz.prog 94 [.ptr p 0,.int .i64 id] S fun r S'=>r=atP e.strs b id∧S'=S:=by
 have hv:=h.var
 have hb:=h.at_.1
 have hpl:=lt_of_some hv
 have hbl:=lt_of_some hb
 have hel:=he.len
 have hlen:=strsC_len e.strs
 refine VCall.en hDe Tryz.func94 Tryz.ntmps94 Tryz.results94 ?_
 simp -implicitDefEqProofs (disch:=omega) only [push_cast,simprocAttr,hv,↓gd]
 refine wpV_loop (fun m t S1=>∃i:Nat,m=e.strs.length - i∧i≤e.strs.length∧(∀j,j < i→(e.strs.getD j st0).id≠id)∧t 0=.ptr p 0∧t 1=.int .i64 id∧t 10=.int .i64 e.strs.length∧t 11=.int .i64 i∧S1=S) e.strs.length
  ⟨0,by omega,by omega,by omega,rfl,rfl,rfl,rfl,rfl⟩ ?_
 rintro m t S1 ⟨i,rfl,hi,hno,h0,h1,h10,h11,rfl⟩
 refine wpV_of0 hDe ?_
 simp -implicitDefEqProofs (disch:=omega) only [push_cast,simprocAttr,h0,h1,h10,h11,hv,↓gd]
 refine ⟨fun h=>?_,fun h=>?_⟩
 ·have hil:i < e.strs.length:=by omega
  have hid:=strsC_id hil
  by_cases hq:(e.strs.getD i st0).id=id
  ·simp -implicitDefEqProofs (disch:=omega) only [push_cast,simprocAttr,h0,h1,h10,h11,hv,hb,hid,hq,↓gd]
   repeat refine And.intro (by omega) ?_
   exact fin0 (by rw [atP,atM_at hil hno hq])
  ·simp -implicitDefEqProofs (disch:=omega) only [push_cast,simprocAttr,h0,h1,h10,h11,hv,hb,hid,hq,↓gd]
   repeat refine And.intro (by omega) ?_
   refine ⟨e.strs.length - (i+1),by omega,i+1,rfl,by omega,fun j hj=>?_,by simp⟩
   by_cases e1:j=i
   ·rw [e1]; exact hq
   ·exact hno j (by omega)
 ·exact fin0 (by rw [atP,atM_no (fun j hj=>hno j (by omega))])
theorem widen_ok {N:Nat} {e:En} (hW:EnW N e) (hN:N≤1100000) {f:Fr} (hf:frameOk f=true) {S:List Blk} {p b c:Nat} (h:PtrAt S p b c e):VCall Tryz.prog 156 [.ptr p 0,frV f] S fun r S'=>r=.tup []∧PtrTo S p b c (roomM e f) b c S':=by
 have he:=hW.b hN
 have hfl:=hW.flows
 have hsts:=hW.sts
 have hfn:=(frameOk_nat hf).2.1
 obtain ⟨ans,out,outM,inn,innM,came,strs,snd,rm,wait,bad⟩:=e
 simp only at hfl hsts
 obtain ⟨n1,n2,n3,n4,n5,n6⟩:=h.nes
 have hv:S[p]?=some (.cells 0 (enC (.heap b strs.length) (.heap c wait.length) ⟨ans,out,outM,inn,innM,came,strs,snd,rm,wait,bad⟩)):=h.var
 have hb:S[b]?=some (.cells 12 (strsC strs)):=h.at_.1
 have hc:S[c]?=some (.cells 4 (frmsC wait)):=h.at_.2
 have hlen:=strsC_len strs
 have hm8:=frameOk_more hf
 obtain ⟨fk,fl,fs,fb⟩:=f
 simp only at hfn
 refine VCall.ex hDe (fun _=>false) (fun id=>if id=7 then [13,13,13,13,13,13,13,13,13,13,13,13,13,14] else []) Tryz.func156 Tryz.ntmps156 Tryz.results156 ?_
 by_cases hk:fk=8
 ·subst hk
  obtain ⟨x,rfl,hx1,hx2,rfl⟩:∃x:UInt8,fb=[x]∧1≤x.toNat∧x.toNat≤31∧fl=false:=hm8 rfl
  have hx0:([x]:List UInt8).getD 0 0=x:=rfl
  have emin:∀a:Int,(if a < (31:Int) then a else (31:Int))=min a 31:=fun a=>by omega
  by_cases hs0:fs=0
  ·subst hs0
   have hm:roomM ⟨ans,out,outM,inn,innM,came,strs,snd,rm,wait,bad⟩ ⟨8,false,0,[x]⟩=⟨ans,out,outM,inn,innM,came,strs,snd,min (rm+x.toNat) 31,wait,bad⟩:=by simp [roomM,byteAt]
   rw [hm]
   simp -implicitDefEqProofs (disch:=omega) only [push_cast,simprocAttr,hv,hx0,emin,↓gd]
   refine ⟨_,_,Wk.refl _ _ _,rfl,PtrTo.mk' b c ?_ ?_ ?_ (.inl rfl) (.inl rfl) (((Upd.refl _ _).set _ (.inr (by simp))).app _)⟩
   ·simp -implicitDefEqProofs (disch:=omega) only [push_cast,simprocAttr,↓gd]
   ·simp -implicitDefEqProofs (disch:=omega) only [push_cast,simprocAttr,hb,↓gd]
   ·simp -implicitDefEqProofs (disch:=omega) only [push_cast,simprocAttr,hc,↓gd]
  ·have hgt:fs > 0:=by omega
   simp -implicitDefEqProofs (disch:=omega) only [push_cast,simprocAttr,hv,hx0,hgt,↓gd]
   refine ((stream_ok he (h.app _) fs).as rfl).to ?_
   cases ha:atM strs fs with
   | none =>
    have hap:atP strs b fs=.nilp:=by rw [atP,ha]
    have hm:roomM ⟨ans,out,outM,inn,innM,came,strs,snd,rm,wait,bad⟩ ⟨8,false,fs,[x]⟩=⟨ans,out,outM,inn,innM,came,strs,snd,rm,wait,bad⟩:=by rw [roomM]; simp only [ha,hs0]; simp
    rw [hm]
    simp -implicitDefEqProofs (disch:=omega) only [push_cast,simprocAttr,hap,↓gd]
    exact ⟨_,_,Wk.refl _ _ _,rfl,.stay h⟩
   | some k =>
    obtain ⟨hk,hid⟩:=atM_some ha
    have hap:atP strs b fs=.ptr b (k * 12):=by rw [atP,ha]
    have hsf:=stOk_flow (stsOk_at hsts hk)
    have hrm:=strsC_get hk (c:=11) (by decide)
    have hput:∀v s',strC s'=(strC (strs.getD k st0)).set 11 v→splice (strsC strs) (k * 12+11) [v]=strsC (strs.set k s'):=fun v s'=>strsC_put hk (by decide)
    have hm:roomM ⟨ans,out,outM,inn,innM,came,strs,snd,rm,wait,bad⟩ ⟨8,false,fs,[x]⟩=⟨ans,out,outM,inn,innM,came,strs.set k { strs.getD k st0 with room:=min ((strs.getD k st0).room+x.toNat) 31 },snd,rm,wait,bad⟩:=by
     rw [roomM]; simp only [ha,hs0,stAt,setSt]; simp [byteAt]
    rw [hm]
    clear hm hid
    generalize strs.getD k st0=s at hrm hput hsf
    obtain ⟨sid,sst,shd,ssay,sbg,ssd,ssent,sgot,stx,shrd,ssnd,srm⟩:=s
    simp only at hsf
    have hput:=hput _ ⟨sid,sst,shd,ssay,sbg,ssd,ssent,sgot,stx,shrd,ssnd,min (srm+x.toNat) 31⟩ rfl
    simp -implicitDefEqProofs (disch:=omega) only [push_cast,simprocAttr,hap,hv,hb,hrm,hx0,emin,hput,↓gd]
    repeat refine And.intro (by omega) ?_
    refine ⟨_,_,Wk.refl _ _ _,rfl,PtrTo.mk' b c ?_ ?_ ?_ (.inl rfl) (.inl rfl) (((Upd.refl _ _).set _ (.inr (by simp))).app _)⟩
    ·simp -implicitDefEqProofs (disch:=omega) only [push_cast,simprocAttr,hv,↓gd]
    ·simp -implicitDefEqProofs (disch:=omega) only [push_cast,simprocAttr,↓gd]
    ·simp -implicitDefEqProofs (disch:=omega) only [push_cast,simprocAttr,hc,↓gd]
 ·have hm:roomM ⟨ans,out,outM,inn,innM,came,strs,snd,rm,wait,bad⟩ ⟨fk,fl,fs,fb⟩=⟨ans,out,outM,inn,innM,came,strs,snd,rm,wait,bad⟩:=by simp [roomM,hk]
  rw [hm]
  simp -implicitDefEqProofs (disch:=omega) only [push_cast,simprocAttr,hk,↓gd]
  exact ⟨_,_,Wk.refl _ _ _,rfl,.stay h⟩
end
section
open Go
def Res (own:Bool) (S:List Blk) (vo vi:V) (b c:Nat) (e:En) (S':List Blk):Prop :=
 if own then ∃po pi ls,vo=.heap po e.out.length∧vi=.heap pi e.inn.length∧EnO S po pi b c ls e S'
 else vo=.rows none (e.out.map fV)∧vi=.rows none (e.inn.map fV)∧EnNew S e b c S'
def RRes (own:Bool) (S:List Blk) (e:En) (v:V) (S':List Blk):Prop:=∃vo vi b c,v=xV vo vi b c e∧Res own S vo vi b c e S'
section
variable {ow:Bool} {S S' X:List Blk} {vo vi:V} {b c:Nat} {e:En}
theorem Res.cases (h:Res ow S vo vi b c e S'):(ow=true∧∃po pi ls,vo=.heap po e.out.length∧vi=.heap pi e.inn.length∧EnO S po pi b c ls e S')∨(ow=false∧vo=.rows none (e.out.map fV)∧vi=.rows none (e.inn.map fV)∧EnNew S e b c S'):=by
 unfold Res at h
 cases ow
 ·exact .inr ⟨rfl,by simpa using h⟩
 ·exact .inl ⟨rfl,by simpa using h⟩
theorem Res.mkO (h:∃po pi ls,vo=.heap po e.out.length∧vi=.heap pi e.inn.length∧EnO S po pi b c ls e S'):Res true S vo vi b c e S':=by unfold Res; simpa using h
theorem Res.mkR (h:EnNew S e b c S'):Res false S (.rows none (e.out.map fV)) (.rows none (e.inn.map fV)) b c e S':=by unfold Res; simpa using h
theorem Res.one (h:Res ow S vo vi b c e S'):V.one vo=true∧V.one vi=true:=by
 rcases h.cases with ⟨_,_,_,_,rfl,rfl,_⟩ | ⟨_,rfl,rfl,_⟩ <;> exact ⟨rfl,rfl⟩
theorem Res.er (h:Res ow S vo vi b c e S'):eraseC vo=vo∧eraseC vi=vi:=by
 rcases h.cases with ⟨_,_,_,_,rfl,rfl,_⟩ | ⟨_,rfl,rfl,_⟩ <;> exact ⟨rfl,rfl⟩
theorem EnO.to {po pi:Nat} {ls:List XS} (h:EnO S po pi b c ls e S') {S2:List Blk} (hk:∀(p n:Nat) (cs:List V),n≠0→S'[p]?=some (.cells n cs)→S2[p]?=some (.cells n cs)) (hu:Upd [] S S2):EnO S po pi b c ls e S2 :=
 ⟨h.strs,hk _ _ _ (by decide) h.kb,hk _ _ _ (by decide) h.kc,hk _ _ _ (by decide) h.out,hk _ _ _ (by decide) h.inn,h.own.to (fun p cs=>hk p 3 cs (by decide)),h.lt,h.lo,h.hb,h.hc,hu⟩
theorem EnO.upd2 {po pi:Nat} {ls:List XS} (h:EnO S po pi b c ls e S') {S2:List Blk} (hu:Upd [] S' S2):EnO S po pi b c ls e S2:=h.to (fun p n cs _ hp=>hu.get hp (by simp)) (h.upd.trans hu)
theorem Res.upd (h:Res ow S vo vi b c e S'):Upd [] S S':=by
 rcases h.cases with ⟨_,_,_,_,_,_,h⟩ | ⟨_,_,_,h⟩
 ·exact h.upd
 ·exact h.upd
theorem Res.setVar (h:Res ow S vo vi b c e S') {j:Nat} {cs:List V} (B:Blk) (hj:S'[j]?=some (.cells 0 cs)) (hS:S.length≤j):Res ow S vo vi b c e (S'.set j B):=by
 have hk:∀(p n:Nat) (ds:List V),n≠0→S'[p]?=some (.cells n ds)→(S'.set j B)[p]?=some (.cells n ds):=fun p n ds hn hp=>by
  have:j≠p:=by rintro rfl; rw [hj] at hp; cases hp; exact hn rfl
  rw [List.getElem?_set_ne this]; exact hp
 rcases h.cases with ⟨rfl,po,pi,ls,h1,h2,h⟩ | ⟨rfl,rfl,rfl,g⟩
 ·exact .mkO ⟨po,pi,ls,h1,h2,h.to hk (h.upd.set _ (.inl hS))⟩
 ·exact .mkR ⟨⟨hk _ _ _ (by decide) g.at_.1,hk _ _ _ (by decide) g.at_.2⟩,g.hb,g.hc,g.upd.set _ (.inl hS)⟩
theorem Res.appR (h:Res ow S vo vi b c e S') (Y:List Blk):Res ow S vo vi b c e (S'++Y):=by
 rcases h.cases with ⟨rfl,po,pi,ls,h1,h2,h⟩ | ⟨rfl,rfl,rfl,g⟩
 ·exact .mkO ⟨po,pi,ls,h1,h2,h.upd2 ((Upd.refl _ _).app Y)⟩
 ·exact .mkR (g.appR Y)
theorem Res.of {T:List Blk} (h:Res ow T vo vi b c e S') (hu:Upd [] S T):Res ow S vo vi b c e S':=by
 have hl:=hu.1
 rcases h.cases with ⟨rfl,po,pi,ls,h1,h2,h⟩ | ⟨rfl,rfl,rfl,g⟩
 ·exact .mkO ⟨po,pi,ls,h1,h2,⟨h.strs,h.kb,h.kc,h.out,h.inn,h.own,h.lt,fun p hp=>Nat.le_trans hl (h.lo p hp),Nat.le_trans hl h.hb,Nat.le_trans hl h.hc,hu.trans h.upd⟩⟩
 ·exact .mkR ⟨g.at_,Nat.le_trans hl g.hb,Nat.le_trans hl g.hc,hu.trans g.upd⟩
end
theorem eclone_R (own:Bool) {e:En} (he:EnB e) {S:List Blk} {vo vi:V} {b c:Nat} {ls:List XS} (h:EnX S vo vi b c ls e):VCall Tryz.prog 42 [xV vo vi b c e] S fun r S'=>RRes own S e r S':=by
 cases own
 ·exact (eclone_X he h).mono fun r S' ⟨b',c',hr,hn⟩=>⟨_,_,b',c',hr,.mkR hn⟩
 ·exact (eclone_O he h).mono fun r S' ⟨po,pi,b',c',ls',hr,hn⟩=>⟨_,_,b',c',hr,.mkO ⟨po,pi,ls',rfl,rfl,hn⟩⟩
theorem RRes.zero (own:Bool) {S X:List Blk}:∃r S2,Wk S (.agg zE) (S++X) r S2∧RRes own S en0 r S2:=by
 cases own
 ·obtain ⟨r,S2,h1,b,c,rfl,h2⟩:=RNew.zero (S:=S) (X:=X)
  exact ⟨_,S2,h1,_,_,b,c,rfl,.mkR h2⟩
 ·obtain ⟨Z,hZ⟩:∃Z,Z=S++X:=⟨_,rfl⟩
  rw [←hZ]
  have n1:Wk S (.agg zE) Z (.agg (zE.set 1 (.heap Z.length 0))) (Z++[.cells 3 []]):=Wk.nh 3 (NH.aggAt (i:=1) rfl)
  have n2:Wk S (.agg (zE.set 1 (.heap Z.length 0))) (Z++[.cells 3 []]) (.agg ((zE.set 1 (.heap Z.length 0)).set 3 (.heap (Z.length+1) 0))) (Z++[.cells 3 [],.cells 3 []]):=by
   have:=Wk.nh (S0:=S) (S:=Z++[.cells 3 []]) 3 (NH.aggAt (n:=(Z++[Blk.cells 3 []]).length) (cs:=zE.set 1 (.heap Z.length 0)) (i:=3) rfl)
   simpa using this
  have n3:Wk S (.agg ((zE.set 1 (.heap Z.length 0)).set 3 (.heap (Z.length+1) 0))) (Z++[.cells 3 [],.cells 3 []]) (.agg (((zE.set 1 (.heap Z.length 0)).set 3 (.heap (Z.length+1) 0)).set 6 (.heap (Z.length+2) 0))) (Z++[.cells 3 [],.cells 3 [],.cells 12 []]):=by
   have:=Wk.nh (S0:=S) (S:=Z++[.cells 3 [],.cells 3 []]) 12 (NH.aggAt (n:=(Z++[Blk.cells 3 [],.cells 3 []]).length) (cs:=(zE.set 1 (.heap Z.length 0)).set 3 (.heap (Z.length+1) 0)) (i:=6) rfl)
   simpa using this
  have n4:Wk S (.agg (((zE.set 1 (.heap Z.length 0)).set 3 (.heap (Z.length+1) 0)).set 6 (.heap (Z.length+2) 0))) (Z++[.cells 3 [],.cells 3 [],.cells 12 []]) (.agg ((((zE.set 1 (.heap Z.length 0)).set 3 (.heap (Z.length+1) 0)).set 6 (.heap (Z.length+2) 0)).set 9 (.heap (Z.length+3) 0))) (Z++[.cells 3 [],.cells 3 [],.cells 12 [],.cells 4 []]):=by
   have:=Wk.nh (S0:=S) (S:=Z++[.cells 3 [],.cells 3 [],.cells 12 []]) 4 (NH.aggAt (n:=(Z++[Blk.cells 3 [],.cells 3 [],.cells 12 []]).length) (cs:=((zE.set 1 (.heap Z.length 0)).set 3 (.heap (Z.length+1) 0)).set 6 (.heap (Z.length+2) 0)) (i:=9) rfl)
   simpa using this
  have hl:S.length≤Z.length:=by rw [hZ,List.length_append]; omega
  have hu:Upd [] S Z:=by rw [hZ]; exact (Upd.refl _ _).app _
  refine ⟨_,_,((n1.trans n2).trans n3).trans n4,_,_,Z.length+2,Z.length+3,rfl,.mkO ⟨Z.length,Z.length+1,[],rfl,rfl,⟨rfl,?_,?_,?_,?_,(fun x hx=>by cases hx),by simp [fb],fun p hp=>by simp [fb] at hp; omega,by omega,by omega,hu.app _⟩⟩⟩
  ·rw [app_get]; rfl
  ·rw [app_get]; rfl
  ·rw [app_get0]; rfl
  ·rw [app_get]; rfl
theorem RRes.zeroT (own:Bool) {S X:List Blk} {xs:List V} (hx:∀x ∈ xs,Plain x):∃r S2,Wk S (.tup (.agg zE :: xs)) (S++X) r S2∧∃v,r=.tup (v :: xs)∧RRes own S en0 v S2:=by
 obtain ⟨r,S2,h1,h2⟩:=RRes.zero own (S:=S) (X:=X)
 exact ⟨_,S2,h1.fst hx,r,rfl,h2⟩
end
section
open Go
theorem small_cut:∀n:Nat,n < 100→10≤n→((([48,48,48,49,48,50,48,51,48,52,48,53,48,54,48,55,48,56,48,57,49,48,49,49,49,50,49,51,49,52,49,53,49,54,49,55,49,56,49,57,50,48,50,49,50,50,50,51,50,52,50,53,50,54,50,55,50,56,50,57,51,48,51,49,51,50,51,51,51,52,51,53,51,54,51,55,51,56,51,57,52,48,52,49,52,50,52,51,52,52,52,53,52,54,52,55,52,56,52,57,53,48,53,49,53,50,53,51,53,52,53,53,53,54,53,55,53,56,53,57,54,48,54,49,54,50,54,51,54,52,54,53,54,54,54,55,54,56,54,57,55,48,55,49,55,50,55,51,55,52,55,53,55,54,55,55,55,56,55,57,56,48,56,49,56,50,56,51,56,52,56,53,56,54,56,55,56,56,56,57,57,48,57,49,57,50,57,51,57,52,57,53,57,54,57,55,57,56,57,57]:List UInt8).take (2 * n+2)).drop (2 * n))=[by8 (48+n / 10),by8 (48+n % 10)]:=by decide
theorem dig_cut:∀n:Nat,n < 10→((([48,49,50,51,52,53,54,55,56,57,97,98,99,100,101,102,103,104,105,106,107,108,109,110,111,112,113,114,115,116,117,118,119,120,121,122]:List UInt8).take (n+1)).drop n)=[by8 (48+n)]:=by decide
theorem small_ok (n:Nat) (hn:n < 100) (S:List Blk):VCall Tryz.prog 184 [.int .i64 n] S fun r S'=>r=.str (decM n)∧S'=S:=by
 refine VCall.en hD Tryz.func184 Tryz.ntmps184 Tryz.results184 ?_
 by_cases h:n < 10
 ·have h':(n:Int) < 10:=by omega
  have e:((n:Int)+1).toNat=n+1:=by omega
  simp -implicitDefEqProofs (disch:=omega) only [push_cast,simprocAttr,h',e,↓gd]
  repeat refine And.intro (by omega) ?_
  exact fin0 (by rw [decM_small h]; exact congrArg V.str (dig_cut n h))
 ·have h':¬(n:Int) < 10:=by omega
  have e1:((n:Int) * 2).toNat=2 * n:=by omega
  have e2:((n:Int) * 2+2).toNat=2 * n+2:=by omega
  have hd:decM n=[by8 (48+n / 10),by8 (48+n % 10)]:=by rw [decM_big h,decM_small (by omega)]; rfl
  simp -implicitDefEqProofs (disch:=omega) only [push_cast,simprocAttr,h',e1,e2,↓gd]
  refine ⟨by omega,by omega,?_,fin0 ?_⟩
  ·show (n:Int) * 2+2≤((200:Nat):Int)
   omega
  ·rw [hd]
   exact congrArg V.str (small_cut n hn (by omega))
theorem FormatInt_ok (n:Nat) (hn:n < 100) (S:List Blk):VCall Tryz.prog 168 [.int .i64 n,.int .i64 10] S fun r S'=>r=.str (decM n)∧S'=S:=by
 have h0:(0:Int)≤n:=by omega
 have h1:(n:Int) < 100:=by omega
 refine VCall.en hD Tryz.func168 Tryz.ntmps168 Tryz.results168 ?_
 simp -implicitDefEqProofs (disch:=omega) only [push_cast,simprocAttr,h0,h1,↓gd]
 refine (small_ok n hn _).to ?_
 simp -implicitDefEqProofs (disch:=omega) only [push_cast,simprocAttr,↓gd]
 exact fin0 rfl
theorem iItoa_ok (n:Nat) (hn:n < 100) (S:List Blk):VCall Tryz.prog 153 [.int .i64 n] S fun r S'=>r=.str (decM n)∧S'=S:=by
 refine VCall.en hD Tryz.func153 Tryz.ntmps153 Tryz.results153 ?_
 simp -implicitDefEqProofs (disch:=omega) only [push_cast,simprocAttr,↓gd]
 refine (FormatInt_ok n hn _).to ?_
 simp -implicitDefEqProofs (disch:=omega) only [push_cast,simprocAttr,↓gd]
 exact fin0 rfl
theorem Itoa_ok (n:Nat) (hn:n < 100) (S:List Blk):VCall Tryz.prog 135 [.int .i64 n] S fun r S'=>r=.str (decM n)∧S'=S:=by
 refine VCall.en hD Tryz.func135 Tryz.ntmps135 Tryz.results135 ?_
 simp -implicitDefEqProofs (disch:=omega) only [push_cast,simprocAttr,↓gd]
 refine (iItoa_ok n hn _).to ?_
 simp -implicitDefEqProofs (disch:=omega) only [push_cast,simprocAttr,↓gd]
 exact fin0 rfl
theorem get_ok (h:List Fd) (hl:FdsB h) (name:List UInt8) (S:List Blk):VCall Tryz.prog 151 [.rows none (h.map fV),.str name] S fun r S'=>r=.tup [.str (getM h name).1,.bool (getM h name).2]∧S'=S:=by
 have hlen:=hl.1
 have hcl:∀a b,Cl S.length (.tup [.str a,.bool b]):=fun a b=>Cl.two (.str _) (.bool _)
 refine VCall.en hD Tryz.func151 Tryz.ntmps151 Tryz.results151 ?_
 simp -implicitDefEqProofs (disch:=omega) only [push_cast,simprocAttr,↓gd]
 refine wpV_loop (fun m t S'=>∃(i:Nat) (X:List Blk),m=h.length - i∧i≤h.length∧(∀j,j < i→(h.getD j fd0).name≠name)∧t 1=.str name∧t 8=.rows none (h.map fV)∧t 9=.int .i64 h.length∧t 10=.int .i64 i∧S'=S++X) h.length ⟨0,[],by omega,by omega,by omega,rfl,rfl,rfl,rfl,by simp⟩ ?_
 rintro m t S' ⟨i,X,rfl,hi,hno,h1,h8,h9,h10,rfl⟩
 refine wpV_of0 hD ?_
 simp -implicitDefEqProofs (disch:=omega) only [push_cast,simprocAttr,h1,h8,h9,h10,↓gd]
 refine ⟨fun q=>?_,fun q=>?_⟩
 ·have hil:i < h.length:=by omega
  have hgd:=getD_fV hil
  have hat:=getM_at (name:=name) hil hno
  generalize hf:h.getD i fd0=f at hgd hat
  by_cases hq:f.name=name
  ·have hm:=hat hq
   have hq':=eq_true hq
   simp -implicitDefEqProofs (disch:=omega) only [push_cast,simprocAttr,h1,h8,h9,h10,hgd,hq',↓gd]
   repeat refine And.intro (by omega) ?_
   exact fin1 (hcl _ _) (by rw [hm])
  ·simp -implicitDefEqProofs (disch:=omega) only [push_cast,simprocAttr,h1,h8,h9,h10,hgd,hq,↓gd]
   repeat refine And.intro (by omega) ?_
   refine ⟨h.length - (i+1),by omega,i+1,_,rfl,by omega,fun j hj=>?_,by simp,rfl⟩
   by_cases e1:j=i
   ·rw [e1,hf]; exact hq
   ·exact hno j (by omega)
 ·exact fin1 (hcl _ _) (by rw [getM_no (fun j hj=>hno j (by omega))])
end
section
open Go
theorem hDu:TypesOk Tryz.prog (wrOf D [5]):=wrOk hD _
theorem u8s_len (s:List UInt8):(u8s s).length=s.length:=by simp [u8s]
theorem u8s_get {s:List UInt8} {i:Nat} (h:i < s.length):(u8s s)[i]?=some (.int .u8 ((s.getD i 0).toNat:Int)):=by
 simp [u8s,List.getElem?_eq_getElem h,List.getD]
theorem u8s_all (s:List UInt8):(u8s s).all isU8=true:=by simp [u8s,isU8]
theorem u8s_back (s:List UInt8):(u8s s).map byteOfV=s:=by
 simp [u8s,byteOfV,Function.comp_def]
theorem u8s_set {s:List UInt8} {i:Nat} {x:UInt8}:splice (u8s s) i [.int .u8 (x.toNat:Int)]=u8s (s.set i x):=by
 rw [splice_one]; simp [u8s,List.map_set]
theorem up_mix_get {w:List UInt8} {i:Nat} (h:i < w.length):(upM (w.take i)++w.drop i).getD i 0=w.getD i 0:=by
 have hl:(upM (w.take i)).length=i:=by rw [upM_len]; simp; omega
 rw [List.getD_eq_getElem?_getD,List.getElem?_append_right (by omega),hl,Nat.sub_self,List.getElem?_drop,Nat.add_zero,←List.getD_eq_getElem?_getD]
theorem up_mix_set {w:List UInt8} {i:Nat} (h:i < w.length):(upM (w.take i)++w.drop i).set i (if 97≤(w.getD i 0).toNat∧(w.getD i 0).toNat < 122 then by8 ((w.getD i 0).toNat+1) else w.getD i 0)=upM (w.take (i+1))++w.drop (i+1):=by
 have hl:(upM (w.take i)).length=i:=by rw [upM_len]; simp; omega
 rw [List.set_append_right _ _ (by omega),hl,Nat.sub_self,upM_take h,List.append_assoc]
 congr 1
 rw [List.drop_eq_getElem_cons h]
 rfl
theorem lt_of_get {α:Type} {l:List α} {i:Nat} {x:α} (h:l[i]?=some x):i < l.length:=by
 rcases Nat.lt_or_ge i l.length with g | g
 ·exact g
 ·rw [List.getElem?_eq_none g] at h; cases h
theorem EndAnswer_ok (path text:List UInt8) (ht:text.length < 100) (S:List Blk):VCall Tryz.prog 152 [.str path,.str text] S fun r S'=>r=.tup [.str (answerM path text).1,.str (answerM path text).2]∧S'=S:=by
 refine VCall.ex hDu (fun _=>false) (fun id=>if id=12 then [4,4,4,4] else []) Tryz.func152 Tryz.ntmps152 Tryz.results152 ?_
 by_cases h1:path=sEcho
 ·have h1':(path=[47,101,99,104,111])=True:=eq_true h1
  simp -implicitDefEqProofs (disch:=omega) only [push_cast,simprocAttr,h1',↓gd]
  exact fin0 (by rw [answerM,if_pos h1])
 ·have h1':¬path=[47,101,99,104,111]:=h1
  by_cases h2:path=sUp
  ·have h2':(path=[47,117,112])=True:=eq_true h2
   simp -implicitDefEqProofs (disch:=omega) only [push_cast,simprocAttr,h1',h2',↓gd]
   refine wpV_loop (fun m t S'=>∃i:Nat,m=text.length - i∧i≤text.length∧t 6=.heap S.length text.length∧t 17=.heap S.length text.length∧t 18=.int .i64 text.length∧t 19=.int .i64 i∧S'=S++[.cells (1000000 * (5+1)+1) (u8s (upM (text.take i)++text.drop i))]) text.length
    ⟨0,by omega,by omega,rfl,rfl,rfl,rfl,by simp [upM]⟩ ?_
   rintro m t S' ⟨i,rfl,hi,h6,h17,h18,h19,rfl⟩
   refine wpV_of hDu (fun _=>false) (fun id=>if id=12 then [4,4,4,4] else []) (by kernel_rfl) ?_
   have hml:(upM (text.take i)++text.drop i).length=text.length:=by rw [List.length_append,upM_len]; simp; omega
   have hcl:=u8s_len (upM (text.take i)++text.drop i)
   simp -implicitDefEqProofs (disch:=omega) only [push_cast,simprocAttr,h6,h17,h18,h19,↓gd]
   refine ⟨fun q=>?_,fun q=>?_⟩
   ·have hil:i < text.length:=by omega
    have hg:=u8s_get (s:=upM (text.take i)++text.drop i) (i:=i) (by omega)
    have hset:=up_mix_set hil
    rw [up_mix_get hil] at hg
    have hb:=UInt8.toNat_lt (text.getD i 0)
    have hsp:=fun x:UInt8=>u8s_set (s:=upM (text.take i)++text.drop i) (i:=i) (x:=x)
    generalize text.getD i 0=x at hg hset hb
    generalize u8s (upM (text.take i)++text.drop i)=cs at hg hcl hsp
    have same:∀{l:List UInt8},(upM (text.take i)++text.drop i).set i x=l→cs=u8s l:=fun {l} q=>by
     rw [←q,←hsp,splice_one]
     apply List.ext_getElem?
     intro j
     rw [List.getElem?_set]
     by_cases e:i=j
     ·subst e
      rw [if_pos rfl,if_pos (lt_of_get hg),hg]
     ·rw [if_neg e]
    by_cases c1:97≤x.toNat
    ·by_cases c2:x.toNat < 122
     ·rw [if_pos ⟨c1,c2⟩] at hset
      have q1:(97:Int)≤(x.toNat:Int):=by omega
      have q2:(x.toNat:Int)≤121:=by omega
      simp -implicitDefEqProofs (disch:=omega) only [push_cast,simprocAttr,h6,h17,h18,h19,Nat.mul_one,hg,q1,q2,↓gd]
      repeat refine And.intro (by omega) ?_
      have e1:((by8 (x.toNat+1)).toNat:Int)=(x.toNat:Int)+1:=by
       rw [by8,UInt8.toNat_ofNat']
       omega
      have e2:=hsp (by8 (x.toNat+1))
      rw [e1,hset] at e2
      exact ⟨text.length - (i+1),by omega,i+1,rfl,by omega,by simp,by rw [e2]⟩
     ·rw [if_neg (by omega)] at hset
      have q1:(97:Int)≤(x.toNat:Int):=by omega
      have q2:¬(x.toNat:Int)≤121:=by omega
      simp -implicitDefEqProofs (disch:=omega) only [push_cast,simprocAttr,h6,h17,h18,h19,Nat.mul_one,hg,q1,q2,↓gd]
      repeat refine And.intro (by omega) ?_
      exact ⟨text.length - (i+1),by omega,i+1,rfl,by omega,by simp,by rw [same hset]⟩
    ·rw [if_neg (by omega)] at hset
     have q1:¬(97:Int)≤(x.toNat:Int):=by omega
     simp -implicitDefEqProofs (disch:=omega) only [push_cast,simprocAttr,h6,h17,h18,h19,Nat.mul_one,hg,q1,↓gd]
     repeat refine And.intro (by omega) ?_
     exact ⟨text.length - (i+1),by omega,i+1,rfl,by omega,by simp,by rw [same hset]⟩
   ·have:i=text.length:=by omega
    subst this
    refine ⟨by omega,?_,?_⟩
    ·rw [List.take_of_length_le (by omega)]; exact u8s_all _
    ·rw [List.take_of_length_le (by omega),List.take_of_length_le (by omega),List.drop_of_length_le (by omega),List.append_nil,u8s_back]
     exact fin1 (Cl.two (.str _) (.str _)) (by rw [answerM,if_neg h1,if_pos h2])
  ·have h2':¬path=[47,117,112]:=h2
   by_cases h3:path=sLen
   ·have h3':(path=[47,108,101,110])=True:=eq_true h3
    simp -implicitDefEqProofs (disch:=omega) only [push_cast,simprocAttr,h1',h2',h3',↓gd]
    refine (Itoa_ok _ (by omega) _).to ?_
    simp -implicitDefEqProofs (disch:=omega) only [push_cast,simprocAttr,↓gd]
    exact fin0 (by rw [answerM,if_neg h1,if_neg h2,if_pos h3])
   ·have h3':¬path=[47,108,101,110]:=h3
    simp -implicitDefEqProofs (disch:=omega) only [push_cast,simprocAttr,h1',h2',h3',↓gd]
    refine fin0 ?_
    rw [answerM,if_neg h1,if_neg h2,if_neg h3]
end
end Go.Proofs.YtldogccmhncnoaaGreatDoor
