/- A part of the proof: contracts of functions, or plain facts on which these lean. -/
import Derived.Test.YtldogccmhncnoaaGreatMk19
import Derived.Test.YtldogccmhncnoaaGreatMk20
namespace Go.Proofs.YtldogccmhncnoaaGreat
open Go
set_option linter.unusedVariables false
set_option linter.unusedSimpArgs false
set_option maxRecDepth 100000
set_option maxHeartbeats 16000000

section
open Go
def xb:V→Nat
 | .heap p _=>p
 | _=>0
def fb (ls:List XS):List Nat:=ls.flatMap fun x=>[xb x.2.1,xb x.2.2]
theorem fb_app (l k:List XS):fb (l++k)=fb l++fb k:=by simp [fb]
def OwnL (S:List Blk) (ls:List XS):Prop:=∀x ∈ ls,(∃p,x.2.1=.heap p x.1.head.length∧S[p]?=some (.cells 3 (fcs x.1.head)))∧(∃p,x.2.2=.heap p x.1.got.length∧S[p]?=some (.cells 3 (fcs x.1.got)))
theorem OwnL.fl {S:List Blk} {ls:List XS} (h:OwnL S ls):∀x ∈ ls,FL S x.1.head x.2.1∧FL S x.1.got x.2.2:=fun x hx=>by
 obtain ⟨⟨p,h1,h2⟩,⟨q,h3,h4⟩⟩:=h x hx
 rw [h1,h3]
 exact ⟨.own h2,.own h4⟩
theorem OwnL.to {S S':List Blk} {ls:List XS} (h:OwnL S ls) (hk:∀(p:Nat) (cs:List V),S[p]?=some (.cells 3 cs)→S'[p]?=some (.cells 3 cs)):OwnL S' ls:=fun x hx=>by
 obtain ⟨⟨p,h1,h2⟩,⟨q,h3,h4⟩⟩:=h x hx
 exact ⟨⟨p,h1,hk _ _ h2⟩,⟨q,h3,hk _ _ h4⟩⟩
theorem OwnL.app {S:List Blk} {l k:List XS} (h:OwnL S l) (g:OwnL S k):OwnL S (l++k):=fun x hx=>(List.mem_append.1 hx).elim (h x) (g x)
theorem OwnL.lt {S:List Blk} {ls:List XS} (h:OwnL S ls):∀p ∈ fb ls,p < S.length:=fun p hp=>by
 obtain ⟨x,hx,hp⟩:=List.mem_flatMap.1 hp
 obtain ⟨⟨p1,h1,h2⟩,⟨q1,h3,h4⟩⟩:=h x hx
 simp only [List.mem_cons,List.not_mem_nil,or_false] at hp
 rcases hp with rfl | rfl
 ·rw [h1]; exact lt_of_some h2
 ·rw [h3]; exact lt_of_some h4
structure EnO (S:List Blk) (po pi b c:Nat) (ls:List XS) (e:En) (S':List Blk):Prop where
 strs:ls.map Prod.fst=e.strs
 kb:S'[b]?=some (.cells 12 (xsC ls))
 kc:S'[c]?=some (.cells 4 (frmsC e.wait))
 out:S'[po]?=some (.cells 3 (fcs e.out))
 inn:S'[pi]?=some (.cells 3 (fcs e.inn))
 own:OwnL S' ls
 lt:(po :: pi :: fb ls).Pairwise (· < ·)
 lo:∀p ∈ po :: pi :: fb ls,S.length≤p
 hb:S.length≤b
 hc:S.length≤c
 upd:Upd [] S S'
theorem EnO.x {S:List Blk} {po pi b c:Nat} {ls:List XS} {e:En} {S':List Blk} (h:EnO S po pi b c ls e S'):EnX S' (.heap po e.out.length) (.heap pi e.inn.length) b c ls e :=
 ⟨h.strs,h.kb,h.kc,.own h.out,.own h.inn,h.own.fl⟩
def ONew (S:List Blk) (e:En) (v:V) (S':List Blk):Prop:=∃po pi b c ls,v=xV (.heap po e.out.length) (.heap pi e.inn.length) b c e∧EnO S po pi b c ls e S'
theorem set_get {S X:List Blk} {L p n:Nat} {B:Blk} {cs ds:List V} (hL:S[L]?=some (.cells 12 ds)) (hp:S[p]?=some (.cells n cs)) (hn:n≠12):(S.set L B++X)[p]?=some (.cells n cs):=by
 have hne:L≠p:=by rintro rfl; rw [hL] at hp; cases hp; exact hn rfl
 rw [List.getElem?_append_left (by rw [List.length_set]; exact lt_of_some hp),List.getElem?_set_ne hne]
 exact hp
theorem getD_memX {ls:List XS} {i:Nat} (h:i < ls.length):ls.getD i xs0 ∈ ls:=by rw [List.getD_eq_getElem?_getD,List.getElem?_eq_getElem h]; exact List.getElem_mem h
theorem pair_snoc2 {l:List Nat} {p q:Nat} (h:l.Pairwise (· < ·)) (hp:∀x ∈ l,x < p) (hq:p < q):(l++[p,q]).Pairwise (· < ·):=by
 rw [List.pairwise_append]
 refine ⟨h,by simp [hq],fun a ha b hb=>?_⟩
 simp only [List.mem_cons,List.not_mem_nil,or_false] at hb
 have:=hp a ha
 rcases hb with rfl | rfl <;> omega
theorem eclone_O {e:En} (he:EnB e) {S:List Blk} {vo vi:V} {b c:Nat} {ls:List XS} (h:EnX S vo vi b c ls e):VCall Tryz.prog 22 [xV vo vi b c e] S fun r S'=>ONew S e r S':=by
 have hln:=h.len
 have hfst:=xs_fst h.strs
 obtain ⟨hls,hb,hc,hvo,hvi,hh⟩:=h
 have vo1:=hvo.one
 have vi1:=hvi.one
 have voe:=hvo.er
 have vie:=hvi.er
 have voe1:=hvo.er1
 have vie1:=hvi.er1
 have hbl:=lt_of_some hb
 have hcl:=lt_of_some hc
 have hlen:=xsC_len ls
 have hlw:=frmsC_len e.wait
 have hwn:=he.wait
 have hel:=he.len
 refine VCall.ex hDe (fun _=>false) (fun id=>if id=1 then [2,2,5,5,5,8,8,8,10,10,12,12,14,14,15] else if id=6 then [2,2,5,5,5,7,7,9,9,10] else []) Tryz.func22 Tryz.ntmps22 Tryz.results22 ?_
 simp -implicitDefEqProofs (disch:=omega) only [push_cast,simprocAttr,vo1,vi1,voe,vie,↓gd]
 refine ((tclone_O e.out e.outM he.out (hvo.app _)).as (by simp [voe,voe1])).mono ?_
 rintro r Sa ⟨po,rfl,ho1,ho2,ho3⟩
 have a0:=ho3.get (j:=S.length) (B:=.cells 0 (enX vo vi (.heap b e.strs.length) (.heap c e.wait.length) e)) (by simp -implicitDefEqProofs (disch:=omega) only [push_cast,simprocAttr,↓gd]) (by simp)
 have a1:=ho3.get (j:=S.length+1) (B:=.cells 0 zE) (by simp -implicitDefEqProofs (disch:=omega) only [push_cast,simprocAttr,↓gd]) (by simp)
 have la0:=lt_of_some a0
 have la1:=lt_of_some a1
 simp only [List.length_append,List.length_cons,List.length_nil] at ho2
 have hua:Upd [] S Sa:=((Upd.refl [] S).app _).trans ho3
 simp -implicitDefEqProofs (disch:=omega) only [push_cast,simprocAttr,a0,vo1,vi1,voe,vie,↓gd]
 refine ((tclone_O e.inn e.innM he.inn (hvi.upd hua)).as (by simp [vie,vie1])).mono ?_
 rintro r Sb ⟨pi,rfl,hi1,hi2,hi3⟩
 have b0:=hi3.get a0 (by simp)
 have b1:=hi3.get a1 (by simp)
 have lb0:=lt_of_some b0
 have lb1:=lt_of_some b1
 have hub:=hua.trans hi3
 have hcb:=hub.get hc (by simp)
 have lcb:=lt_of_some hcb
 simp -implicitDefEqProofs (disch:=omega) only [push_cast,simprocAttr,a0,b0,hcb,vo1,vi1,voe,vie,↓gd]
 repeat refine And.intro (by omega) ?_
 rw [frmsC_all,frmsC_erase]
 have c2:=hi3.get ho1 (by simp)
 have lpo:=lt_of_some ho1
 have lpi:=lt_of_some hi1
 refine wpV_loop (fun m t S1=>∃(i L:Nat) (hs:List XS),m=e.strs.length - i∧i≤e.strs.length∧t 1=.ptr S.length 0∧t 2=.ptr (S.length+1) 0∧t 19=.heap b e.strs.length∧t 20=.int .i64 e.strs.length∧t 21=.int .i64 i∧S.length≤L ∧
  (i=0∧t 3=.nils∨t 3=.heap L i∧S1[L]?=some (.cells 12 (xsC hs)))∧hs.map Prod.fst=e.strs.take i∧Upd [] S S1 ∧
  S1[S.length]?=some (.cells 0 (enX (.heap po e.out.length) (.heap pi e.inn.length) (.heap b e.strs.length) (.heap Sb.length e.wait.length) e)) ∧
  S1[S.length+1]?=some (.cells 0 zE)∧S1[Sb.length]?=some (.cells 4 (frmsC e.wait))∧S1[po]?=some (.cells 3 (fcs e.out))∧S1[pi]?=some (.cells 3 (fcs e.inn))∧OwnL S1 hs ∧
  (po :: pi :: fb hs).Pairwise (· < ·)∧(∀p ∈ po :: pi :: fb hs,S.length≤p)) e.strs.length
  ⟨0,S.length,[],by omega,by omega,rfl,rfl,rfl,rfl,rfl,Nat.le_refl _,.inl ⟨rfl,rfl⟩,by simp,(hub.set _ (.inl (Nat.le_refl _))).app _,?_,?_,?_,?_,?_,fun x hx=>(by cases hx),?_,?_⟩ ?_
 ·simp -implicitDefEqProofs (disch:=omega) only [push_cast,simprocAttr,↓gd]
 ·simp -implicitDefEqProofs (disch:=omega) only [push_cast,simprocAttr,b1,↓gd]
 ·simp -implicitDefEqProofs (disch:=omega) only [push_cast,simprocAttr,↓gd]
 ·have hne:S.length≠po:=by omega
  simp -implicitDefEqProofs (disch:=omega) only [push_cast,simprocAttr,c2,↓gd]
 ·have hne:S.length≠pi:=by have:=ho3.1; simp at this; omega
  simp -implicitDefEqProofs (disch:=omega) only [push_cast,simprocAttr,hi1,↓gd]
 ·simp [fb]; omega
 ·intro p hp
  have:=hua.1
  simp [fb] at hp
  omega
 rintro m t S1 ⟨i,L,hs,rfl,hi,h1,h2,h19,h20,h21,hL,h3,hfs,hu,k0,k1,kw,ko,ki,hown,hlt,hlo⟩
 have l0:=lt_of_some k0
 have l1:=lt_of_some k1
 have kb:=hu.get hb (by simp)
 have lb:=lt_of_some kb
 refine wpV_of hDe (fun _=>false) (fun id=>if id=6 then [2,2,5,5,5,7,7,9,9,10] else []) (by kernel_rfl) ?_
 simp -implicitDefEqProofs (disch:=omega) only [push_cast,simprocAttr,h1,h19,h20,h21,k0,↓gd]
 refine ⟨fun h=>?_,fun h=>?_⟩
 ·have hil:i < e.strs.length:=by omega
  have hil0:i < ls.length:=by omega
  have hat:=xsC_at hil0
  have hxm:=hh (ls.getD i xs0) (getD_memX hil0)
  have hsb:=he.sts _ (getD_memS hil)
  have hfi:=hfst i
  have htk:=take_st hil
  rw [←hfi] at hsb htk
  generalize ls.getD i xs0=xx at hat hsb htk hxm
  obtain ⟨s,vh,vg⟩:=xx
  obtain ⟨hvh,hvg⟩:=hxm
  simp only [xsF] at hat hsb htk hvh hvg
  have vh1:=hvh.one
  have vg1:=hvg.one
  have vhe:=hvh.er
  have vge:=hvg.er
  have vhe1:=hvh.er1
  have vge1:=hvg.er1
  have hlh:=xsC_len hs
  have hfl:hs.length=i:=by have:=congrArg List.length hfs; rw [List.length_map,List.length_take] at this; omega
  simp -implicitDefEqProofs (disch:=omega) only [push_cast,simprocAttr,h1,h2,h19,h21,k0,k1,kb,hat,vh1,vg1,vhe,vge,↓gd]
  repeat refine And.intro (by omega) ?_
  refine ((cloneFields_O s.head (by have:=hsb.head.1; omega) ((hvh.upd hu).app _)).as (by first | rfl | simp [vhe,vhe1])).to ?_
  simp -implicitDefEqProofs (disch:=omega) only [push_cast,simprocAttr,k0,k1,vh1,vg1,vhe,vge,↓gd]
  refine ((cloneFields_O s.got (by have:=hsb.got.1; omega) ((hvg.upd hu).app _)).as (by first | rfl | simp [vge,vge1])).to ?_
  have q1:(hs++[(s,V.heap (S1.length+1) s.head.length,V.heap (S1.length+2) s.got.length)]).map Prod.fst=e.strs.take (i+1):=by rw [List.map_append,hfs,htk]; rfl
  have q2:∀(Z:List Blk),(∀(p n:Nat) (cs:List V),n≠12→S1[p]?=some (.cells n cs)→Z[p]?=some (.cells n cs))→Z[S1.length+1]?=some (.cells 3 (fcs s.head))→Z[S1.length+2]?=some (.cells 3 (fcs s.got))→OwnL Z (hs++[(s,V.heap (S1.length+1) s.head.length,V.heap (S1.length+2) s.got.length)]):=fun Z hZ hZ1 hZ2 =>
   (hown.to (fun p cs=>hZ p 3 cs (by decide))).app (fun x hx=>by rw [List.mem_singleton.1 hx]; exact ⟨⟨_,rfl,hZ1⟩,⟨_,rfl,hZ2⟩⟩)
  have q3:(po :: pi :: fb (hs++[(s,V.heap (S1.length+1) s.head.length,V.heap (S1.length+2) s.got.length)])).Pairwise (· < ·):=by
   rw [fb_app]
   show ((po :: pi :: fb hs)++[S1.length+1,S1.length+2]).Pairwise (· < ·)
   refine pair_snoc2 hlt (fun x hx=>?_) (by omega)
   have h4:=lt_of_some ko
   have h5:=lt_of_some ki
   simp only [List.mem_cons] at hx
   rcases hx with rfl | rfl | hx
   ·omega
   ·omega
   ·have:=hown.lt x hx; omega
  have q4:∀p ∈ fb (hs++[(s,V.heap (S1.length+1) s.head.length,V.heap (S1.length+2) s.got.length)]),S.length≤p:=by
   intro p hp
   rw [fb_app] at hp
   have:=hu.1
   rcases List.mem_append.1 hp with hp | hp
   ·exact hlo p (by simp [hp])
   ·simp only [fb,xb,List.flatMap_cons,List.flatMap_nil,List.mem_append,List.mem_cons,List.not_mem_nil,or_false] at hp
    omega
  have q5:=hlo po (by simp)
  have q6:=hlo pi (by simp)
  have hZ:∀(X:List Blk) (p n:Nat) (cs:List V),n≠12→S1[p]?=some (.cells n cs)→(S1++X)[p]?=some (.cells n cs):=fun X p n cs _ hp=>by rw [List.getElem?_append_left (lt_of_some hp)]; exact hp
  rcases h3 with ⟨rfl,h3⟩ | ⟨h3,kL⟩
  ·have hs0:hs=[]:=List.length_eq_zero_iff.1 hfl
   subst hs0
   simp -implicitDefEqProofs (disch:=omega) only [push_cast,simprocAttr,h3,h21,k0,k1,vh1,vg1,vhe,vge,↓gd]
   refine ⟨e.strs.length - 1,by omega,1,S1.length+4,[]++[(s,V.heap (S1.length+1) s.head.length,V.heap (S1.length+2) s.got.length)],rfl,by omega,h1,h2,h19,h20,rfl,by have:=hu.1; omega,⟨rfl,by simp -implicitDefEqProofs (disch:=omega) only [push_cast,simprocAttr,↓gd]; rfl⟩,q1,hu.app _,?_⟩
   first
    | exact ⟨q2 _ (hZ _) (by simp -implicitDefEqProofs (disch:=omega) only [push_cast,simprocAttr,↓gd]) (by simp -implicitDefEqProofs (disch:=omega) only [push_cast,simprocAttr,↓gd]),q3,q5,q6,q4⟩
    | exact ⟨k0,k1,hZ _ _ _ _ (by decide) kw,hZ _ _ _ _ (by decide) ko,hZ _ _ _ _ (by decide) ki,q2 _ (hZ _) (by simp -implicitDefEqProofs (disch:=omega) only [push_cast,simprocAttr,↓gd]) (by simp -implicitDefEqProofs (disch:=omega) only [push_cast,simprocAttr,↓gd]),q3,q5,q6,q4⟩
    | exact ⟨hZ _ _ _ _ (by decide) kw,hZ _ _ _ _ (by decide) ko,hZ _ _ _ _ (by decide) ki,q2 _ (hZ _) (by simp -implicitDefEqProofs (disch:=omega) only [push_cast,simprocAttr,↓gd]) (by simp -implicitDefEqProofs (disch:=omega) only [push_cast,simprocAttr,↓gd]),q3,q5,q6,q4⟩
  ·have lL:=lt_of_some kL
   simp -implicitDefEqProofs (disch:=omega) only [push_cast,simprocAttr,h3,h21,k0,k1,kL,vh1,vg1,vhe,vge,↓gd]
   repeat refine And.intro (by omega) ?_
   refine ⟨e.strs.length - (i+1),by omega,i+1,S1.length+4,hs++[(s,V.heap (S1.length+1) s.head.length,V.heap (S1.length+2) s.got.length)],rfl,by omega,h1,h2,h19,h20,by simp,by have:=hu.1; omega,⟨rfl,?_⟩,q1,(hu.set _ (.inl hL)).app _,?_⟩
   ·simp -implicitDefEqProofs (disch:=omega) only [push_cast,simprocAttr,↓gd]
    unfold xsC
    rw [List.flatMap_append]
    rfl
   have hne:S.length≠L:=by rintro rfl; rw [kL] at k0; cases k0
   have hne1:S.length+1≠L:=by rintro rfl; rw [kL] at k1; cases k1
   have hS:∀(X:List Blk) (p n:Nat) (cs:List V),n≠12→S1[p]?=some (.cells n cs)→(S1.set L .dead++X)[p]?=some (.cells n cs):=fun X p n cs hn hp=>set_get kL hp hn
   exact ⟨by rw [List.getElem?_set_ne (Ne.symm hne)]; exact k0,by rw [List.getElem?_set_ne (Ne.symm hne1)]; exact k1,hS _ _ _ _ (by decide) kw,hS _ _ _ _ (by decide) ko,hS _ _ _ _ (by decide) ki,q2 _ (hS _) (by simp -implicitDefEqProofs (disch:=omega) only [push_cast,simprocAttr,↓gd]) (by simp -implicitDefEqProofs (disch:=omega) only [push_cast,simprocAttr,↓gd]),q3,q5,q6,q4⟩
 ·have:i=e.strs.length:=by omega
  subst this
  rw [List.take_length] at hfs
  rcases h3 with ⟨hz,h3⟩ | ⟨h3,kL⟩
  ·simp -implicitDefEqProofs (disch:=omega) only [push_cast,simprocAttr,h1,h2,h3,k0,k1,↓gd]
   have hz':hs=[]:=by
    have:=congrArg List.length hfs
    rw [List.length_map] at this
    exact List.length_eq_zero_iff.1 (by omega)
   subst hz'
   have hz0:e.strs=[]:=List.length_eq_zero_iff.1 hz
   have hnew:∀(A B:Blk),EnO S po pi S1.length Sb.length [] e ((S1.set S.length A).set (S.length+1) B++[.cells 12 []]):=fun A B=>by
    have e0:∀(p n:Nat) (cs:List V),n≠0→S1[p]?=some (.cells n cs)→((S1.set S.length A).set (S.length+1) B++[.cells 12 []])[p]?=some (.cells n cs):=fun p n cs hn hp=>by
     have g0:S.length≠p:=by rintro rfl; rw [k0] at hp; cases hp; exact hn rfl
     have g1:S.length+1≠p:=by rintro rfl; rw [k1] at hp; cases hp; exact hn rfl
     rw [List.getElem?_append_left (by simp; exact lt_of_some hp),List.getElem?_set_ne g1,List.getElem?_set_ne g0]
     exact hp
    refine ⟨by rw [hz0]; rfl,?_,e0 _ _ _ (by decide) kw,e0 _ _ _ (by decide) ko,e0 _ _ _ (by decide) ki,(fun x hx=>by cases hx),hlt,hlo,by have:=hu.1; omega,by have:=hub.1; omega,((hu.set _ (.inl (Nat.le_refl _))).set _ (.inl (by omega))).app _⟩
    rw [s2_get0]; rfl
   refine ⟨_,_,Wk.nh (r':=xV (.heap po e.out.length) (.heap pi e.inn.length) S1.length Sb.length e) 12 ?_,po,pi,S1.length,Sb.length,[],rfl,hnew _ _⟩
   have hlz:e.strs.length=0:=hz
   rw [xV_eq,hlz]
   have:=NH.aggAt (n:=S1.length) (i:=6) (cs:=[V.bool e.ans,.heap po e.out.length,.int .i64 e.outM,.heap pi e.inn.length,.int .i64 e.innM,.str e.came,.nils,.int .i64 e.send,.int .i64 e.room,.heap Sb.length e.wait.length,.bool e.bad]) rfl
   simpa using this
  ·simp -implicitDefEqProofs (disch:=omega) only [push_cast,simprocAttr,h1,h2,h3,k0,k1,kL,↓gd]
   have e0:∀(A B:Blk) (p n:Nat) (cs:List V),n≠0→S1[p]?=some (.cells n cs)→((S1.set S.length A).set (S.length+1) B)[p]?=some (.cells n cs):=fun A B p n cs hn hp=>by
    have g0:S.length≠p:=by rintro rfl; rw [k0] at hp; cases hp; exact hn rfl
    have g1:S.length+1≠p:=by rintro rfl; rw [k1] at hp; cases hp; exact hn rfl
    rw [List.getElem?_set_ne g1,List.getElem?_set_ne g0]
    exact hp
   exact ⟨_,_,Wk.refl _ _ _,po,pi,L,Sb.length,hs,rfl,⟨hfs,e0 _ _ _ _ _ (by decide) kL,e0 _ _ _ _ _ (by decide) kw,e0 _ _ _ _ _ (by decide) ko,e0 _ _ _ _ _ (by decide) ki,hown.to (fun p cs=>e0 _ _ p 3 cs (by decide)),hlt,hlo,hL,by have:=hub.1; omega,(hu.set _ (.inl (Nat.le_refl _))).set _ (.inl (by omega))⟩⟩
end
section
open Go
structure PtrAt (S:List Blk) (p b c:Nat) (e:En):Prop where
 var:S[p]?=some (.cells 0 (enC (.heap b e.strs.length) (.heap c e.wait.length) e))
 at_:EnAt S b c e
theorem PtrAt.nes {S:List Blk} {p b c:Nat} {e:En} (h:PtrAt S p b c e):b≠p∧c≠p∧b≠c∧p < S.length∧b < S.length∧c < S.length :=
 ⟨cells_ne h.at_.1 h.var (by decide),cells_ne h.at_.2 h.var (by decide),h.at_.ne,lt_of_some h.var,lt_of_some h.at_.1,lt_of_some h.at_.2⟩
structure PtrTo (S:List Blk) (p b c:Nat) (e:En) (b' c':Nat) (S':List Blk):Prop where
 at_:PtrAt S' p b' c' e
 hb:b'=b∨S.length≤b'
 hc:c'=c∨S.length≤c'
 upd:Upd [p,b,c] S S'
theorem PtrAt.app {S:List Blk} {p b c:Nat} {e:En} (h:PtrAt S p b c e) (X:List Blk):PtrAt (S++X) p b c e:=⟨by rw [List.getElem?_append_left (lt_of_some h.var)]; exact h.var,h.at_.app X⟩
theorem PtrTo.refl {S:List Blk} {p b c:Nat} {e:En} (h:PtrAt S p b c e):PtrTo S p b c e b c S:=⟨h,.inl rfl,.inl rfl,Upd.refl _ _⟩
theorem PtrTo.stay {S X:List Blk} {p b c:Nat} {e:En} (h:PtrAt S p b c e):PtrTo S p b c e b c (S++X):=⟨h.app X,.inl rfl,.inl rfl,(Upd.refl _ _).app X⟩
theorem PtrTo.trans {S S1 S2:List Blk} {p b c b1 c1 b2 c2:Nat} {e1 e2:En} (h:PtrTo S p b c e1 b1 c1 S1) (k:PtrTo S1 p b1 c1 e2 b2 c2 S2):PtrTo S p b c e2 b2 c2 S2:=by
 have hl:=h.upd.1
 have hb:=h.hb; have hc:=h.hc
 refine ⟨k.at_,?_,?_,h.upd.then_ k.upd fun j hj hm=>?_⟩
 ·rcases k.hb with e | e <;> omega
 ·rcases k.hc with e | e <;> omega
 ·simp only [List.mem_cons,List.not_mem_nil,or_false] at hm ⊢
  omega
theorem PtrTo.app {S X:List Blk} {p b c:Nat} {e:En} {b' c':Nat} {S':List Blk} (h:PtrTo (S++X) p b c e b' c' S'):PtrTo S p b c e b' c' S':=by
 have hb:=h.hb; have hc:=h.hc
 rw [List.length_append] at hb hc
 exact ⟨h.at_,by omega,by omega,((Upd.refl [p,b,c] S).app X).then_ h.upd (fun j hj hm=>hm)⟩
theorem PtrTo.mk' {S:List Blk} {p b c:Nat} {e:En} (b' c':Nat) {S':List Blk} (hv:S'[p]?=some (.cells 0 (enC (.heap b' e.strs.length) (.heap c' e.wait.length) e))) (h1:S'[b']?=some (.cells 12 (strsC e.strs))) (h2:S'[c']?=some (.cells 4 (frmsC e.wait)))
  (hb:b'=b∨S.length≤b') (hc:c'=c∨S.length≤c') (hu:Upd [p,b,c] S S'):PtrTo S p b c e b' c' S':=⟨⟨hv,h1,h2⟩,hb,hc,hu⟩
def atP (l:List St) (b:Nat) (id:Int):V:=match atM l id with
 | some k=>.ptr b (k * 12)
 | none=>.nilp
def ErL:List V→List V→Prop
 | [],[]=>True
 | v :: vs,u :: us=>(u=v∨u=eraseC v)∧ErL vs us
 | _,_=>False
theorem ErL.len:∀{vs us:List V},ErL vs us→vs.length=us.length
 | [],[],_=>rfl
 | v :: vs,u :: us,h=>by rw [List.length_cons,List.length_cons,h.2.len]
 | [],_ :: _,h=>h.elim
 | _ :: _,[],h=>h.elim
theorem ErL.at_:∀{vs us:List V},ErL vs us→∀(i:Nat) (v u:V),vs[i]?=some v→us[i]?=some u→u=v∨u=eraseC v
 | [],[],_,i,v,u,hv,_=>by simp at hv
 | v :: vs,u :: us,h,0,v',u',hv,hu=>by cases hv; cases hu; exact h.1
 | v :: vs,u :: us,h,i+1,v',u',hv,hu=>h.2.at_ i v' u' hv hu
 | [],_ :: _,h,_,_,_,_,_=>h.elim
 | _ :: _,[],h,_,_,_,_,_=>h.elim
theorem Wk.er {S0 S:List Blk} {cs ds:List V} (h:ErL cs ds):Wk S0 (.agg cs) S (.agg ds) S:=by
 intro G0 w0 G w c hR0 hE hv hR
 refine ⟨G,?_,hR,hE⟩
 cases hv with
 | agg hl hr ho =>
  refine .agg (by rw [←h.len]; exact hl) (fun i v u hv hu=>?_) ho
  have hi:=List.getElem?_eq_some_iff.1 hv
  obtain ⟨hi,_⟩:=hi
  have hc:cs[i]?=some (cs[i]'(by rw [h.len]; exact hi)):=List.getElem?_eq_getElem _
  rcases h.at_ i _ v hc hv with e | e
  ·rw [e]; exact hr i _ u hc hu
  ·rw [e]; exact eraseC_ok (hr i _ u hc hu)
theorem stream_ok {e:En} (he:EnB e) {S:List Blk} {p b c:Nat} (h:PtrAt S p b c e) (id:Int):VCall Tryz.prog 63 [.ptr p 0,.int .i64 id] S fun r S'=>r=atP e.strs b id∧S'=S:=by
 have hv:=h.var
 have hb:=h.at_.1
 have hpl:=lt_of_some hv
 have hbl:=lt_of_some hb
 have hel:=he.len
 have hlen:=strsC_len e.strs
 refine VCall.en hDe Tryz.func63 Tryz.ntmps63 Tryz.results63 ?_
 simp -implicitDefEqProofs (disch:=omega) only [push_cast,simprocAttr,hv,↓gd]
 refine wpV_loop (fun m t S1=>∃i:Nat,m=e.strs.length - i∧i≤e.strs.length∧(∀j,j < i→(e.strs.getD j st0).id≠id)∧t 0=.ptr p 0∧t 1=.int .i64 id∧t 10=.int .i64 e.strs.length∧t 11=.int .i64 i∧S1=S) e.strs.length
  ⟨0,by omega,by omega,by omega,rfl,rfl,rfl,rfl,rfl⟩ ?_
 rintro m t S1 ⟨i,rfl,hi,hno,h0,h1,h10,h11,rfl⟩
 refine wpV_of0 hDe ?_
 simp -implicitDefEqProofs (disch:=omega) only [push_cast,simprocAttr,h0,h1,h10,h11,hv,↓gd]
 refine ⟨fun h=>?_,fun h=>?_⟩
 ·have hil:i < e.strs.length:=by omega
  have hid:=strsC_id hil
  by_cases hq:(e.strs.getD i st0).id=id
  ·simp -implicitDefEqProofs (disch:=omega) only [push_cast,simprocAttr,h0,h1,h10,h11,hv,hb,hid,hq,↓gd]
   repeat refine And.intro (by omega) ?_
   exact fin0 (by rw [atP,atM_at hil hno hq])
  ·simp -implicitDefEqProofs (disch:=omega) only [push_cast,simprocAttr,h0,h1,h10,h11,hv,hb,hid,hq,↓gd]
   repeat refine And.intro (by omega) ?_
   refine ⟨e.strs.length - (i+1),by omega,i+1,rfl,by omega,fun j hj=>?_,by simp⟩
   by_cases e1:j=i
   ·rw [e1]; exact hq
   ·exact hno j (by omega)
 ·exact fin0 (by rw [atP,atM_no (fun j hj=>hno j (by omega))])
theorem widen_ok {N:Nat} {e:En} (hW:EnW N e) (hN:N≤1100000) {f:Fr} (hf:frameOk f=true) {S:List Blk} {p b c:Nat} (h:PtrAt S p b c e):VCall Tryz.prog 25 [.ptr p 0,frV f] S fun r S'=>r=.tup []∧PtrTo S p b c (roomM e f) b c S':=by
 have he:=hW.b hN
 have hfl:=hW.flows
 have hsts:=hW.sts
 have hfn:=(frameOk_nat hf).2.1
 obtain ⟨ans,out,outM,inn,innM,came,strs,snd,rm,wait,bad⟩:=e
 simp only at hfl hsts
 obtain ⟨n1,n2,n3,n4,n5,n6⟩:=h.nes
 have hv:S[p]?=some (.cells 0 (enC (.heap b strs.length) (.heap c wait.length) ⟨ans,out,outM,inn,innM,came,strs,snd,rm,wait,bad⟩)):=h.var
 have hb:S[b]?=some (.cells 12 (strsC strs)):=h.at_.1
 have hc:S[c]?=some (.cells 4 (frmsC wait)):=h.at_.2
 have hlen:=strsC_len strs
 have hm8:=frameOk_more hf
 obtain ⟨fk,fl,fs,fb⟩:=f
 simp only at hfn
 refine VCall.ex hDe (fun _=>false) (fun id=>if id=7 then [13,13,13,13,13,13,13,13,13,13,13,13,13,14] else []) Tryz.func25 Tryz.ntmps25 Tryz.results25 ?_
 by_cases hk:fk=8
 ·subst hk
  obtain ⟨x,rfl,hx1,hx2,rfl⟩:∃x:UInt8,fb=[x]∧1≤x.toNat∧x.toNat≤31∧fl=false:=hm8 rfl
  have hx0:([x]:List UInt8).getD 0 0=x:=rfl
  have emin:∀a:Int,(if a < (31:Int) then a else (31:Int))=min a 31:=fun a=>by omega
  by_cases hs0:fs=0
  ·subst hs0
   have hm:roomM ⟨ans,out,outM,inn,innM,came,strs,snd,rm,wait,bad⟩ ⟨8,false,0,[x]⟩=⟨ans,out,outM,inn,innM,came,strs,snd,min (rm+x.toNat) 31,wait,bad⟩:=by simp [roomM,byteAt]
   rw [hm]
   simp -implicitDefEqProofs (disch:=omega) only [push_cast,simprocAttr,hv,hx0,emin,↓gd]
   refine ⟨_,_,Wk.refl _ _ _,rfl,PtrTo.mk' b c ?_ ?_ ?_ (.inl rfl) (.inl rfl) (((Upd.refl _ _).set _ (.inr (by simp))).app _)⟩
   ·simp -implicitDefEqProofs (disch:=omega) only [push_cast,simprocAttr,↓gd]
   ·simp -implicitDefEqProofs (disch:=omega) only [push_cast,simprocAttr,hb,↓gd]
   ·simp -implicitDefEqProofs (disch:=omega) only [push_cast,simprocAttr,hc,↓gd]
  ·have hgt:fs > 0:=by omega
   simp -implicitDefEqProofs (disch:=omega) only [push_cast,simprocAttr,hv,hx0,hgt,↓gd]
   refine ((stream_ok he (h.app _) fs).as rfl).to ?_
   cases ha:atM strs fs with
   | none =>
    have hap:atP strs b fs=.nilp:=by rw [atP,ha]
    have hm:roomM ⟨ans,out,outM,inn,innM,came,strs,snd,rm,wait,bad⟩ ⟨8,false,fs,[x]⟩=⟨ans,out,outM,inn,innM,came,strs,snd,rm,wait,bad⟩:=by rw [roomM]; simp only [ha,hs0]; simp
    rw [hm]
    simp -implicitDefEqProofs (disch:=omega) only [push_cast,simprocAttr,hap,↓gd]
    exact ⟨_,_,Wk.refl _ _ _,rfl,.stay h⟩
   | some k =>
    obtain ⟨hk,hid⟩:=atM_some ha
    have hap:atP strs b fs=.ptr b (k * 12):=by rw [atP,ha]
    have hsf:=stOk_flow (stsOk_at hsts hk)
    have hrm:=strsC_get hk (c:=11) (by decide)
    have hput:∀v s',strC s'=(strC (strs.getD k st0)).set 11 v→splice (strsC strs) (k * 12+11) [v]=strsC (strs.set k s'):=fun v s'=>strsC_put hk (by decide)
    have hm:roomM ⟨ans,out,outM,inn,innM,came,strs,snd,rm,wait,bad⟩ ⟨8,false,fs,[x]⟩=⟨ans,out,outM,inn,innM,came,strs.set k { strs.getD k st0 with room:=min ((strs.getD k st0).room+x.toNat) 31 },snd,rm,wait,bad⟩:=by
     rw [roomM]; simp only [ha,hs0,stAt,setSt]; simp [byteAt]
    rw [hm]
    clear hm hid
    generalize strs.getD k st0=s at hrm hput hsf
    obtain ⟨sid,sst,shd,ssay,sbg,ssd,ssent,sgot,stx,shrd,ssnd,srm⟩:=s
    simp only at hsf
    have hput:=hput _ ⟨sid,sst,shd,ssay,sbg,ssd,ssent,sgot,stx,shrd,ssnd,min (srm+x.toNat) 31⟩ rfl
    simp -implicitDefEqProofs (disch:=omega) only [push_cast,simprocAttr,hap,hv,hb,hrm,hx0,emin,hput,↓gd]
    repeat refine And.intro (by omega) ?_
    refine ⟨_,_,Wk.refl _ _ _,rfl,PtrTo.mk' b c ?_ ?_ ?_ (.inl rfl) (.inl rfl) (((Upd.refl _ _).set _ (.inr (by simp))).app _)⟩
    ·simp -implicitDefEqProofs (disch:=omega) only [push_cast,simprocAttr,hv,↓gd]
    ·simp -implicitDefEqProofs (disch:=omega) only [push_cast,simprocAttr,↓gd]
    ·simp -implicitDefEqProofs (disch:=omega) only [push_cast,simprocAttr,hc,↓gd]
 ·have hm:roomM ⟨ans,out,outM,inn,innM,came,strs,snd,rm,wait,bad⟩ ⟨fk,fl,fs,fb⟩=⟨ans,out,outM,inn,innM,came,strs,snd,rm,wait,bad⟩:=by simp [roomM,hk]
  rw [hm]
  simp -implicitDefEqProofs (disch:=omega) only [push_cast,simprocAttr,hk,↓gd]
  exact ⟨_,_,Wk.refl _ _ _,rfl,.stay h⟩
end
section
open Go
def Res (own:Bool) (S:List Blk) (vo vi:V) (b c:Nat) (e:En) (S':List Blk):Prop :=
 if own then ∃po pi ls,vo=.heap po e.out.length∧vi=.heap pi e.inn.length∧EnO S po pi b c ls e S'
 else vo=.rows none (e.out.map fV)∧vi=.rows none (e.inn.map fV)∧EnNew S e b c S'
def RRes (own:Bool) (S:List Blk) (e:En) (v:V) (S':List Blk):Prop:=∃vo vi b c,v=xV vo vi b c e∧Res own S vo vi b c e S'
section
variable {ow:Bool} {S S' X:List Blk} {vo vi:V} {b c:Nat} {e:En}
theorem Res.cases (h:Res ow S vo vi b c e S'):(ow=true∧∃po pi ls,vo=.heap po e.out.length∧vi=.heap pi e.inn.length∧EnO S po pi b c ls e S')∨(ow=false∧vo=.rows none (e.out.map fV)∧vi=.rows none (e.inn.map fV)∧EnNew S e b c S'):=by
 unfold Res at h
 cases ow
 ·exact .inr ⟨rfl,by simpa using h⟩
 ·exact .inl ⟨rfl,by simpa using h⟩
theorem Res.mkO (h:∃po pi ls,vo=.heap po e.out.length∧vi=.heap pi e.inn.length∧EnO S po pi b c ls e S'):Res true S vo vi b c e S':=by unfold Res; simpa using h
theorem Res.mkR (h:EnNew S e b c S'):Res false S (.rows none (e.out.map fV)) (.rows none (e.inn.map fV)) b c e S':=by unfold Res; simpa using h
theorem Res.one (h:Res ow S vo vi b c e S'):V.one vo=true∧V.one vi=true:=by
 rcases h.cases with ⟨_,_,_,_,rfl,rfl,_⟩ | ⟨_,rfl,rfl,_⟩ <;> exact ⟨rfl,rfl⟩
theorem Res.er (h:Res ow S vo vi b c e S'):eraseC vo=vo∧eraseC vi=vi:=by
 rcases h.cases with ⟨_,_,_,_,rfl,rfl,_⟩ | ⟨_,rfl,rfl,_⟩ <;> exact ⟨rfl,rfl⟩
theorem EnO.to {po pi:Nat} {ls:List XS} (h:EnO S po pi b c ls e S') {S2:List Blk} (hk:∀(p n:Nat) (cs:List V),n≠0→S'[p]?=some (.cells n cs)→S2[p]?=some (.cells n cs)) (hu:Upd [] S S2):EnO S po pi b c ls e S2 :=
 ⟨h.strs,hk _ _ _ (by decide) h.kb,hk _ _ _ (by decide) h.kc,hk _ _ _ (by decide) h.out,hk _ _ _ (by decide) h.inn,h.own.to (fun p cs=>hk p 3 cs (by decide)),h.lt,h.lo,h.hb,h.hc,hu⟩
theorem EnO.upd2 {po pi:Nat} {ls:List XS} (h:EnO S po pi b c ls e S') {S2:List Blk} (hu:Upd [] S' S2):EnO S po pi b c ls e S2:=h.to (fun p n cs _ hp=>hu.get hp (by simp)) (h.upd.trans hu)
theorem Res.upd (h:Res ow S vo vi b c e S'):Upd [] S S':=by
 rcases h.cases with ⟨_,_,_,_,_,_,h⟩ | ⟨_,_,_,h⟩
 ·exact h.upd
 ·exact h.upd
theorem Res.setVar (h:Res ow S vo vi b c e S') {j:Nat} {cs:List V} (B:Blk) (hj:S'[j]?=some (.cells 0 cs)) (hS:S.length≤j):Res ow S vo vi b c e (S'.set j B):=by
 have hk:∀(p n:Nat) (ds:List V),n≠0→S'[p]?=some (.cells n ds)→(S'.set j B)[p]?=some (.cells n ds):=fun p n ds hn hp=>by
  have:j≠p:=by rintro rfl; rw [hj] at hp; cases hp; exact hn rfl
  rw [List.getElem?_set_ne this]; exact hp
 rcases h.cases with ⟨rfl,po,pi,ls,h1,h2,h⟩ | ⟨rfl,rfl,rfl,g⟩
 ·exact .mkO ⟨po,pi,ls,h1,h2,h.to hk (h.upd.set _ (.inl hS))⟩
 ·exact .mkR ⟨⟨hk _ _ _ (by decide) g.at_.1,hk _ _ _ (by decide) g.at_.2⟩,g.hb,g.hc,g.upd.set _ (.inl hS)⟩
theorem Res.appR (h:Res ow S vo vi b c e S') (Y:List Blk):Res ow S vo vi b c e (S'++Y):=by
 rcases h.cases with ⟨rfl,po,pi,ls,h1,h2,h⟩ | ⟨rfl,rfl,rfl,g⟩
 ·exact .mkO ⟨po,pi,ls,h1,h2,h.upd2 ((Upd.refl _ _).app Y)⟩
 ·exact .mkR (g.appR Y)
theorem Res.of {T:List Blk} (h:Res ow T vo vi b c e S') (hu:Upd [] S T):Res ow S vo vi b c e S':=by
 have hl:=hu.1
 rcases h.cases with ⟨rfl,po,pi,ls,h1,h2,h⟩ | ⟨rfl,rfl,rfl,g⟩
 ·exact .mkO ⟨po,pi,ls,h1,h2,⟨h.strs,h.kb,h.kc,h.out,h.inn,h.own,h.lt,fun p hp=>Nat.le_trans hl (h.lo p hp),Nat.le_trans hl h.hb,Nat.le_trans hl h.hc,hu.trans h.upd⟩⟩
 ·exact .mkR ⟨g.at_,Nat.le_trans hl g.hb,Nat.le_trans hl g.hc,hu.trans g.upd⟩
end
theorem eclone_R (own:Bool) {e:En} (he:EnB e) {S:List Blk} {vo vi:V} {b c:Nat} {ls:List XS} (h:EnX S vo vi b c ls e):VCall Tryz.prog 22 [xV vo vi b c e] S fun r S'=>RRes own S e r S':=by
 cases own
 ·exact (eclone_X he h).mono fun r S' ⟨b',c',hr,hn⟩=>⟨_,_,b',c',hr,.mkR hn⟩
 ·exact (eclone_O he h).mono fun r S' ⟨po,pi,b',c',ls',hr,hn⟩=>⟨_,_,b',c',hr,.mkO ⟨po,pi,ls',rfl,rfl,hn⟩⟩
theorem RRes.zero (own:Bool) {S X:List Blk}:∃r S2,Wk S (.agg zE) (S++X) r S2∧RRes own S en0 r S2:=by
 cases own
 ·obtain ⟨r,S2,h1,b,c,rfl,h2⟩:=RNew.zero (S:=S) (X:=X)
  exact ⟨_,S2,h1,_,_,b,c,rfl,.mkR h2⟩
 ·obtain ⟨Z,hZ⟩:∃Z,Z=S++X:=⟨_,rfl⟩
  rw [←hZ]
  have n1:Wk S (.agg zE) Z (.agg (zE.set 1 (.heap Z.length 0))) (Z++[.cells 3 []]):=Wk.nh 3 (NH.aggAt (i:=1) rfl)
  have n2:Wk S (.agg (zE.set 1 (.heap Z.length 0))) (Z++[.cells 3 []]) (.agg ((zE.set 1 (.heap Z.length 0)).set 3 (.heap (Z.length+1) 0))) (Z++[.cells 3 [],.cells 3 []]):=by
   have:=Wk.nh (S0:=S) (S:=Z++[.cells 3 []]) 3 (NH.aggAt (n:=(Z++[Blk.cells 3 []]).length) (cs:=zE.set 1 (.heap Z.length 0)) (i:=3) rfl)
   simpa using this
  have n3:Wk S (.agg ((zE.set 1 (.heap Z.length 0)).set 3 (.heap (Z.length+1) 0))) (Z++[.cells 3 [],.cells 3 []]) (.agg (((zE.set 1 (.heap Z.length 0)).set 3 (.heap (Z.length+1) 0)).set 6 (.heap (Z.length+2) 0))) (Z++[.cells 3 [],.cells 3 [],.cells 12 []]):=by
   have:=Wk.nh (S0:=S) (S:=Z++[.cells 3 [],.cells 3 []]) 12 (NH.aggAt (n:=(Z++[Blk.cells 3 [],.cells 3 []]).length) (cs:=(zE.set 1 (.heap Z.length 0)).set 3 (.heap (Z.length+1) 0)) (i:=6) rfl)
   simpa using this
  have n4:Wk S (.agg (((zE.set 1 (.heap Z.length 0)).set 3 (.heap (Z.length+1) 0)).set 6 (.heap (Z.length+2) 0))) (Z++[.cells 3 [],.cells 3 [],.cells 12 []]) (.agg ((((zE.set 1 (.heap Z.length 0)).set 3 (.heap (Z.length+1) 0)).set 6 (.heap (Z.length+2) 0)).set 9 (.heap (Z.length+3) 0))) (Z++[.cells 3 [],.cells 3 [],.cells 12 [],.cells 4 []]):=by
   have:=Wk.nh (S0:=S) (S:=Z++[.cells 3 [],.cells 3 [],.cells 12 []]) 4 (NH.aggAt (n:=(Z++[Blk.cells 3 [],.cells 3 [],.cells 12 []]).length) (cs:=((zE.set 1 (.heap Z.length 0)).set 3 (.heap (Z.length+1) 0)).set 6 (.heap (Z.length+2) 0)) (i:=9) rfl)
   simpa using this
  have hl:S.length≤Z.length:=by rw [hZ,List.length_append]; omega
  have hu:Upd [] S Z:=by rw [hZ]; exact (Upd.refl _ _).app _
  refine ⟨_,_,((n1.trans n2).trans n3).trans n4,_,_,Z.length+2,Z.length+3,rfl,.mkO ⟨Z.length,Z.length+1,[],rfl,rfl,⟨rfl,?_,?_,?_,?_,(fun x hx=>by cases hx),by simp [fb],fun p hp=>by simp [fb] at hp; omega,by omega,by omega,hu.app _⟩⟩⟩
  ·rw [app_get]; rfl
  ·rw [app_get]; rfl
  ·rw [app_get0]; rfl
  ·rw [app_get]; rfl
theorem RRes.zeroT (own:Bool) {S X:List Blk} {xs:List V} (hx:∀x ∈ xs,Plain x):∃r S2,Wk S (.tup (.agg zE :: xs)) (S++X) r S2∧∃v,r=.tup (v :: xs)∧RRes own S en0 v S2:=by
 obtain ⟨r,S2,h1,h2⟩:=RRes.zero own (S:=S) (X:=X)
 exact ⟨_,S2,h1.fst hx,r,rfl,h2⟩
end
section
open Go
theorem u8s_len (s:List UInt8):(u8s s).length=s.length:=by simp [u8s]
theorem u8s_back (s:List UInt8):(u8s s).map byteOfV=s:=by
 simp [u8s,byteOfV,Function.comp_def]
end
section
open Go
theorem put2 {l:List St} {k c:Nat} {v:V} {s s':St} (hk:k < l.length) (hc:c < 12) (h:strC s'=(strC s).set c v):splice (strsC (l.set k s)) (k * 12+c) [v]=strsC (l.set k s'):=by
 have:=strsC_put (l:=l.set k s) (i:=k) (c:=c) (v:=v) (s:=s') (by rw [List.length_set]; exact hk) hc (by rw [getD_set st0 s hk,if_pos rfl]; exact h)
 rw [this,List.set_set]
theorem len2 (l:List St) (k:Nat) (s:St):(strsC (l.set k s)).length=l.length * 12:=by rw [strsC_len,List.length_set]
theorem get2 {l:List St} {k c:Nat} {s:St} (hk:k < l.length) (hc:c < 12):(strsC (l.set k s))[k * 12+c]?=(strC s)[c]?:=by
 have:=strsC_get (l:=l.set k s) (i:=k) (by rw [List.length_set]; exact hk) (c:=c) hc
 rwa [getD_set st0 s hk,if_pos rfl] at this
end
section
open Go
def Heard (S:List Blk) (p b c:Nat) (E:En) (r:V) (S':List Blk):Prop:=∃(b' c':Nat) (E':En) (ok:Bool),r=.bool ok∧PtrTo S p b c E' b' c' S'∧E={ E' with bad:=!ok }
theorem Heard.still {S X:List Blk} {p b c:Nat} {e E:En} (h:PtrAt S p b c e) (hE:E={ e with bad:=true }):∃r S2,Wk S (.bool false) (S++X) r S2∧Heard S p b c E r S2 :=
 ⟨_,_,Wk.refl _ _ _,b,c,e,false,rfl,.stay h,by rw [hE]; rfl⟩
end
section
open Go
theorem Heard.app {S X:List Blk} {p b c:Nat} {E:En} {r:V} {S':List Blk} (h:Heard (S++X) p b c E r S'):Heard S p b c E r S':=by
 obtain ⟨b',c',E',ok,h1,h2,h3⟩:=h
 exact ⟨b',c',E',ok,h1,h2.app,h3⟩
end
section
open Go
theorem RNew.zeroT {S X:List Blk} {xs:List V} (hx:∀x ∈ xs,Plain x):∃r S2,Wk S (.tup (.agg zE :: xs)) (S++X) r S2∧∃v,r=.tup (v :: xs)∧RNew S en0 v S2:=by
 obtain ⟨r,S2,h1,h2⟩:=RNew.zero (S:=S) (X:=X)
 exact ⟨_,S2,h1.fst hx,r,rfl,h2⟩
end
section
open Go
theorem hDb:TypesOk Tryz.prog (bldOf (wrOf D [5]) [5,59,56]):=bldOk (wrOk hD _) _ (by
 intro t ht hk
 simp at ht
 rcases ht with rfl | rfl | rfl
 ·cases hk
 ·cases hk
 ·obtain ⟨j,hj⟩:∃j,Tryz.prog.info? 59=some j:=Option.isSome_iff_exists.1 (by kernel_rfl)
  exact ⟨59,j,by kernel_rfl,hj⟩)
def mB:Nat:=1000000 * (59+1)
def mR:Nat:=1000000 * (5+1)+1
@[push_cast] theorem mB_eq:mB=1000000 * (59+1):=rfl
@[push_cast] theorem mR_eq:mR=1000000 * (5+1)+1:=rfl
def Unm:Blk→Prop
 | .cells sz _=>sz < 1000000
 | _=>True
def UpdU (n:Nat) (S S':List Blk):Prop:=S.length≤S'.length∧∀(j:Nat) (B:Blk),S[j]?=some B→j < n∨Unm B→S'[j]?=some B
theorem UpdU.refl (n:Nat) (S:List Blk):UpdU n S S:=⟨Nat.le_refl _,fun _ _ h _=>h⟩
theorem UpdU.trans {n:Nat} {S S1 S2:List Blk} (h:UpdU n S S1) (k:UpdU n S1 S2):UpdU n S S2:=⟨Nat.le_trans h.1 k.1,fun j B a b=>k.2 j B (h.2 j B a b) b⟩
def BdAt (S:List Blk) (n b:Nat) (s:List UInt8):Prop :=
 n≤b∧∃addr buf,S[b]?=some (.cells mB [addr,buf])∧(addr=.nilp∨addr=.ptr b 0) ∧
  ((buf=.nils∧s=[])∨∃q,n≤q∧q≠b∧buf=.heap q s.length∧S[q]?=some (.cells mR (u8s s))∧s≠[])
theorem noEscape_ok (b:Nat) (S:List Blk):VCall Tryz.prog 90 [.ptr b 0] S fun r S'=>r=.ptr b 0∧S'=S:=by
 refine .inr ⟨_,⟨rfl,rfl⟩,fun G w cargs hall=>?_⟩
 obtain ⟨x,rfl⟩:∃x,cargs=#[x]:=by
  have:=hall.1
  obtain ⟨l⟩:=cargs
  match l,this with
  | [x],_=>exact ⟨x,rfl⟩
 have h1:=hall.2 0 _ _ rfl rfl
 refine ⟨x,?_,h1⟩
 rw [run_callFunc_extern (fn:=Tryz.f90) Tryz.func90 (by kernel_rfl) (by kernel_rfl) (by kernel_rfl) (e:=Extern.AbiNoEscape.same) (by kernel_rfl),Lib.run_noEscape]
 simp
theorem conv_to:ConvPtr Tryz.prog 56 124 59 2:=by
 intro w g arr fr hg hm
 obtain ⟨j,hj⟩:∃j,Tryz.prog.info? 59=some j:=Option.isSome_iff_exists.1 (by kernel_rfl)
 have hsz:((Tryz.prog.info? 59).map (·.size))=some 2:=by kernel_rfl
 rw [hj] at hsz
 exact Lib.run_to_unsafe (P:=Tryz.prog) w ⟨g,0,none⟩ (t:=59) (e:=59) (cells:=arr.size) (j:=j) (by kernel_rfl) (by kernel_rfl) hj (by simp at hsz; omega) (by simp [World.shape?,hg]) (by show 0 < arr.size; omega)
theorem conv_from:ConvPtr Tryz.prog 124 56 59 2:=by
 intro w g arr fr hg hm
 have hc:Tryz.prog.cellsOf 59=2:=by kernel_rfl
 obtain ⟨j,hj⟩:∃j,Tryz.prog.info? 59=some j:=Option.isSome_iff_exists.1 (by kernel_rfl)
 refine Lib.run_from_unsafe (P:=Tryz.prog) w ⟨g,0,none⟩ (u:=59) (e:=59) (cells:=arr.size) (j:=j) (by kernel_rfl) (by kernel_rfl) hj (by simp [World.shape?,hg]) ?_
 have hd:Tryz.prog.depth=(2 * (Tryz.prog.types.size+Made.depth)+1)+1:=rfl
 rw [hd]
 have h1:1≤arr.size / 2:=by omega
 simp only [liesAt,Bool.or_eq_true]
 left
 rw [hd]
 simp [rowAt,hc,h1,sameLayout]
theorem copyCheck_ok {b:Nat} {S:List Blk} {addr buf:V} (hb:S[b]?=some (.cells mB [addr,buf])) (ha:addr=.nilp∨addr=.ptr b 0) :
  VCall Tryz.prog 61 [.ptr b 0] S fun r S'=>S'=S.set b (.cells mB [.ptr b 0,buf]):=by
 have c1:=conv_to
 have c2:=conv_from
 refine VCall.en hDb Tryz.func61 Tryz.ntmps61 Tryz.results61 ?_
 rcases ha with rfl | rfl
 ·simp -implicitDefEqProofs (disch:=omega) only [push_cast,simprocAttr,hb,c1,↓gd]
  refine (noEscape_ok b S).to ?_
  simp -implicitDefEqProofs (disch:=omega) only [push_cast,simprocAttr,hb,c2,↓gd]
  exact ⟨_,_,Wk.refl _ _ _,rfl⟩
 ·simp -implicitDefEqProofs (disch:=omega) only [push_cast,simprocAttr,hb,↓gd]
  refine ⟨_,_,Wk.refl _ _ _,?_⟩
  apply List.ext_getElem?
  intro j
  rw [List.getElem?_set]
  by_cases e:b=j
  ·subst e
   rw [if_pos rfl,if_pos (lt_of_some hb),hb]
   rfl
  ·rw [if_neg e]
theorem u8s_erase (l:List UInt8):(u8s l).map eraseC=u8s l:=by
 simp only [u8s,List.map_map]
 apply List.map_congr_left
 intro x _
 rfl
theorem u8s_app (s l:List UInt8):u8s (s++l)=u8s s++u8s l:=by simp [u8s]
theorem u8s_b8 (s:List UInt8):(u8s s).all isB8=true:=by
 simp only [u8s,List.all_map,List.all_eq_true]
 intro x _
 have:=UInt8.toNat_lt x
 simp [isB8]
 omega
theorem UpdU.set {n:Nat} {S S':List Blk} (h:UpdU n S S') {j:Nat} (B:Blk) (hn:n≤j) (hj:∀B0,S[j]?=some B0→¬Unm B0):UpdU n S (S'.set j B):=by
 refine ⟨by simpa using h.1,fun i C hi hu=>?_⟩
 rw [List.getElem?_set]
 by_cases e:j=i
 ·subst e
  rcases hu with hu | hu
  ·omega
  ·exact absurd hu (hj C hi)
 ·rw [if_neg e]; exact h.2 i C hi hu
theorem UpdU.app {n:Nat} {S S':List Blk} (h:UpdU n S S') (X:List Blk):UpdU n S (S'++X) :=
 ⟨by have:=h.1; simp; omega,fun i C hi hu=>by rw [List.getElem?_append_left (lt_of_some (h.2 i C hi hu))]; exact h.2 i C hi hu⟩
theorem BdAt.lt {S:List Blk} {n b:Nat} {s:List UInt8} (h:BdAt S n b s):b < S.length:=by
 obtain ⟨_,_,_,h1,_⟩:=h
 exact lt_of_some h1
theorem WriteString_ok {S:List Blk} {n b:Nat} {s:List UInt8} (h:BdAt S n b s) (hn:n≤S.length) (l:List UInt8) (hs:s.length≤1100000) (hl:l.length≤1100000) :
  VCall Tryz.prog 23 [.ptr b 0,.str l] S fun r S'=>BdAt S' n b (s++l)∧UpdU n S S':=by
 obtain ⟨hnb,addr,buf,hb,ha,hbuf⟩:=h
 have hbl:=lt_of_some hb
 have hm:∀B0,S[b]?=some B0→¬Unm B0:=fun B0 q=>by rw [hb] at q; cases q; simp [Unm,mB]
 refine VCall.en hDb Tryz.func23 Tryz.ntmps23 Tryz.results23 ?_
 simp -implicitDefEqProofs (disch:=omega) only [push_cast,simprocAttr,↓gd]
 refine ((copyCheck_ok hb ha).as rfl).mono ?_
 rintro r S1 rfl
 have hu:u8s l=u8s l:=rfl
 have hul:=u8s_len l
 have hue:=u8s_erase l
 generalize hU:u8s l=U at hul hue
 rcases hbuf with ⟨rfl,rfl⟩ | ⟨q,hq1,hq2,rfl,hq3,hq4⟩
 ·simp -implicitDefEqProofs (disch:=omega) only [push_cast,simprocAttr,hU,hue,↓gd]
  refine ⟨fun h0=>?_,fun h0=>⟨by omega,?_⟩⟩
  ·subst h0
   exact ⟨_,_,Wk.refl _ _ _,⟨hnb,.ptr b 0,.nils,by rw [List.getElem?_set,if_pos rfl,if_pos hbl]; rfl,.inr rfl,.inl ⟨rfl,rfl⟩⟩,(UpdU.refl n S).set _ hnb hm⟩
  ·refine ⟨_,_,Wk.refl _ _ _,⟨hnb,.ptr b 0,.heap S.length l.length,?_,.inr rfl,.inr ⟨S.length,hn,by omega,rfl,?_,h0⟩⟩,((UpdU.refl n S).set _ hnb hm).app _⟩
   ·simp -implicitDefEqProofs (disch:=omega) only [push_cast,simprocAttr,↓gd]
   ·rw [hU]
    simp -implicitDefEqProofs (disch:=omega) only [push_cast,simprocAttr,↓gd]
 ·have hsl:=u8s_len s
  have hql:=lt_of_some hq3
  have hm2:∀B0,S[q]?=some B0→¬Unm B0:=fun B0 q=>by rw [hq3] at q; cases q; simp [Unm,mR]
  have hsa:=u8s_app s l
  generalize hV:u8s s=W at hsl hq3 hsa
  simp -implicitDefEqProofs (disch:=omega) only [push_cast,simprocAttr,hU,hue,hq3,↓gd]
  refine ⟨by omega,by omega,by omega,?_⟩
  refine ⟨_,_,Wk.refl _ _ _,⟨hnb,.ptr b 0,.heap S.length (s++l).length,?_,.inr rfl,.inr ⟨S.length,hn,by omega,rfl,?_,by simp [hq4]⟩⟩,(((UpdU.refl n S).set _ hnb hm).set _ hq1 hm2).app _⟩
  ·have hq2':b≠q:=Ne.symm hq2
   rw [List.length_append]
   simp -implicitDefEqProofs (disch:=omega) only [push_cast,simprocAttr,↓gd]
  ·rw [hsa,hU]
   simp -implicitDefEqProofs (disch:=omega) only [push_cast,simprocAttr,↓gd]
theorem row_ptr:RowPtr Tryz.prog 104 5:=⟨by kernel_rfl,by kernel_rfl⟩
theorem String_ok {S:List Blk} {n b:Nat} {s:List UInt8} (h:BdAt S n b s) (hs:s.length≤2000000) :
  VCall Tryz.prog 27 [.ptr b 0] S fun r S'=>r=.str s∧UpdU n S S':=by
 obtain ⟨hnb,addr,buf,hb,ha,hbuf⟩:=h
 have hbl:=lt_of_some hb
 have hrp:=row_ptr
 refine VCall.ex hDb (fun _=>false) (fun id=>if id=1 then [10,10,10,10,10,10,10,10,10,10,12,12] else []) Tryz.func27 Tryz.ntmps27 Tryz.results27 ?_
 rcases hbuf with ⟨rfl,rfl⟩ | ⟨q,hq1,hq2,rfl,hq3,hq4⟩
 ·simp -implicitDefEqProofs (disch:=omega) only [push_cast,simprocAttr,hb,↓gd]
  exact ⟨_,_,Wk.refl _ _ _,rfl,UpdU.refl _ _⟩
 ·have hsl:=u8s_len s
  have hql:=lt_of_some hq3
  have hpos:=List.length_pos_iff.2 hq4
  have hm2:∀B0,S[q]?=some B0→¬Unm B0:=fun B0 q=>by rw [hq3] at q; cases q; simp [Unm,mR]
  have hb8:=u8s_b8 s
  have hback:=u8s_back s
  generalize hV:u8s s=W at hsl hq3 hb8 hback
  have ht:W.take s.length=W:=List.take_of_length_le (by omega)
  simp -implicitDefEqProofs (disch:=omega) only [push_cast,simprocAttr,hb,hq3,hrp,ht,hb8,hback,↓gd]
  repeat refine And.intro (by omega) ?_
  exact ⟨_,_,Wk.refl _ _ _,rfl,(UpdU.refl n S).set _ hq1 hm2⟩
end
end Go.Proofs.YtldogccmhncnoaaGreat
