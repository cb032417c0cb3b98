/- A part of the proof: contracts of functions, or plain facts on which these lean. -/
import Derived.Test.YtldogccmhncnoaaMp14
import Derived.Test.YtldogccmhncnoaaMp15
import Derived.Test.YtldogccmhncnoaaMp17
import Derived.Test.YtldogccmhncnoaaMp18
namespace Go.Proofs.Ytldogccmhncnoaa
open Go
set_option linter.unusedVariables false
set_option linter.unusedSimpArgs false
set_option maxRecDepth 100000
set_option maxHeartbeats 16000000

section
open Go
structure WoB (w:Wo):Prop where
 caller:EnB w.caller
 answerer:EnB w.answerer
 up:w.up.length≤1100000
 down:w.down.length≤1100000
theorem WoW.b {N:Nat} {w:Wo} (h:WoW N w) (hN:N≤1100000):WoB w:=⟨h.caller.b hN,h.answerer.b hN,by have:=h.up; omega,by have:=h.down; omega⟩
end
section
open Go
theorem WoTo.still {S S':List Blk} {b c d f:Nat} {w:Wo} (h:WoAt S b c d f w) (hu:Upd [] S S'):WoTo S b c d f w b c d f S' :=
 ⟨⟨h.caller.upd hu (by simp) (by simp),h.answerer.upd hu (by simp) (by simp),h.ne1,h.ne2⟩,.inl rfl,.inl rfl,.inl rfl,.inl rfl,hu.mono (fun _ _ hm=>by cases hm)⟩
end
section
open Go
theorem EnAt.zero (S:List Blk):EnAt (S++[.cells 12 [],.cells 4 []]) S.length (S.length+1) en0:=⟨by simp -implicitDefEqProofs (disch:=omega) only [push_cast,simprocAttr,↓gd]; rfl,by simp -implicitDefEqProofs (disch:=omega) only [push_cast,simprocAttr,↓gd]; rfl⟩
theorem RWNew.zero {S X:List Blk}:∃r S2,Wk S (.agg zW) (S++X) r S2∧RWNew S wo0 r S2:=by
 let L:=(S++X).length
 have er:Wk S (.agg zW) (S++X) (.agg (enC .nils .nils en0++enC .nils .nils en0++[.str [],.str []])) (S++X):=by
  intro G0 w0 G w c hR0 hE hv hR
  refine ⟨G,?_,hR,hE⟩
  cases hv with
  | agg hl hr ho =>
   refine .agg hl (fun i v u hv hu=>?_) ho
   have hi:i < 24:=by
    have:=List.getElem?_eq_some_iff.1 hv
    simpa [enC] using this.1
   have hz:zW[i]?=some (zW[i]'(by simpa [zW,zE] using hi)):=List.getElem?_eq_getElem _
   have hr':=hr i _ u hz hu
   have:i=0∨i=1∨i=2∨i=3∨i=4∨i=5∨i=6∨i=7∨i=8∨i=9∨i=10∨i=11∨i=12∨i=13∨i=14∨i=15∨i=16∨i=17∨i=18∨i=19∨i=20∨i=21∨i=22∨i=23:=by omega
   rcases this with rfl | rfl | rfl | rfl | rfl | rfl | rfl | rfl | rfl | rfl | rfl | rfl | rfl | rfl | rfl | rfl | rfl | rfl | rfl | rfl | rfl | rfl | rfl | rfl <;>
    simp only [enC,en0,List.map_nil,List.cons_append,List.nil_append,List.getElem?_cons_zero,List.getElem?_cons_succ,Option.some.injEq] at hv <;> subst hv <;> first | exact hr' | exact eraseC_ok hr'
 have s1:=Wk.nh (S0:=S) (S:=S++X) 12 (NH.aggAt (n:=(S++X).length) (cs:=enC .nils .nils en0++enC .nils .nils en0++[V.str [],V.str []]) (i:=6) rfl)
 have s2:=Wk.nh (S0:=S) (S:=(S++X)++[Blk.cells 12 []]) 4 (NH.aggAt (n:=((S++X)++[Blk.cells 12 []]).length) (cs:=(enC .nils .nils en0++enC .nils .nils en0++[V.str [],V.str []]).set 6 (V.heap (S++X).length 0)) (i:=9) rfl)
 have s3:=Wk.nh (S0:=S) (S:=((S++X)++[Blk.cells 12 []])++[Blk.cells 4 []]) 12 (NH.aggAt (n:=(((S++X)++[Blk.cells 12 []])++[Blk.cells 4 []]).length) (cs:=((enC .nils .nils en0++enC .nils .nils en0++[V.str [],V.str []]).set 6 (V.heap (S++X).length 0)).set 9 (V.heap ((S++X)++[Blk.cells 12 []]).length 0)) (i:=17) rfl)
 have s4:=Wk.nh (S0:=S) (S:=(((S++X)++[Blk.cells 12 []])++[Blk.cells 4 []])++[Blk.cells 12 []]) 4 (NH.aggAt (n:=((((S++X)++[Blk.cells 12 []])++[Blk.cells 4 []])++[Blk.cells 12 []]).length)
  (cs:=(((enC .nils .nils en0++enC .nils .nils en0++[V.str [],V.str []]).set 6 (V.heap (S++X).length 0)).set 9 (V.heap ((S++X)++[Blk.cells 12 []]).length 0)).set 17 (V.heap (((S++X)++[Blk.cells 12 []])++[Blk.cells 4 []]).length 0)) (i:=20) rfl)
 have hl:S.length≤(S++X).length:=by simp
 refine ⟨_,_,(((er.trans s1).trans s2).trans s3).trans s4,(S++X).length,(S++X).length+1,(S++X).length+2,(S++X).length+3,?_,⟨⟨⟨?_,?_⟩,⟨?_,?_⟩,by omega,by omega⟩,hl,by omega,by omega,by omega,?_⟩⟩
 ·simp [wV,wC,enC,en0,wo0]
  omega
 ·generalize S++X=T; simp only [List.append_assoc,List.cons_append,List.nil_append]; rw [app_get0]; rfl
 ·generalize S++X=T; simp only [List.append_assoc,List.cons_append,List.nil_append]; rw [app_get]; rfl
 ·generalize S++X=T; simp only [List.append_assoc,List.cons_append,List.nil_append]; rw [app_get]; rfl
 ·generalize S++X=T; simp only [List.append_assoc,List.cons_append,List.nil_append]; rw [app_get]; rfl
 ·simp only [List.append_assoc]
  exact (Upd.refl _ _).app _
end
section
open Go
inductive FL (S:List Blk) (l:List Fd):V→Prop
 | rows:FL S l (.rows none (l.map fV))
 | own {p:Nat}:S[p]?=some (.cells 3 (fcs l))→FL S l (.heap p l.length)
theorem FL.one {S:List Blk} {l:List Fd} {v:V} (h:FL S l v):V.one v=true:=by cases h <;> rfl
theorem FL.er {S:List Blk} {l:List Fd} {v:V} (h:FL S l v):eraseC v=v:=by cases h <;> rfl
theorem FL.er1 {S:List Blk} {l:List Fd} {v:V} (h:FL S l v):erase1 v=v:=by cases h <;> rfl
theorem FL.upd {S S':List Blk} {l:List Fd} {v:V} (h:FL S l v) (hu:Upd [] S S'):FL S' l v:=by
 cases h with
 | rows=>exact .rows
 | own hp=>exact .own (hu.get hp (by simp))
theorem FL.app {S:List Blk} {l:List Fd} {v:V} (h:FL S l v) (X:List Blk):FL (S++X) l v:=h.upd ((Upd.refl _ _).app X)
theorem fds_cells (l:List Fd):(l.map fV).flatMap V.cells=fcs l:=by
 induction l with
 | nil=>rfl
 | cons f l ih=>rw [List.map_cons,List.flatMap_cons,ih]; rfl
theorem fcs_bare (l:List Fd):∀u ∈ fcs l,Bare u:=by
 intro u hu
 obtain ⟨f,_,hf⟩:=List.mem_flatMap.1 hu
 simp only [List.mem_cons,List.not_mem_nil,or_false] at hf
 rcases hf with rfl | rfl | rfl
 ·exact .str _
 ·exact .str _
 ·exact .bool _
theorem FL.bor {S:List Blk} {l:List Fd} {v:V} (h:FL S l v):BorC S (.rows none (l.map fV)) v:=by
 cases h with
 | rows=>exact .same (cl_fds _ _)
 | own hp =>
  have:=BorC.arr (S:=S) (xs:=l.map fV) (by rw [fds_cells]; exact hp) (by rw [fds_cells]; exact fcs_bare l)
  rwa [List.length_map] at this
def strX (s:St) (vh vg:V):List V:=[.int .i64 s.id,.int .i64 s.state,vh,.str s.say,.bool s.begun,.bool s.said,.int .i64 s.sent,vg,.str s.text,.bool s.heard,.int .i64 s.send,.int .i64 s.room]
@[push_cast] theorem strX_eq (s:St) (vh vg:V):strX s vh vg=[.int .i64 s.id,.int .i64 s.state,vh,.str s.say,.bool s.begun,.bool s.said,.int .i64 s.sent,vg,.str s.text,.bool s.heard,.int .i64 s.send,.int .i64 s.room]:=rfl
abbrev XS:=St × V × V
def xs0:XS:=(st0,.nils,.nils)
def xsF (x:XS):List V:=strX x.1 x.2.1 x.2.2
def xsC (ls:List XS):List V:=ls.flatMap xsF
def enX (vo vi v w:V) (e:En):List V:=[.bool e.ans,vo,.int .i64 e.outM,vi,.int .i64 e.innM,.str e.came,v,.int .i64 e.send,.int .i64 e.room,w,.bool e.bad]
@[push_cast] theorem enX_eq (vo vi v w:V) (e:En):enX vo vi v w e=[.bool e.ans,vo,.int .i64 e.outM,vi,.int .i64 e.innM,.str e.came,v,.int .i64 e.send,.int .i64 e.room,w,.bool e.bad]:=rfl
def xV (vo vi:V) (b c:Nat) (e:En):V:=.agg (enX vo vi (.heap b e.strs.length) (.heap c e.wait.length) e)
@[push_cast] theorem xV_eq (vo vi:V) (b c:Nat) (e:En):xV vo vi b c e=.agg [.bool e.ans,vo,.int .i64 e.outM,vi,.int .i64 e.innM,.str e.came,.heap b e.strs.length,.int .i64 e.send,.int .i64 e.room,.heap c e.wait.length,.bool e.bad]:=rfl
structure EnX (S:List Blk) (vo vi:V) (b c:Nat) (ls:List XS) (e:En):Prop where
 strs:ls.map Prod.fst=e.strs
 hb:S[b]?=some (.cells 12 (xsC ls))
 hc:S[c]?=some (.cells 4 (frmsC e.wait))
 out:FL S e.out vo
 inn:FL S e.inn vi
 heads:∀x ∈ ls,FL S x.1.head x.2.1∧FL S x.1.got x.2.2
theorem EnX.upd {S S':List Blk} {vo vi:V} {b c:Nat} {ls:List XS} {e:En} (h:EnX S vo vi b c ls e) (hu:Upd [] S S'):EnX S' vo vi b c ls e :=
 ⟨h.strs,hu.get h.hb (by simp),hu.get h.hc (by simp),h.out.upd hu,h.inn.upd hu,fun x hx=>⟨(h.heads x hx).1.upd hu,(h.heads x hx).2.upd hu⟩⟩
theorem EnX.app {S:List Blk} {vo vi:V} {b c:Nat} {ls:List XS} {e:En} (h:EnX S vo vi b c ls e) (X:List Blk):EnX (S++X) vo vi b c ls e:=h.upd ((Upd.refl _ _).app X)
theorem EnX.len {S:List Blk} {vo vi:V} {b c:Nat} {ls:List XS} {e:En} (h:EnX S vo vi b c ls e):ls.length=e.strs.length:=by rw [←h.strs,List.length_map]
def rowsL (l:List St):List XS:=l.map fun s=>(s,.rows none (s.head.map fV),.rows none (s.got.map fV))
theorem rowsL_c (l:List St):xsC (rowsL l)=strsC l:=by
 unfold xsC rowsL strsC
 rw [List.flatMap_map]
 rfl
theorem EnAt.x {S:List Blk} {b c:Nat} {e:En} (h:EnAt S b c e):EnX S (.rows none (e.out.map fV)) (.rows none (e.inn.map fV)) b c (rowsL e.strs) e :=
 ⟨by unfold rowsL; rw [List.map_map]; exact List.map_id _,by rw [rowsL_c]; exact h.1,h.2,.rows,.rows,fun x hx=>by
  obtain ⟨s,_,rfl⟩:=List.mem_map.1 hx
  exact ⟨.rows,.rows⟩⟩
end
section
open Go
theorem fcs_all (l:List Fd):(fcs l).take (l.length * 3)=fcs l:=by rw [←fcs_len,List.take_length]
theorem fcs_erase (l:List Fd):(fcs l).map eraseC=fcs l:=by
 induction l with
 | nil=>rfl
 | cons f l ih=>simp only [fcs,List.flatMap_cons,List.map_append] at ih ⊢; rw [ih]; rfl
def FNew (S:List Blk) (l:List Fd) (p:Nat) (S':List Blk):Prop:=S'[p]?=some (.cells 3 (fcs l))∧S.length≤p∧Upd [] S S'
theorem cloneFields_O (l:List Fd) (hl:l.length≤4000000) {S:List Blk} {v:V} (h:FL S l v):VCall Try.prog 40 [v] S fun r S'=>r=.heap S.length l.length∧S'=S++[.cells 3 (fcs l)]:=by
 have h3:=fcs_len l
 have hfa:=fcs_all l
 have hfe:=fcs_erase l
 have hfc:=fds_cells l
 cases h with
 | rows =>
  refine VCall.en hDf Try.func40 Try.ntmps40 Try.results40 ?_
  simp -implicitDefEqProofs (disch:=omega) only [push_cast,simprocAttr,hfc,hfe,List.length_map,↓gd]
  repeat refine And.intro (by omega) ?_
  exact ⟨_,_,Wk.refl _ _ _,rfl,rfl⟩
 | @own p hp =>
  have lp:=lt_of_some hp
  refine VCall.en hDf Try.func40 Try.ntmps40 Try.results40 ?_
  simp -implicitDefEqProofs (disch:=omega) only [push_cast,simprocAttr,hp,hfa,hfe,↓gd]
  repeat refine And.intro (by omega) ?_
  exact ⟨_,_,Wk.refl _ _ _,rfl,rfl⟩
theorem tclone_O (l:List Fd) (max:Int) (hl:FdsB l) {S:List Blk} {v:V} (h:FL S l v):VCall Try.prog 21 [.agg [v,.int .i64 max]] S fun r S'=>∃p,r=.agg [.heap p l.length,.int .i64 max]∧FNew S l p S':=by
 have v1:=h.one
 have ve:=h.er
 have ve1:=h.er1
 refine VCall.ex hD (fun _=>false) (fun id=>if id=1 then [2,2,6,6,6,6,7] else []) Try.func21 Try.ntmps21 Try.results21 ?_
 simp -implicitDefEqProofs (disch:=omega) only [push_cast,simprocAttr,v1,ve,↓gd]
 refine ((cloneFields_O l (by have:=hl.1; omega) (h.app _)).as (by simp [ve,ve1])).to ?_
 simp -implicitDefEqProofs (disch:=omega) only [push_cast,simprocAttr,↓gd]
 exact ⟨_,_,Wk.refl _ _ _,S.length+2,rfl,by simp -implicitDefEqProofs (disch:=omega) only [push_cast,simprocAttr,↓gd],by omega,(Upd.refl _ _).app _⟩
end
section
open Go
def xb:V→Nat
 | .heap p _=>p
 | _=>0
def fb (ls:List XS):List Nat:=ls.flatMap fun x=>[xb x.2.1,xb x.2.2]
theorem fb_app (l k:List XS):fb (l++k)=fb l++fb k:=by simp [fb]
def OwnL (S:List Blk) (ls:List XS):Prop:=∀x ∈ ls,(∃p,x.2.1=.heap p x.1.head.length∧S[p]?=some (.cells 3 (fcs x.1.head)))∧(∃p,x.2.2=.heap p x.1.got.length∧S[p]?=some (.cells 3 (fcs x.1.got)))
theorem OwnL.fl {S:List Blk} {ls:List XS} (h:OwnL S ls):∀x ∈ ls,FL S x.1.head x.2.1∧FL S x.1.got x.2.2:=fun x hx=>by
 obtain ⟨⟨p,h1,h2⟩,⟨q,h3,h4⟩⟩:=h x hx
 rw [h1,h3]
 exact ⟨.own h2,.own h4⟩
theorem OwnL.to {S S':List Blk} {ls:List XS} (h:OwnL S ls) (hk:∀(p:Nat) (cs:List V),S[p]?=some (.cells 3 cs)→S'[p]?=some (.cells 3 cs)):OwnL S' ls:=fun x hx=>by
 obtain ⟨⟨p,h1,h2⟩,⟨q,h3,h4⟩⟩:=h x hx
 exact ⟨⟨p,h1,hk _ _ h2⟩,⟨q,h3,hk _ _ h4⟩⟩
theorem OwnL.app {S:List Blk} {l k:List XS} (h:OwnL S l) (g:OwnL S k):OwnL S (l++k):=fun x hx=>(List.mem_append.1 hx).elim (h x) (g x)
theorem OwnL.lt {S:List Blk} {ls:List XS} (h:OwnL S ls):∀p ∈ fb ls,p < S.length:=fun p hp=>by
 obtain ⟨x,hx,hp⟩:=List.mem_flatMap.1 hp
 obtain ⟨⟨p1,h1,h2⟩,⟨q1,h3,h4⟩⟩:=h x hx
 simp only [List.mem_cons,List.not_mem_nil,or_false] at hp
 rcases hp with rfl | rfl
 ·rw [h1]; exact lt_of_some h2
 ·rw [h3]; exact lt_of_some h4
structure EnO (S:List Blk) (po pi b c:Nat) (ls:List XS) (e:En) (S':List Blk):Prop where
 strs:ls.map Prod.fst=e.strs
 kb:S'[b]?=some (.cells 12 (xsC ls))
 kc:S'[c]?=some (.cells 4 (frmsC e.wait))
 out:S'[po]?=some (.cells 3 (fcs e.out))
 inn:S'[pi]?=some (.cells 3 (fcs e.inn))
 own:OwnL S' ls
 lt:(po :: pi :: fb ls).Pairwise (· < ·)
 lo:∀p ∈ po :: pi :: fb ls,S.length≤p
 hb:S.length≤b
 hc:S.length≤c
 upd:Upd [] S S'
theorem EnO.x {S:List Blk} {po pi b c:Nat} {ls:List XS} {e:En} {S':List Blk} (h:EnO S po pi b c ls e S'):EnX S' (.heap po e.out.length) (.heap pi e.inn.length) b c ls e :=
 ⟨h.strs,h.kb,h.kc,.own h.out,.own h.inn,h.own.fl⟩
end
section
open Go
structure PtrAt (S:List Blk) (p b c:Nat) (e:En):Prop where
 var:S[p]?=some (.cells 0 (enC (.heap b e.strs.length) (.heap c e.wait.length) e))
 at_:EnAt S b c e
structure PtrTo (S:List Blk) (p b c:Nat) (e:En) (b' c':Nat) (S':List Blk):Prop where
 at_:PtrAt S' p b' c' e
 hb:b'=b∨S.length≤b'
 hc:c'=c∨S.length≤c'
 upd:Upd [p,b,c] S S'
theorem PtrAt.app {S:List Blk} {p b c:Nat} {e:En} (h:PtrAt S p b c e) (X:List Blk):PtrAt (S++X) p b c e:=⟨by rw [List.getElem?_append_left (lt_of_some h.var)]; exact h.var,h.at_.app X⟩
theorem PtrTo.refl {S:List Blk} {p b c:Nat} {e:En} (h:PtrAt S p b c e):PtrTo S p b c e b c S:=⟨h,.inl rfl,.inl rfl,Upd.refl _ _⟩
theorem PtrTo.stay {S X:List Blk} {p b c:Nat} {e:En} (h:PtrAt S p b c e):PtrTo S p b c e b c (S++X):=⟨h.app X,.inl rfl,.inl rfl,(Upd.refl _ _).app X⟩
theorem PtrTo.trans {S S1 S2:List Blk} {p b c b1 c1 b2 c2:Nat} {e1 e2:En} (h:PtrTo S p b c e1 b1 c1 S1) (k:PtrTo S1 p b1 c1 e2 b2 c2 S2):PtrTo S p b c e2 b2 c2 S2:=by
 have hl:=h.upd.1
 have hb:=h.hb; have hc:=h.hc
 refine ⟨k.at_,?_,?_,h.upd.then_ k.upd fun j hj hm=>?_⟩
 ·rcases k.hb with e | e <;> omega
 ·rcases k.hc with e | e <;> omega
 ·simp only [List.mem_cons,List.not_mem_nil,or_false] at hm ⊢
  omega
theorem PtrTo.app {S X:List Blk} {p b c:Nat} {e:En} {b' c':Nat} {S':List Blk} (h:PtrTo (S++X) p b c e b' c' S'):PtrTo S p b c e b' c' S':=by
 have hb:=h.hb; have hc:=h.hc
 rw [List.length_append] at hb hc
 exact ⟨h.at_,by omega,by omega,((Upd.refl [p,b,c] S).app X).then_ h.upd (fun j hj hm=>hm)⟩
def ErL:List V→List V→Prop
 | [],[]=>True
 | v :: vs,u :: us=>(u=v∨u=eraseC v)∧ErL vs us
 | _,_=>False
theorem ErL.len:∀{vs us:List V},ErL vs us→vs.length=us.length
 | [],[],_=>rfl
 | v :: vs,u :: us,h=>by rw [List.length_cons,List.length_cons,h.2.len]
 | [],_ :: _,h=>h.elim
 | _ :: _,[],h=>h.elim
theorem ErL.at_:∀{vs us:List V},ErL vs us→∀(i:Nat) (v u:V),vs[i]?=some v→us[i]?=some u→u=v∨u=eraseC v
 | [],[],_,i,v,u,hv,_=>by simp at hv
 | v :: vs,u :: us,h,0,v',u',hv,hu=>by cases hv; cases hu; exact h.1
 | v :: vs,u :: us,h,i+1,v',u',hv,hu=>h.2.at_ i v' u' hv hu
 | [],_ :: _,h,_,_,_,_,_=>h.elim
 | _ :: _,[],h,_,_,_,_,_=>h.elim
theorem Wk.er {S0 S:List Blk} {cs ds:List V} (h:ErL cs ds):Wk S0 (.agg cs) S (.agg ds) S:=by
 intro G0 w0 G w c hR0 hE hv hR
 refine ⟨G,?_,hR,hE⟩
 cases hv with
 | agg hl hr ho =>
  refine .agg (by rw [←h.len]; exact hl) (fun i v u hv hu=>?_) ho
  have hi:=List.getElem?_eq_some_iff.1 hv
  obtain ⟨hi,_⟩:=hi
  have hc:cs[i]?=some (cs[i]'(by rw [h.len]; exact hi)):=List.getElem?_eq_getElem _
  rcases h.at_ i _ v hc hv with e | e
  ·rw [e]; exact hr i _ u hc hu
  ·rw [e]; exact eraseC_ok (hr i _ u hc hu)
end
section
open Go
def Res (own:Bool) (S:List Blk) (vo vi:V) (b c:Nat) (e:En) (S':List Blk):Prop :=
 if own then ∃po pi ls,vo=.heap po e.out.length∧vi=.heap pi e.inn.length∧EnO S po pi b c ls e S'
 else vo=.rows none (e.out.map fV)∧vi=.rows none (e.inn.map fV)∧EnNew S e b c S'
def RRes (own:Bool) (S:List Blk) (e:En) (v:V) (S':List Blk):Prop:=∃vo vi b c,v=xV vo vi b c e∧Res own S vo vi b c e S'
section
variable {ow:Bool} {S S' X:List Blk} {vo vi:V} {b c:Nat} {e:En}
theorem Res.cases (h:Res ow S vo vi b c e S'):(ow=true∧∃po pi ls,vo=.heap po e.out.length∧vi=.heap pi e.inn.length∧EnO S po pi b c ls e S')∨(ow=false∧vo=.rows none (e.out.map fV)∧vi=.rows none (e.inn.map fV)∧EnNew S e b c S'):=by
 unfold Res at h
 cases ow
 ·exact .inr ⟨rfl,by simpa using h⟩
 ·exact .inl ⟨rfl,by simpa using h⟩
theorem Res.mkO (h:∃po pi ls,vo=.heap po e.out.length∧vi=.heap pi e.inn.length∧EnO S po pi b c ls e S'):Res true S vo vi b c e S':=by unfold Res; simpa using h
theorem Res.mkR (h:EnNew S e b c S'):Res false S (.rows none (e.out.map fV)) (.rows none (e.inn.map fV)) b c e S':=by unfold Res; simpa using h
theorem Res.one (h:Res ow S vo vi b c e S'):V.one vo=true∧V.one vi=true:=by
 rcases h.cases with ⟨_,_,_,_,rfl,rfl,_⟩ | ⟨_,rfl,rfl,_⟩ <;> exact ⟨rfl,rfl⟩
theorem Res.er (h:Res ow S vo vi b c e S'):eraseC vo=vo∧eraseC vi=vi:=by
 rcases h.cases with ⟨_,_,_,_,rfl,rfl,_⟩ | ⟨_,rfl,rfl,_⟩ <;> exact ⟨rfl,rfl⟩
theorem EnO.to {po pi:Nat} {ls:List XS} (h:EnO S po pi b c ls e S') {S2:List Blk} (hk:∀(p n:Nat) (cs:List V),n≠0→S'[p]?=some (.cells n cs)→S2[p]?=some (.cells n cs)) (hu:Upd [] S S2):EnO S po pi b c ls e S2 :=
 ⟨h.strs,hk _ _ _ (by decide) h.kb,hk _ _ _ (by decide) h.kc,hk _ _ _ (by decide) h.out,hk _ _ _ (by decide) h.inn,h.own.to (fun p cs=>hk p 3 cs (by decide)),h.lt,h.lo,h.hb,h.hc,hu⟩
theorem Res.upd (h:Res ow S vo vi b c e S'):Upd [] S S':=by
 rcases h.cases with ⟨_,_,_,_,_,_,h⟩ | ⟨_,_,_,h⟩
 ·exact h.upd
 ·exact h.upd
theorem Res.of {T:List Blk} (h:Res ow T vo vi b c e S') (hu:Upd [] S T):Res ow S vo vi b c e S':=by
 have hl:=hu.1
 rcases h.cases with ⟨rfl,po,pi,ls,h1,h2,h⟩ | ⟨rfl,rfl,rfl,g⟩
 ·exact .mkO ⟨po,pi,ls,h1,h2,⟨h.strs,h.kb,h.kc,h.out,h.inn,h.own,h.lt,fun p hp=>Nat.le_trans hl (h.lo p hp),Nat.le_trans hl h.hb,Nat.le_trans hl h.hc,hu.trans h.upd⟩⟩
 ·exact .mkR ⟨g.at_,Nat.le_trans hl g.hb,Nat.le_trans hl g.hc,hu.trans g.upd⟩
end
theorem RRes.zero (own:Bool) {S X:List Blk}:∃r S2,Wk S (.agg zE) (S++X) r S2∧RRes own S en0 r S2:=by
 cases own
 ·obtain ⟨r,S2,h1,b,c,rfl,h2⟩:=RNew.zero (S:=S) (X:=X)
  exact ⟨_,S2,h1,_,_,b,c,rfl,.mkR h2⟩
 ·obtain ⟨Z,hZ⟩:∃Z,Z=S++X:=⟨_,rfl⟩
  rw [←hZ]
  have n1:Wk S (.agg zE) Z (.agg (zE.set 1 (.heap Z.length 0))) (Z++[.cells 3 []]):=Wk.nh 3 (NH.aggAt (i:=1) rfl)
  have n2:Wk S (.agg (zE.set 1 (.heap Z.length 0))) (Z++[.cells 3 []]) (.agg ((zE.set 1 (.heap Z.length 0)).set 3 (.heap (Z.length+1) 0))) (Z++[.cells 3 [],.cells 3 []]):=by
   have:=Wk.nh (S0:=S) (S:=Z++[.cells 3 []]) 3 (NH.aggAt (n:=(Z++[Blk.cells 3 []]).length) (cs:=zE.set 1 (.heap Z.length 0)) (i:=3) rfl)
   simpa using this
  have n3:Wk S (.agg ((zE.set 1 (.heap Z.length 0)).set 3 (.heap (Z.length+1) 0))) (Z++[.cells 3 [],.cells 3 []]) (.agg (((zE.set 1 (.heap Z.length 0)).set 3 (.heap (Z.length+1) 0)).set 6 (.heap (Z.length+2) 0))) (Z++[.cells 3 [],.cells 3 [],.cells 12 []]):=by
   have:=Wk.nh (S0:=S) (S:=Z++[.cells 3 [],.cells 3 []]) 12 (NH.aggAt (n:=(Z++[Blk.cells 3 [],.cells 3 []]).length) (cs:=(zE.set 1 (.heap Z.length 0)).set 3 (.heap (Z.length+1) 0)) (i:=6) rfl)
   simpa using this
  have n4:Wk S (.agg (((zE.set 1 (.heap Z.length 0)).set 3 (.heap (Z.length+1) 0)).set 6 (.heap (Z.length+2) 0))) (Z++[.cells 3 [],.cells 3 [],.cells 12 []]) (.agg ((((zE.set 1 (.heap Z.length 0)).set 3 (.heap (Z.length+1) 0)).set 6 (.heap (Z.length+2) 0)).set 9 (.heap (Z.length+3) 0))) (Z++[.cells 3 [],.cells 3 [],.cells 12 [],.cells 4 []]):=by
   have:=Wk.nh (S0:=S) (S:=Z++[.cells 3 [],.cells 3 [],.cells 12 []]) 4 (NH.aggAt (n:=(Z++[Blk.cells 3 [],.cells 3 [],.cells 12 []]).length) (cs:=((zE.set 1 (.heap Z.length 0)).set 3 (.heap (Z.length+1) 0)).set 6 (.heap (Z.length+2) 0)) (i:=9) rfl)
   simpa using this
  have hl:S.length≤Z.length:=by rw [hZ,List.length_append]; omega
  have hu:Upd [] S Z:=by rw [hZ]; exact (Upd.refl _ _).app _
  refine ⟨_,_,((n1.trans n2).trans n3).trans n4,_,_,Z.length+2,Z.length+3,rfl,.mkO ⟨Z.length,Z.length+1,[],rfl,rfl,⟨rfl,?_,?_,?_,?_,(fun x hx=>by cases hx),by simp [fb],fun p hp=>by simp [fb] at hp; omega,by omega,by omega,hu.app _⟩⟩⟩
  ·rw [app_get]; rfl
  ·rw [app_get]; rfl
  ·rw [app_get0]; rfl
  ·rw [app_get]; rfl
end
section
open Go
def Heard (S:List Blk) (p b c:Nat) (E:En) (r:V) (S':List Blk):Prop:=∃(b' c':Nat) (E':En) (ok:Bool),r=.bool ok∧PtrTo S p b c E' b' c' S'∧E={ E' with bad:=!ok }
theorem Heard.still {S X:List Blk} {p b c:Nat} {e E:En} (h:PtrAt S p b c e) (hE:E={ e with bad:=true }):∃r S2,Wk S (.bool false) (S++X) r S2∧Heard S p b c E r S2 :=
 ⟨_,_,Wk.refl _ _ _,b,c,e,false,rfl,.stay h,by rw [hE]; rfl⟩
end
section
open Go
theorem Heard.app {S X:List Blk} {p b c:Nat} {E:En} {r:V} {S':List Blk} (h:Heard (S++X) p b c E r S'):Heard S p b c E r S':=by
 obtain ⟨b',c',E',ok,h1,h2,h3⟩:=h
 exact ⟨b',c',E',ok,h1,h2.app,h3⟩
end
section
open Go
def Unm:Blk→Prop
 | .cells sz _=>sz < 1000000
 | _=>True
def UpdU (n:Nat) (S S':List Blk):Prop:=S.length≤S'.length∧∀(j:Nat) (B:Blk),S[j]?=some B→j < n∨Unm B→S'[j]?=some B
theorem UpdU.refl (n:Nat) (S:List Blk):UpdU n S S:=⟨Nat.le_refl _,fun _ _ h _=>h⟩
theorem UpdU.trans {n:Nat} {S S1 S2:List Blk} (h:UpdU n S S1) (k:UpdU n S1 S2):UpdU n S S2:=⟨Nat.le_trans h.1 k.1,fun j B a b=>k.2 j B (h.2 j B a b) b⟩
theorem UpdU.set {n:Nat} {S S':List Blk} (h:UpdU n S S') {j:Nat} (B:Blk) (hn:n≤j) (hj:∀B0,S[j]?=some B0→¬Unm B0):UpdU n S (S'.set j B):=by
 refine ⟨by simpa using h.1,fun i C hi hu=>?_⟩
 rw [List.getElem?_set]
 by_cases e:j=i
 ·subst e
  rcases hu with hu | hu
  ·omega
  ·exact absurd hu (hj C hi)
 ·rw [if_neg e]; exact h.2 i C hi hu
theorem UpdU.app {n:Nat} {S S':List Blk} (h:UpdU n S S') (X:List Blk):UpdU n S (S'++X) :=
 ⟨by have:=h.1; simp; omega,fun i C hi hu=>by rw [List.getElem?_append_left (lt_of_some (h.2 i C hi hu))]; exact h.2 i C hi hu⟩
end
section
open Go
section
variable {P:Program} {D:Nat→TD}
end
theorem NH.at_ {n:Nat} {cs:List V} {i:Nat} (h:cs[i]?=some .nils) (j:Nat) (v u:V) (hv:cs[j]?=some v) (hu:(cs.set i (.heap n 0))[j]?=some u):NH n v u:=by
 rw [List.getElem?_set] at hu
 by_cases e:i=j
 ·subst e
  rw [h] at hv
  cases hv
  rw [if_pos rfl,if_pos (List.getElem?_eq_some_iff.1 h).1] at hu
  cases hu
  exact .nil
 ·rw [if_neg e,hv] at hu
  cases hu
  exact .refl _
end
section
open Go
theorem Res.to {ow:Bool} {S S' S2:List Blk} {vo vi:V} {b c:Nat} {e:En} (h:Res ow S vo vi b c e S') (hk:∀(p n:Nat) (cs:List V),(n=3∨n=4∨n=12)→S'[p]?=some (.cells n cs)→S2[p]?=some (.cells n cs)) (hu:Upd [] S S2):Res ow S vo vi b c e S2:=by
 rcases h.cases with ⟨rfl,po,pi,ls,h1,h2,g⟩ | ⟨rfl,rfl,rfl,g⟩
 ·exact .mkO ⟨po,pi,ls,h1,h2,g.strs,hk _ _ _ (by simp) g.kb,hk _ _ _ (by simp) g.kc,hk _ _ _ (by simp) g.out,hk _ _ _ (by simp) g.inn,g.own.to (fun p cs=>hk p 3 cs (by simp)),g.lt,g.lo,g.hb,g.hc,hu⟩
 ·exact .mkR ⟨⟨hk _ _ _ (by simp) g.at_.1,hk _ _ _ (by simp) g.at_.2⟩,g.hb,g.hc,hu⟩
end
section
open Go
theorem FL.to {S S2:List Blk} {l:List Fd} {v:V} (h:FL S l v) (hk:∀(p:Nat) (cs:List V),S[p]?=some (.cells 3 cs)→S2[p]?=some (.cells 3 cs)):FL S2 l v:=by
 cases h with
 | rows=>exact .rows
 | own h=>exact .own (hk _ _ h)
theorem EnX.to {S S2:List Blk} {vo vi:V} {b c:Nat} {ls:List XS} {e:En} (h:EnX S vo vi b c ls e) (hk:∀(p n:Nat) (cs:List V),n≠0→S[p]?=some (.cells n cs)→S2[p]?=some (.cells n cs)):EnX S2 vo vi b c ls e :=
 ⟨h.strs,hk _ _ _ (by decide) h.hb,hk _ _ _ (by decide) h.hc,h.out.to fun p cs=>hk p 3 cs (by decide),h.inn.to fun p cs=>hk p 3 cs (by decide),fun x hx=>⟨(h.heads x hx).1.to fun p cs=>hk p 3 cs (by decide),(h.heads x hx).2.to fun p cs=>hk p 3 cs (by decide)⟩⟩
theorem keep_var {S:List Blk} {j:Nat} {cs:List V} {B:Blk} (hj:S[j]?=some (.cells 0 cs)):∀(p n:Nat) (ds:List V),n≠0→S[p]?=some (.cells n ds)→(S.set j B)[p]?=some (.cells n ds):=fun p n ds hn hp=>by
 have:j≠p:=by rintro rfl; rw [hj] at hp; cases hp; exact hn rfl
 rw [List.getElem?_set_ne this]; exact hp
structure XP where
 vo:V
 vi:V
 b:Nat
 c:Nat
 ls:List XS
def pE (p:XP) (e:En):List V:=enX p.vo p.vi (.heap p.b e.strs.length) (.heap p.c e.wait.length) e
@[push_cast] theorem pE_eq (p:XP) (e:En):pE p e=enX p.vo p.vi (.heap p.b e.strs.length) (.heap p.c e.wait.length) e:=rfl
def EX (S:List Blk) (p:XP) (e:En):Prop:=EnX S p.vo p.vi p.b p.c p.ls e
theorem EX.upd {S S':List Blk} {p:XP} {e:En} (h:EX S p e) (hu:Upd [] S S'):EX S' p e:=EnX.upd h hu
theorem EX.app {S:List Blk} {p:XP} {e:En} (h:EX S p e) (X:List Blk):EX (S++X) p e:=EnX.app h X
theorem EX.var {S:List Blk} {p:XP} {e:En} (h:EX S p e) {j:Nat} {cs:List V} (B:Blk) (hj:S[j]?=some (.cells 0 cs)):EX (S.set j B) p e:=EnX.to h (keep_var hj)
def pC (p q:XP) (w:Wo):List V:=pE p w.caller++pE q w.answerer++[.str w.up,.str w.down]
@[push_cast] theorem pC_eq (p q:XP) (w:Wo):pC p q w=pE p w.caller++pE q w.answerer++[.str w.up,.str w.down]:=rfl
def pV (p q:XP) (w:Wo):V:=.agg (pC p q w)
@[push_cast] theorem pV_eq (p q:XP) (w:Wo):pV p q w=.agg (pC p q w):=rfl
structure WX (S:List Blk) (p q:XP) (w:Wo):Prop where
 caller:EX S p w.caller
 answerer:EX S q w.answerer
theorem WX.upd {S S':List Blk} {p q:XP} {w:Wo} (h:WX S p q w) (hu:Upd [] S S'):WX S' p q w:=⟨h.caller.upd hu,h.answerer.upd hu⟩
theorem WX.app {S:List Blk} {p q:XP} {w:Wo} (h:WX S p q w) (X:List Blk):WX (S++X) p q w:=⟨h.caller.app X,h.answerer.app X⟩
theorem WX.var {S:List Blk} {p q:XP} {w:Wo} (h:WX S p q w) {j:Nat} {cs:List V} (B:Blk) (hj:S[j]?=some (.cells 0 cs)):WX (S.set j B) p q w:=⟨h.caller.var B hj,h.answerer.var B hj⟩
def RWX (S:List Blk) (w:Wo) (v:V):Prop:=∃p q,v=pV p q w∧WX S p q w
structure WoO (S:List Blk) (po pi b c:Nat) (ls:List XS) (qo qi d f:Nat) (ks:List XS) (w:Wo) (S':List Blk):Prop where
 caller:EnO S po pi b c ls w.caller S'
 answerer:EnO S qo qi d f ks w.answerer S'
 sep:∀p ∈ b :: c :: po :: pi :: fb ls,∀q ∈ d :: f :: qo :: qi :: fb ks,p < q
def RWO (S:List Blk) (w:Wo) (v:V) (S':List Blk):Prop:=∃po pi b c ls qo qi d f ks,v=pV ⟨.heap po w.caller.out.length,.heap pi w.caller.inn.length,b,c,ls⟩ ⟨.heap qo w.answerer.out.length,.heap qi w.answerer.inn.length,d,f,ks⟩ w∧WoO S po pi b c ls qo qi d f ks w S'
theorem EnO.of {T S S':List Blk} {po pi b c:Nat} {ls:List XS} {e:En} (h:EnO T po pi b c ls e S') (hu:Upd [] S T):EnO S po pi b c ls e S' :=
 ⟨h.strs,h.kb,h.kc,h.out,h.inn,h.own,h.lt,fun p hp=>Nat.le_trans hu.1 (h.lo p hp),Nat.le_trans hu.1 h.hb,Nat.le_trans hu.1 h.hc,hu.trans h.upd⟩
theorem EnO.var {S S':List Blk} {po pi b c:Nat} {ls:List XS} {e:En} (h:EnO S po pi b c ls e S') {j:Nat} {cs:List V} (B:Blk) (hj:S'[j]?=some (.cells 0 cs)) (hS:S.length≤j):EnO S po pi b c ls e (S'.set j B) :=
 h.to (keep_var hj) (h.upd.set _ (.inl hS))
theorem WoO.var {S S':List Blk} {po pi b c:Nat} {ls:List XS} {qo qi d f:Nat} {ks:List XS} {w:Wo} (h:WoO S po pi b c ls qo qi d f ks w S') {j:Nat} {cs:List V} (B:Blk) (hj:S'[j]?=some (.cells 0 cs)) (hS:S.length≤j):WoO S po pi b c ls qo qi d f ks w (S'.set j B) :=
 ⟨h.caller.var B hj hS,h.answerer.var B hj hS,h.sep⟩
theorem WoO.of {T S S':List Blk} {po pi b c:Nat} {ls:List XS} {qo qi d f:Nat} {ks:List XS} {w:Wo} (h:WoO T po pi b c ls qo qi d f ks w S') (hu:Upd [] S T):WoO S po pi b c ls qo qi d f ks w S' :=
 ⟨h.caller.of hu,h.answerer.of hu,h.sep⟩
theorem nh_at {S Z:List Blk} {cs:List V} (i k:Nat) (h:cs[i]?=some .nils):Wk S (.agg cs) Z (.agg (cs.set i (.heap Z.length 0))) (Z++[.cells k []]):=Wk.nh k (NH.aggAt (i:=i) h)
theorem RWO.zero {S X:List Blk}:∃r S2,Wk S (.agg zW) (S++X) r S2∧RWO S wo0 r S2:=by
 obtain ⟨Z,hZ⟩:∃Z,Z=S++X:=⟨_,rfl⟩
 rw [←hZ]
 have hl:S.length≤Z.length:=by rw [hZ,List.length_append]; omega
 have hu:Upd [] S Z:=by rw [hZ]; exact (Upd.refl _ _).app _
 have m1:=nh_at (S:=S) (Z:=Z) (cs:=zW) 1 3 rfl
 have m2:=m1.trans (nh_at 3 3 rfl)
 have m3:=m2.trans (nh_at 6 12 rfl)
 have m4:=m3.trans (nh_at 9 4 rfl)
 have m5:=m4.trans (nh_at 12 3 rfl)
 have m6:=m5.trans (nh_at 14 3 rfl)
 have m7:=m6.trans (nh_at 17 12 rfl)
 have m8:=m7.trans (nh_at 20 4 rfl)
 simp only [List.append_assoc,List.cons_append,List.nil_append,List.length_append,List.length_cons,List.length_nil] at m8
 refine ⟨_,_,m8,Z.length,Z.length+1,Z.length+2,Z.length+3,[],Z.length+4,Z.length+5,Z.length+6,Z.length+7,[],rfl,⟨⟨rfl,?_,?_,?_,?_,(fun x hx=>by cases hx),by simp [fb],fun p hp=>by simp [fb] at hp; omega,by omega,by omega,hu.app _⟩,⟨rfl,?_,?_,?_,?_,(fun x hx=>by cases hx),by simp [fb],fun p hp=>by simp [fb] at hp; omega,by omega,by omega,hu.app _⟩,?_⟩⟩
 ·rw [app_get]; rfl
 ·rw [app_get]; rfl
 ·rw [app_get0]; rfl
 ·rw [app_get]; rfl
 ·rw [app_get]; rfl
 ·rw [app_get]; rfl
 ·rw [app_get]; rfl
 ·rw [app_get]; rfl
 ·intro p hp q hq
  simp [fb] at hp hq
  omega
end
section
open Go
def mdig (k:Nat):List UInt8:=if h:k=0 then [] else mdig (k / 10)++[UInt8.ofNat (48+k % 10)]
termination_by k
decreasing_by omega
theorem mdig_zero:mdig 0=[]:=by rw [mdig]; simp
theorem mdig_pos {k:Nat} (h:0 < k):mdig k=mdig (k / 10)++[UInt8.ofNat (48+k % 10)]:=by
 rw [mdig,dif_neg (by omega)]
theorem mdig_len:∀k:Nat,(mdig k).length≤k:=by
 intro k
 induction k using Nat.strongRecOn with
 | _ k ih =>
  by_cases h:k=0
  ·subst h; rw [mdig_zero]; exact Nat.le_refl _
  ·rw [mdig_pos (by omega),List.length_append]
   have:=ih (k / 10) (by omega)
   simp only [List.length_cons,List.length_nil]
   omega
def mtext (k:Nat):List UInt8:=if k=0 then [109,48] else 109 :: mdig k
def mkF (k:Nat):Fd:=⟨mtext k,mtext (k+1),decide ((k+2) % 3=0)⟩
def mkFs:Nat→Nat→List Fd
 | 0,_=>[]
 | n+1,k=>mkF k :: mkFs n (k+3)
theorem mkFs_len:∀n k,(mkFs n k).length=n
 | 0,_=>rfl
 | n+1,k=>by rw [mkFs,List.length_cons,mkFs_len n]
theorem mkFs_snoc:∀n k,mkFs (n+1) k=mkFs n k++[mkF (k+3 * n)]
 | 0,k=>rfl
 | n+1,k=>by
  rw [mkFs,mkFs_snoc n (k+3),mkFs,List.cons_append,show k+3+3 * n=k+3 * (n+1) from by omega]
theorem mkFs_get:∀n k i,i < n→(mkFs n k).getD i ⟨[],[],false⟩=mkF (k+3 * i)
 | 0,_,_,h=>by omega
 | n+1,k,0,_=>rfl
 | n+1,k,i+1,h=>by
  rw [mkFs,List.getD_cons_succ,mkFs_get n (k+3) i (by omega),show k+3+3 * i=k+3 * (i+1) from by omega]
end
section
open Go
def sumL {α:Type} (f:α→Nat):List α→Nat
 | []=>0
 | a :: l=>f a+sumL f l
section
variable {α:Type} {f:α→Nat}
theorem sumL_app:∀l k:List α,sumL f (l++k)=sumL f l+sumL f k
 | [],k=>by simp [sumL]
 | a :: l,k=>by rw [List.cons_append,sumL,sumL,sumL_app l k]; omega
theorem sumL_snoc {l:List α} {i:Nat} (d:α) (h:i < l.length):sumL f (l.take (i+1))=sumL f (l.take i)+f (l.getD i d):=by
 rw [List.take_add_one,List.getElem?_eq_getElem h,sumL_app,List.getD_eq_getElem?_getD,List.getElem?_eq_getElem h]
 simp [sumL]
theorem sumL_part (l:List α) (i:Nat):sumL f (l.take i)≤sumL f l:=by
 conv=>rhs; rw [←List.take_append_drop i l,sumL_app]
 omega
theorem sumL_mem {l:List α} {a:α} (h:a ∈ l):f a≤sumL f l:=by
 induction l with
 | nil=>cases h
 | cons b l ih =>
  rw [sumL]
  rcases List.mem_cons.1 h with rfl | h
  ·omega
  ·have:=ih h; omega
end
def cF (f:Fd):Nat:=f.name.length+f.val.length
def cFs (l:List Fd):Nat:=l.length+sumL cF l
def subN (left:Int) (n:Nat):Int:=if (n:Int)≤left then left - n else -1
theorem subN_in {left:Int} {n:Nat} (h:(n:Int)≤left):subN left n=left - n:=if_pos h
theorem subN_no {left:Int} {n:Nat} (h:¬(n:Int)≤left):subN left n=-1:=if_neg h
theorem cFs_b {l:List Fd} (h:cFs l≤1048576):FdsB l:=by
 unfold cFs at h
 refine ⟨by omega,fun f hf=>?_⟩
 have:=sumL_mem (f:=cF) hf
 have e:cF f=f.name.length+f.val.length:=rfl
 exact ⟨by omega,by omega⟩
def pad {α:Type} (d:α) (l:List α) (i:Nat):List α:=l.take i++List.replicate (l.length - i) d
section
variable {α:Type} {d:α} {l:List α} {i:Nat}
theorem pad_zero:pad d l 0=List.replicate l.length d:=by simp [pad]
theorem pad_all:pad d l l.length=l:=by simp [pad]
theorem pad_len (h:i≤l.length):(pad d l i).length=l.length:=by simp [pad]; omega
theorem pad_set (h:i < l.length):(pad d l i).set i (l.getD i d)=pad d l (i+1):=by
 have hl:(l.take i).length=i:=by rw [List.length_take]; omega
 unfold pad
 rw [List.set_append_right _ _ (by omega),hl,Nat.sub_self,show l.length - i=(l.length - (i+1))+1 by omega,List.replicate_succ,List.set_cons_zero,List.take_add_one,List.getElem?_eq_getElem h,List.getD_eq_getElem?_getD,List.getElem?_eq_getElem h,List.append_assoc]
 rfl
end
theorem rep_cells {α:Type} (g:α→List V) (d:α) (zs:List V) (hz:g d=zs):∀n,(List.replicate n zs).flatten=(List.replicate n d).flatMap g
 | 0=>rfl
 | n+1=>by rw [List.replicate_succ,List.flatten_cons,List.replicate_succ,List.flatMap_cons,rep_cells g d zs hz n,hz]
def fdC (f:Fd):List V:=[.str f.name,.str f.val,.bool f.never]
theorem fdC_len (f:Fd):(fdC f).length=3:=rfl
theorem fcs_put {l:List Fd} {i:Nat} (f:Fd) (h:i < l.length):splice (fcs l) (i * 3) (fdC f)=fcs (l.set i f):=fl_set fdC_len f h
end
section
open Go
def mxL:Nat:=9223372036854775807
def ZF (f:Fd):Prop:=f.name.length≤mxL∧f.val.length≤mxL
def ZL {α:Type} (B:α→Prop) (l:List α):Prop:=l.length≤mxL∧∀m ∈ l,B m
end
section
open Go
inductive BorD (S:List Blk):V→V→Prop
 | one {v v':V}:BorC S v v'→BorD S v v'
 | arr {xs cs:List V} {p sz:Nat}:S[p]?=some (.cells sz cs)→(xs.flatMap V.cells).length=cs.length→(∀(i:Nat) (a b:V),(xs.flatMap V.cells)[i]?=some a→cs[i]?=some b→BorC S a b)→BorD S (.rows none xs) (.heap p xs.length)
inductive BorE (S:List Blk):V→V→Prop
 | one {v v':V}:BorD S v v'→BorE S v v'
 | agg {cs cs':List V}:cs.length=cs'.length→(∀(i:Nat) (a b:V),cs[i]?=some a→cs'[i]?=some b→BorD S a b)→BorE S (.agg cs) (.agg cs')
theorem BorD.vr {G:Gh} {w:World} {S:List Blk} (hR:Rel G w S) {v v':V} {c:Value} (h:BorD S v v') (hv:VR G w v' c):VR (allFrozen G w) w v c:=by
 cases h with
 | one h=>exact h.vr hR hv
 | @arr xs cs p sz hp hl hb =>
  generalize hn:xs.length=n at hv
  cases hv with
  | heapNil h0 =>
   have:xs=[]:=List.length_eq_zero_iff.1 hn
   subst this
   exact .rowsNil (fun τ hτ=>by cases hτ)
  | @heap _ _ cap h0 hk hcap hlim =>
   obtain ⟨arr,ty,f1,f2,f3,f4,f5,f6⟩:=hR.live p _ hp rfl hk
   have hlt:=hR.lt p _ hp rfl hk
   have hlen:(arr.toList.take (xs.flatMap V.cells).length).length=(xs.flatMap V.cells).length:=List.length_take_of_le (by have:arr.toList.length=arr.size:=rfl; omega)
   have hrow:=VR.rows (G:=allFrozen G w) (w:=w) (tok:=none) (xs:=xs) (b:=G.blk p) (off:=0) (cap:=cap) (arr.toList.take (xs.flatMap V.cells).length) hlen.symm
    (fun i v u hv hu=>by
     rw [List.getElem?_take] at hu
     split at hu
     ·have hi:i < cs.length:=by rw [←hl]; exact (List.getElem?_eq_some_iff.1 hv).1
      exact (hb i v _ hv (List.getElem?_eq_getElem hi)).vr hR ((f6 i _ u (List.getElem?_eq_getElem hi) (by simpa using hu)).1)
     ·cases hu)
    (fun u hu=>by
     obtain ⟨i,hi,rfl⟩:=List.getElem_of_mem hu
     have hi':i < cs.length:=by omega
     simp only [List.getElem_take]
     have:=(f6 i _ arr[i] (List.getElem?_eq_getElem hi') (Array.getElem?_eq_getElem (by omega))).2
     simpa using this)
    (fun i u hu=>by
     rw [List.getElem?_take] at hu
     split at hu
     ·rw [cell_blk f1,Nat.zero_add]; simpa using hu
     ·cases hu)
    (by
     rw [hlen,Nat.zero_add]
     unfold allFrozen
     simp only
     rw [if_pos hlt,f1,hl]
     exact Nat.le_trans f4 (Nat.le_max_right _ _))
    (by omega)
    (fun τ hτ=>by cases hτ)
   rw [hn] at hrow
   exact hrow
theorem BorE.vr {G:Gh} {w:World} {S:List Blk} (hR:Rel G w S) {v v':V} {c:Value} (h:BorE S v v') (hv:VR G w v' c):VR (allFrozen G w) w v c:=by
 cases h with
 | one h=>exact h.vr hR hv
 | agg hl h =>
  cases hv with
  | agg hl' hv ho =>
   refine .agg (hl.trans hl') (fun i a u ha hu=>?_) ho
   have hi:i < _:=(List.getElem?_eq_some_iff.1 ha).1
   have hb:=List.getElem?_eq_getElem (show i < _ by rw [←hl]; exact hi)
   exact (h i a _ ha hb).vr hR (hv i _ u hb hu)
def BorM (S:List Blk) (xs ys:List V):Prop:=xs.length=ys.length∧∀(i:Nat) (a b:V),xs[i]?=some a→ys[i]?=some b→BorE S a b
theorem BorM.all {G:Gh} {w:World} {S:List Blk} (hR:Rel G w S) {xs ys:List V} {cs:List Value} (h:BorM S xs ys) (hv:AllR G w ys cs):AllR (allFrozen G w) w xs cs:=by
 refine ⟨h.1.trans hv.1,fun i a u ha hu=>?_⟩
 have hb:=List.getElem?_eq_getElem (show i < ys.length by rw [←h.1]; exact (List.getElem?_eq_some_iff.1 ha).1)
 exact (h.2 i a _ ha hb).vr hR (hv.2 i _ u hb hu)
theorem VCall.borrow2 {P:Program} {f:FuncId} {xs ys:List V} {x:V} {S:List Blk} (hf:Enters P f) (h:∀S,VCall P f xs S fun r S'=>r=x∧S'=S) (hx:Bare x) (hb:BorM S xs ys):VCall P f ys S fun r S'=>r=x∧S'=S:=by
 refine .inl ⟨hf,x,S,⟨rfl,rfl⟩,fun G w cargs hA hR=>?_⟩
 have hA0:=hb.all hR hA
 rcases h [] with ⟨_,r,S',⟨rfl,rfl⟩,hd⟩ | ⟨r,⟨rfl,_⟩,hd⟩
 ·refine Calls.mono (hd _ w cargs hA0 (rel_none hR)) ?_
  rintro e w' ⟨c,G',rfl,hv,hR',hE⟩
  obtain ⟨h1,h2⟩:=still hR hE
  exact ⟨c,G,rfl,Bare.vr hv hx,h1,h2⟩
 ·obtain ⟨c,hc,_⟩:=hd _ w cargs hA0
  exact absurd hc (xcall_no hf cargs w c)
end
section
open Go
def Pw (R:V→V→Prop) (xs ys:List V):Prop:=xs.length=ys.length∧∀(i:Nat) (a b:V),xs[i]?=some a→ys[i]?=some b→R a b
section
variable {R Q:V→V→Prop} {x y:V} {xs ys us vs:List V}
theorem Pw.nil:Pw R [] []:=⟨rfl,fun i a b h=>by simp at h⟩
theorem Pw.cons (h:R x y) (g:Pw R xs ys):Pw R (x :: xs) (y :: ys):=⟨by simp [g.1],fun i a b ha hb=>by
 cases i with
 | zero=>cases ha; cases hb; exact h
 | succ i=>exact g.2 i a b (by simpa using ha) (by simpa using hb)⟩
theorem Pw.app (h:Pw R xs ys) (g:Pw R us vs):Pw R (xs++us) (ys++vs):=⟨by simp [h.1,g.1],fun i a b ha hb=>by
 rcases Nat.lt_or_ge i xs.length with q | q
 ·rw [List.getElem?_append_left q] at ha
  rw [List.getElem?_append_left (by rw [←h.1]; exact q)] at hb
  exact h.2 i a b ha hb
 ·rw [List.getElem?_append_right q] at ha
  rw [List.getElem?_append_right (by rw [←h.1]; exact q),←h.1] at hb
  exact g.2 _ a b ha hb⟩
theorem Pw.mono (h:Pw R xs ys) (hRQ:∀a b,R a b→Q a b):Pw Q xs ys:=⟨h.1,fun i a b ha hb=>hRQ a b (h.2 i a b ha hb)⟩
end
def erC (e:En):List V:=enC (.rows none (e.strs.map stV)) (.rows none (e.wait.map frV)) e
def erV (e:En):V:=.agg (erC e)
@[push_cast] theorem erC_eq (e:En):erC e=enC (.rows none (e.strs.map stV)) (.rows none (e.wait.map frV)) e:=rfl
@[push_cast] theorem erV_eq (e:En):erV e=.agg (erC e):=rfl
def worC (w:Wo):List V:=erC w.caller++erC w.answerer++[.str w.up,.str w.down]
def worV (w:Wo):V:=.agg (worC w)
@[push_cast] theorem worC_eq (w:Wo):worC w=erC w.caller++erC w.answerer++[.str w.up,.str w.down]:=rfl
@[push_cast] theorem worV_eq (w:Wo):worV w=.agg (worC w):=rfl
section
variable {S:List Blk}
theorem st_cells (l:List St):(l.map stV).flatMap V.cells=strsC l:=by rw [List.flatMap_map]; rfl
theorem frm_cells (l:List Fr):(l.map frV).flatMap V.cells=frmsC l:=by rw [List.flatMap_map]; rfl
theorem pw_str {s:St} {vh vg:V} (h:FL S s.head vh) (g:FL S s.got vg):Pw (BorC S) (strC s) (strX s vh vg) :=
 .cons (.same (.int _ _)) (.cons (.same (.int _ _)) (.cons h.bor (.cons (.same (.str _)) (.cons (.same (.bool _)) (.cons (.same (.bool _)) (.cons (.same (.int _ _)) (.cons g.bor (.cons (.same (.str _)) (.cons (.same (.bool _)) (.cons (.same (.int _ _)) (.cons (.same (.int _ _)) .nil)))))))))))
theorem pw_strs:∀{ls:List XS},(∀x ∈ ls,FL S x.1.head x.2.1∧FL S x.1.got x.2.2)→Pw (BorC S) (strsC (ls.map Prod.fst)) (xsC ls)
 | [],_=>.nil
 | x :: ls,h=>(pw_str (h x (List.mem_cons_self ..)).1 (h x (List.mem_cons_self ..)).2).app (pw_strs fun y hy=>h y (List.mem_cons_of_mem _ hy))
theorem pw_frms:∀(l:List Fr),Pw (BorC S) (frmsC l) (frmsC l)
 | []=>.nil
 | f :: l=>(show Pw (BorC S) (frmC f) (frmC f) from .cons (.same (.int _ _)) (.cons (.same (.bool _)) (.cons (.same (.int _ _)) (.cons (.same (.str _)) .nil)))).app (pw_frms l)
theorem EnX.pw {vo vi:V} {b c:Nat} {ls:List XS} {e:En} (h:EnX S vo vi b c ls e):Pw (BorD S) (erC e) (enX vo vi (.heap b e.strs.length) (.heap c e.wait.length) e):=by
 have h1:BorD S (.rows none (e.strs.map stV)) (.heap b e.strs.length):=by
  have:=BorD.arr (S:=S) (xs:=e.strs.map stV) h.hb (by rw [st_cells,←h.strs]; exact (pw_strs h.heads).1) (by rw [st_cells,←h.strs]; exact (pw_strs h.heads).2)
  rwa [List.length_map] at this
 have h2:BorD S (.rows none (e.wait.map frV)) (.heap c e.wait.length):=by
  have:=BorD.arr (S:=S) (xs:=e.wait.map frV) h.hc (by rw [frm_cells]) (by rw [frm_cells]; exact (pw_frms e.wait).2)
  rwa [List.length_map] at this
 exact .cons (.one (.same (.bool _))) (.cons (.one h.out.bor) (.cons (.one (.same (.int _ _))) (.cons (.one h.inn.bor) (.cons (.one (.same (.int _ _))) (.cons (.one (.same (.str _))) (.cons h1 (.cons (.one (.same (.int _ _))) (.cons (.one (.same (.int _ _))) (.cons h2 (.cons (.one (.same (.bool _))) .nil))))))))))
theorem EnX.borE {vo vi:V} {b c:Nat} {ls:List XS} {e:En} (h:EnX S vo vi b c ls e):BorE S (erV e) (xV vo vi b c e):=.agg h.pw.1 h.pw.2
theorem WX.borE {p q:XP} {w:Wo} (h:WX S p q w):BorE S (worV w) (pV p q w):=by
 have hw:=((EnX.pw h.caller).app (EnX.pw h.answerer)).app (us:=[.str w.up,.str w.down]) (vs:=[.str w.up,.str w.down]) (.cons (.one (.same (.str _))) (.cons (.one (.same (.str _))) .nil))
 exact .agg hw.1 hw.2
theorem FL.borE {l:List Fd} {v:V} (h:FL S l v):BorE S (.rows none (l.map fV)) v:=.one (.one h.bor)
theorem borM_of:∀{xs ys:List V},Pw (BorE S) xs ys→BorM S xs ys:=fun h=>h
theorem borE_int (k:IntKind) (n:Int):BorE S (.int k n) (.int k n):=.one (.one (.same (.int _ _)))
theorem borE_str (s:List UInt8):BorE S (.str s) (.str s):=.one (.one (.same (.str _)))
end
end
end Go.Proofs.Ytldogccmhncnoaa
