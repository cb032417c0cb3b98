/- A part of the proof: contracts of functions, or plain facts on which these lean. -/
import Derived.Test.YtldogccmhncnoaaMp20
namespace Go.Proofs.Ytldogccmhncnoaa
open Go
set_option linter.unusedVariables false
set_option linter.unusedSimpArgs false
set_option maxRecDepth 100000
set_option maxHeartbeats 16000000

section
open Go
theorem fb_split (L:List XS) {i:Nat} (h:i < L.length):fb L=fb (L.take i)++([xb (L.getD i xs0).2.1,xb (L.getD i xs0).2.2]++fb (L.drop (i+1))):=by
 conv=>lhs; rw [←List.take_append_drop i L,List.drop_eq_getElem_cons h]
 rw [fb_app,List.getD_eq_getElem?_getD,List.getElem?_eq_getElem h]
 rfl
theorem mem_fb {L:List XS} {x:XS} (h:x ∈ L):xb x.2.1 ∈ fb L∧xb x.2.2 ∈ fb L :=
 ⟨List.mem_flatMap.2 ⟨x,h,by simp⟩,List.mem_flatMap.2 ⟨x,h,by simp⟩⟩
theorem OwnL.set {S S2:List Blk} {L:List XS} (h:OwnL S L) (hlt:(fb L).Pairwise (· < ·)) {i:Nat} (hi:i < L.length) {s s':St} {ph pg:Nat} (hx:L.getD i xs0=(s,.heap ph s.head.length,.heap pg s.got.length))
  (e1:s'.head.length=s.head.length) (e2:s'.got.length=s.got.length) (hk:∀(q:Nat) (cs:List V),q≠ph→q≠pg→S[q]?=some (.cells 3 cs)→S2[q]?=some (.cells 3 cs))
  (h1:S2[ph]?=some (.cells 3 (fcs s'.head))) (h2:S2[pg]?=some (.cells 3 (fcs s'.got))):OwnL S2 (L.set i (s',.heap ph s.head.length,.heap pg s.got.length)):=by
 rw [fb_split L hi,hx] at hlt
 obtain ⟨a1,a2,a3⟩:=List.pairwise_append.1 hlt
 obtain ⟨b1,b2,b3⟩:=List.pairwise_append.1 a2
 intro x hm
 rw [List.set_eq_take_append_cons_drop,if_pos hi] at hm
 have keep:∀x,x ∈ L→(∀q,q=xb x.2.1∨q=xb x.2.2→q≠ph∧q≠pg)→(∃p,x.2.1=.heap p x.1.head.length∧S2[p]?=some (.cells 3 (fcs x.1.head)))∧(∃p,x.2.2=.heap p x.1.got.length∧S2[p]?=some (.cells 3 (fcs x.1.got))):=fun x hm hne=>by
  obtain ⟨⟨p,g1,g2⟩,⟨q,g3,g4⟩⟩:=h x hm
  have n1:=hne p (.inl (by rw [g1]; rfl))
  have n2:=hne q (.inr (by rw [g3]; rfl))
  exact ⟨⟨p,g1,hk _ _ n1.1 n1.2 g2⟩,⟨q,g3,hk _ _ n2.1 n2.2 g4⟩⟩
 rcases List.mem_append.1 hm with hm | hm
 ·refine keep x (List.mem_of_mem_take hm) fun q hq=>?_
  have hq':q ∈ fb (L.take i):=by
   rcases hq with rfl | rfl
   ·exact (mem_fb hm).1
   ·exact (mem_fb hm).2
  have c1:=a3 q hq' ph (by simp [xb])
  have c2:=a3 q hq' pg (by simp [xb])
  exact ⟨by omega,by omega⟩
 ·rcases List.mem_cons.1 hm with rfl | hm
  ·exact ⟨⟨ph,by rw [e1],h1⟩,⟨pg,by rw [e2],h2⟩⟩
  ·refine keep x (List.mem_of_mem_drop hm) fun q hq=>?_
   have hq':q ∈ fb (L.drop (i+1)):=by
    rcases hq with rfl | rfl
    ·exact (mem_fb hm).1
    ·exact (mem_fb hm).2
   have c1:=b3 ph (by simp [xb]) q hq'
   have c2:=b3 pg (by simp [xb]) q hq'
   exact ⟨by omega,by omega⟩
theorem markTable_ok (l:List Fd) (max:Int) (k:Nat) (hl:l.length≤2000000) (hk:k+3 * l.length≤90000000) {S:List Blk} {p:Nat} (hp:S[p]?=some (.cells 3 (fcs l))) :
  VCall Try.prog 10 [.agg [.heap p l.length,.int .i64 max],.int .i64 k] S fun r S'=>r=.int .i64 ((k+3 * l.length:Nat):Int)∧S'[p]?=some (.cells 3 (fcs (mkFs l.length k)))∧Upd [p] S S':=by
 have lp:=lt_of_some hp
 refine VCall.en hD Try.func10 Try.ntmps10 Try.results10 ?_
 simp -implicitDefEqProofs (maxSteps:=1000000) (disch:=omega) only [push_cast,simprocAttr,↓gd]
 refine ((markFieldS_ok l k hl hk (S:=S++[Blk.cells 0 [V.heap p l.length,.int .i64 max]]) (by rw [List.getElem?_append_left lp]; exact hp)).as (by rfl)).to ?_
 rw [mkFto_all]
 generalize hK:k+3 * l.length=K
 simp -implicitDefEqProofs (maxSteps:=1000000) (disch:=omega) only [push_cast,simprocAttr,↓gd]
 refine ⟨_,_,Wk.refl _ _ _,by congr 1; omega,?_,?_⟩
 ·rw [List.getElem?_append_left (by simpa using lp),List.getElem?_set_self lp]
 ·exact ((Upd.refl [p] S).set _ (.inr (List.mem_singleton.2 rfl))).app _
theorem upd_lo {S0 S S':List Blk} {bs:List Nat} (h:Upd [] S0 S) (k:Upd bs S S') (hb:∀p ∈ bs,S0.length≤p):Upd [] S0 S' :=
 ⟨Nat.le_trans h.1 k.1,fun j hj _=>(k.2 j (Nat.lt_of_lt_of_le hj h.1) (fun hm=>by have:=hb j hm; omega)).trans (h.2 j hj (by simp))⟩
def eBlks (po pi b c:Nat) (ls:List XS):List Nat:=b :: c :: po :: pi :: fb ls
theorem OwnL.cell {S:List Blk} {ls:List XS} (h:OwnL S ls) {p:Nat} (hp:p ∈ fb ls):∃l,S[p]?=some (.cells 3 (fcs l)):=by
 obtain ⟨x,hx,hm⟩:=List.mem_flatMap.1 hp
 obtain ⟨⟨q,g1,g2⟩,⟨z,g3,g4⟩⟩:=h x hx
 rw [g1,g3] at hm
 simp only [xb,List.mem_cons,List.not_mem_nil,or_false] at hm
 rcases hm with rfl | rfl
 ·exact ⟨_,g2⟩
 ·exact ⟨_,g4⟩
theorem OwnL.keep {S S':List Blk} {ls:List XS} (h:OwnL S ls) {bs:List Nat} (hu:Upd bs S S') (hb:∀p ∈ fb ls,p ∉ bs):OwnL S' ls:=fun x hx=>by
 obtain ⟨⟨q,g1,g2⟩,⟨z,g3,g4⟩⟩:=h x hx
 have m1:=(mem_fb hx).1
 have m2:=(mem_fb hx).2
 rw [g1] at m1
 rw [g3] at m2
 exact ⟨⟨q,g1,hu.get g2 (hb _ m1)⟩,⟨z,g3,hu.get g4 (hb _ m2)⟩⟩
theorem EnO.keep {S0 S S':List Blk} {po pi b c:Nat} {ls:List XS} {e:En} (h:EnO S0 po pi b c ls e S) {bs:List Nat} (hu:Upd bs S S') (hd:∀p ∈ eBlks po pi b c ls,p ∉ bs) (hl:∀p ∈ bs,S0.length≤p):EnO S0 po pi b c ls e S' :=
 ⟨h.strs,hu.get h.kb (hd _ (by simp [eBlks])),hu.get h.kc (hd _ (by simp [eBlks])),hu.get h.out (hd _ (by simp [eBlks])),hu.get h.inn (hd _ (by simp [eBlks])),h.own.keep hu (fun p hp=>hd _ (by simp [eBlks,hp])),h.lt,h.lo,h.hb,h.hc,upd_lo h.upd hu hl⟩
end
section
open Go
theorem heldFieldS_ok (n k:Nat) (hn:n≤2000000) (hk:k+3 * n≤90000000) (S:List Blk):VCall Try.prog 13 [.rows none ((mkFs n k).map fV),.int .i64 k] S fun r S'=>r=.int .i64 ((k+3 * n:Nat):Int)∧S'=S:=by
 have hml:=mkFs_len n k
 refine VCall.ex hD (fun _=>false) (fun id=>if id=4 then [8,8,8,8,8,6,8,8] else if id=7 then [8,8,8,8,8,6,8,8] else []) Try.func13 Try.ntmps13 Try.results13 ?_
 simp -implicitDefEqProofs (maxSteps:=1000000) (disch:=omega) only [push_cast,simprocAttr,↓gd]
 refine wpV_loop (fun m t S'=>∃i K:Nat,m=n - i∧i≤n∧K=k+3 * i∧t 0=.rows none ((mkFs n k).map fV)∧t 1=.int .i64 (K:Int)∧t 5=.int .i64 i∧S'=S) n ⟨0,k,by omega,by omega,by omega,rfl,rfl,rfl,rfl⟩ ?_
 rintro m t S' ⟨i,K0,rfl,hi,hK0,h0,h1,h5,rfl⟩
 refine wpV_of hD (fun _=>false) (fun id=>if id=4 then [8,8,8,8,8,6,8,8] else if id=7 then [8,8,8,8,8,6,8,8] else []) (by kernel_rfl) ?_
 by_cases hil:i < n
 ·have hil':(i:Int) < n:=by omega
  have hg:=getD_fV (l:=mkFs n k) (i:=i) (by rw [hml]; exact hil)
  rw [show (mkFs n k).getD i fd0=mkF (k+3 * i) from mkFs_get n k i hil,←hK0] at hg
  obtain ⟨K1,hK1⟩:∃n:Nat,n=K0+1:=⟨_,rfl⟩
  obtain ⟨K2,hK2⟩:∃n:Nat,n=K1+1:=⟨_,rfl⟩
  obtain ⟨K3,hK3⟩:∃n:Nat,n=K2+1:=⟨_,rfl⟩
  have hg:((mkFs n k).map fV).getD i .junk=V.agg [V.str (mtext K0),V.str (mtext K1),V.bool (decide (K2 % 3=0))]:=by
   rw [hg]
   subst hK2 hK1
   rfl
  have e0:(K0:Int)+1=(K1:Int):=by omega
  have x0:=fun T=>markText_ok K0 (by omega) T
  generalize hm0:mtext K0=m0 at *
  have e1:(K1:Int)+1=(K2:Int):=by omega
  have x1:=fun T=>markText_ok K1 (by omega) T
  generalize hm1:mtext K1=m1 at *
  have e2:(K2:Int)+1=(K3:Int):=by omega
  have d2:=dec3 K2
  generalize hb2:decide (K2 % 3=0)=bb2 at *
  simp -implicitDefEqProofs (maxSteps:=1000000) (disch:=omega) only [push_cast,simprocAttr,h0,h1,h5,hil',hg,hml,e0,e1,e2,d2,↓gd]
  repeat refine And.intro (by omega) ?_
  refine ((x0 _).as (by rfl)).to ?_
  simp -implicitDefEqProofs (maxSteps:=1000000) (disch:=omega) only [push_cast,simprocAttr,h0,h1,h5,hil',hg,hml,e0,e1,e2,d2,↓gd]
  repeat refine And.intro (by omega) ?_
  refine ((x1 _).as (by rfl)).to ?_
  simp -implicitDefEqProofs (maxSteps:=1000000) (disch:=omega) only [push_cast,simprocAttr,h0,h1,h5,hil',hg,hml,e0,e1,e2,d2,↓gd]
  repeat refine And.intro (by omega) ?_
  exact ⟨n - (i+1),by omega,i+1,K3,rfl,by omega,by omega,by simp,by simp⟩
 ·have:i=n:=by omega
  subst this
  have hil':¬((i:Nat):Int) < i:=by omega
  simp -implicitDefEqProofs (maxSteps:=1000000) (disch:=omega) only [push_cast,simprocAttr,h0,h1,h5,hil',hml,↓gd]
  exact fin0 (by rw [hK0]; rfl)
theorem heldTable_ok (n:Nat) (max:Int) (k:Nat) (hn:n≤2000000) (hk:k+3 * n≤90000000) (S:List Blk):VCall Try.prog 12 [tV (mkFs n k) max,.int .i64 k] S fun r S'=>r=.int .i64 ((k+3 * n:Nat):Int)∧S'=S:=by
 have hh:=fun T=>heldFieldS_ok n k hn hk T
 generalize k+3 * n=K at *
 refine VCall.en hD Try.func12 Try.ntmps12 Try.results12 ?_
 simp -implicitDefEqProofs (maxSteps:=1000000) (disch:=omega) only [push_cast,simprocAttr,↓gd]
 refine ((hh _).as (by rfl)).to ?_
 have hK:¬(K:Int) < 0:=by omega
 simp -implicitDefEqProofs (maxSteps:=1000000) (disch:=omega) only [push_cast,simprocAttr,hK,↓gd]
 exact fin1 (.int _ _) rfl
end
section
open Go
theorem FO.fl {n:Nat} {l:List Fd} {v:V} {S:List Blk} (h:FO n l v S):FL S l v:=by
 rcases h.own with ⟨rfl,rfl⟩ | ⟨p,_,rfl,hp⟩
 ·exact .rows
 ·exact .own hp
theorem FO.lo {n:Nat} {l:List Fd} {v:V} {S:List Blk} (h:FO n l v S):∀p ∈ fbOf v,n≤p∧p < S.length:=by
 rcases h.own with ⟨rfl,rfl⟩ | ⟨p,h1,rfl,hp⟩
 ·intro p hp; simp [fbOf] at hp
 ·intro q hq
  simp only [fbOf,List.mem_singleton] at hq
  subst hq
  exact ⟨h1,lt_of_some hp⟩
theorem FO.keep {n:Nat} {l:List Fd} {v:V} {S S':List Blk} {bs:List Nat} (h:FO n l v S) (hu:Upd bs S S') (hb:∀p ∈ fbOf v,p ∉ bs):FO n l v S':=by
 refine ⟨h.len,?_⟩
 rcases h.own with ⟨rfl,rfl⟩ | ⟨p,h1,rfl,hp⟩
 ·exact .inl ⟨rfl,rfl⟩
 ·exact .inr ⟨p,h1,rfl,hu.get hp (hb p (by simp [fbOf]))⟩
theorem FO.app {n:Nat} {l:List Fd} {v:V} {S:List Blk} (h:FO n l v S) (X:List Blk):FO n l v (S++X):=h.keep ((Upd.refl [] S).app X) (fun _ _=>by simp)
theorem tab_bor {S:List Blk} {l:List Fd} {v:V} (m:Int) (h:FL S l v):BorE S (tV l m) (.agg [v,.int .i64 m]):=by
 refine .agg rfl (fun i a b ha hb=>?_)
 match i with
 | 0=>cases ha; cases hb; exact .one h.bor
 | 1=>cases ha; cases hb; exact .one (.same (.int _ _))
 | i+2=>simp at ha
theorem eqTable_F {S:List Blk} {l:List Fd} {v u:V} (m:Int) (hl:l.length≤2000000) (h:FL S l v) (g:FL S l u):VCall Try.prog 8 [.agg [v,.int .i64 m],.agg [u,.int .i64 m]] S fun r S'=>r=.bool true∧S'=S :=
 VCall.borrow2 ⟨_,Try.func8,rfl,rfl⟩ (fun S=>eqTable_self l m hl S) (.bool _) (borM_of (.cons (tab_bor m h) (.cons (tab_bor m g) .nil)))
theorem eqFieldS_F {S:List Blk} {l:List Fd} {v u:V} (hl:l.length≤2000000) (h:FL S l v) (g:FL S l u):VCall Try.prog 9 [v,u] S fun r S'=>r=.bool true∧S'=S :=
 VCall.borrow2 ⟨_,Try.func9,rfl,rfl⟩ (fun S=>eqFieldS_self l (fun _ _=>trivial) hl S) (.bool _) (borM_of (.cons h.borE (.cons g.borE .nil)))
theorem heldTable_F {S:List Blk} {n:Nat} {v:V} (m:Int) (k:Nat) (hn:n≤2000000) (hk:k+3 * n≤90000000) (h:FL S (mkFs n k) v):VCall Try.prog 12 [.agg [v,.int .i64 m],.int .i64 k] S fun r S'=>r=.int .i64 ((k+3 * n:Nat):Int)∧S'=S :=
 VCall.borrow2 ⟨_,Try.func12,rfl,rfl⟩ (fun S=>heldTable_ok n m k hn hk S) (.int _ _) (borM_of (.cons (tab_bor m h) (.cons (borE_int _ _) .nil)))
theorem heldFieldS_F {S:List Blk} {n:Nat} {v:V} (k:Nat) (hn:n≤2000000) (hk:k+3 * n≤90000000) (h:FL S (mkFs n k) v):VCall Try.prog 13 [v,.int .i64 k] S fun r S'=>r=.int .i64 ((k+3 * n:Nat):Int)∧S'=S :=
 VCall.borrow2 ⟨_,Try.func13,rfl,rfl⟩ (fun S=>heldFieldS_ok n k hn hk S) (.int _ _) (borM_of (.cons h.borE (.cons (borE_int _ _) .nil)))
theorem markFieldS_0 (k:Nat) (hk:k≤90000000) (S:List Blk):VCall Try.prog 11 [.rows none [],.int .i64 k] S fun r S'=>r=.int .i64 (k:Int)∧S'=S:=by
 refine VCall.en hD Try.func11 Try.ntmps11 Try.results11 ?_
 simp -implicitDefEqProofs (disch:=omega) only [push_cast,simprocAttr,↓gd]
 refine wpV_loop (fun m t S'=>m=0∧t 0=.rows none []∧t 1=.int .i64 (k:Int)∧t 5=.int .i64 0∧S'=S) 0 ⟨rfl,rfl,rfl,rfl,rfl⟩ ?_
 rintro m t S' ⟨rfl,h0,h1,h5,rfl⟩
 refine wpV_of0 hD ?_
 simp -implicitDefEqProofs (disch:=omega) only [push_cast,simprocAttr,h0,h1,h5,↓gd]
 exact fin0 rfl
theorem markTable_0 (m:Int) (k:Nat) (hk:k≤90000000) (S:List Blk):VCall Try.prog 10 [.agg [.rows none [],.int .i64 m],.int .i64 k] S fun r S'=>r=.int .i64 (k:Int)∧S'=S:=by
 refine VCall.en hD Try.func10 Try.ntmps10 Try.results10 ?_
 simp -implicitDefEqProofs (disch:=omega) only [push_cast,simprocAttr,↓gd]
 refine ((markFieldS_0 k hk _).as (by rfl)).to ?_
 simp -implicitDefEqProofs (disch:=omega) only [push_cast,simprocAttr,↓gd]
 exact fin1 (.int _ _) rfl
theorem markFieldS_F {n:Nat} {l:List Fd} {v:V} {S:List Blk} (k:Nat) (hk:k+3 * l.length≤90000000) (h:FO n l v S):VCall Try.prog 11 [v,.int .i64 k] S fun r S'=>r=.int .i64 ((k+3 * l.length:Nat):Int)∧FO n (mkFs l.length k) v S'∧Upd (fbOf v) S S':=by
 have hl:=h.len
 rcases h.own with ⟨rfl,rfl⟩ | ⟨p,h1,rfl,hp⟩
 ·refine (markFieldS_0 k (by omega) S).mono ?_
  rintro r S' ⟨rfl,rfl⟩
  exact ⟨rfl,⟨by simp [mkFs],.inl ⟨rfl,rfl⟩⟩,Upd.refl _ _⟩
 ·have lp:=lt_of_some hp
  refine (markFieldS_ok l k hl hk hp).mono ?_
  rintro r S' ⟨rfl,rfl⟩
  refine ⟨rfl,⟨by rw [mkFs_len]; exact hl,.inr ⟨p,h1,by rw [mkFs_len],?_⟩⟩,(Upd.refl _ _).set _ (.inr (by simp [fbOf]))⟩
  rw [List.getElem?_set_self lp,mkFto_all]
theorem markTable_F {n:Nat} {l:List Fd} {v:V} {S:List Blk} (m:Int) (k:Nat) (hk:k+3 * l.length≤90000000) (h:FO n l v S):VCall Try.prog 10 [.agg [v,.int .i64 m],.int .i64 k] S fun r S'=>r=.int .i64 ((k+3 * l.length:Nat):Int)∧FO n (mkFs l.length k) v S'∧Upd (fbOf v) S S':=by
 have hl:=h.len
 rcases h.own with ⟨rfl,rfl⟩ | ⟨p,h1,rfl,hp⟩
 ·refine (markTable_0 m k (by omega) S).mono ?_
  rintro r S' ⟨rfl,rfl⟩
  exact ⟨rfl,⟨by simp [mkFs],.inl ⟨rfl,rfl⟩⟩,Upd.refl _ _⟩
 ·refine (markTable_ok l m k hl hk hp).mono ?_
  rintro r S' ⟨rfl,hq,hu⟩
  exact ⟨rfl,⟨by rw [mkFs_len]; exact hl,.inr ⟨p,h1,by rw [mkFs_len],hq⟩⟩,hu⟩
theorem fcs_leaf (l:List Fd):(fcs l).all leafB=true:=by
 induction l with
 | nil=>rfl
 | cons f l ih=>simp only [fcs,List.flatMap_cons,List.all_append,Bool.and_eq_true] at ih ⊢; exact ⟨rfl,ih⟩
theorem FO.lend {l:List Fd} {v:V} {S1:List Blk} (h:FO 0 l v S1) (S:List Blk):FO S.length l (hsh1 S.length v) (S++S1.map stillB)∧Lf1 v∧fbOf (hsh1 S.length v)=(fbOf v).map (S.length+·):=by
 have hl:=h.len
 rcases h.own with ⟨rfl,rfl⟩ | ⟨p,_,rfl,hp⟩
 ·exact ⟨⟨hl,.inl ⟨rfl,rfl⟩⟩,.none,rfl⟩
 ·refine ⟨⟨hl,.inr ⟨S.length+p,by omega,rfl,?_⟩⟩,.heap _ _,rfl⟩
  rw [List.getElem?_append_right (by omega),Nat.add_sub_cancel_left,List.getElem?_map,hp]
  simp [stillB,fcs_leaf]
theorem HeadRead_L (l:List Fd) (max:Int) (b:List UInt8) (hl:FdsB l) (hb:b.length≤1000000000) {S:List Blk} {v:V} (h:FL S l v) :
  VCall Try.prog 7 [.agg [v,.int .i64 max],.str b] S fun r S'=>HrO S (hrX max (hrM l max b)) r S':=by
 refine (VCall.lend (Q:=fun r S'=>HrO [] (hrX max (hrM l max b)) r S') ⟨_,Try.func7,rfl,rfl⟩ (HeadRead_O l max b hl hb []) ?_ (borM_of (.cons (tab_bor max h) (.cons (borE_str _) .nil)))).mono ?_
 ·rintro r S' ⟨_,_,_,v0,v1,rfl,f0,f1,_⟩
  refine .tup (fun u hu=>?_)
  simp only [List.mem_cons,List.not_mem_nil,or_false] at hu
  rcases hu with rfl | rfl | rfl
  ·refine .agg (fun u hu=>?_)
   simp only [List.mem_cons,List.not_mem_nil,or_false] at hu
   rcases hu with rfl | rfl
   ·exact (f0.lend []).2.1
   ·exact .int _ _
  ·exact .one (f1.lend []).2.1
  ·exact .one (.bool _)
 ·rintro r S' ⟨r1,S1,⟨_,hx,hh,v0,v1,rfl,f0,f1,ap⟩,rfl,rfl⟩
  obtain ⟨g0,_,e0⟩:=f0.lend S
  obtain ⟨g1,l1,e1⟩:=f1.lend S
  refine ⟨(Upd.refl _ _).app _,hx,hh,_,_,?_,g0,g1,?_⟩
  ·show V.tup [.agg [hsh1 S.length v0,.int .i64 _],hsh1 S.length (hsh2 S.length v1),.bool _]=_
   rw [lf1_h2 l1]
  ·rw [e0,e1]
   intro p hp hq
   obtain ⟨a,ha,rfl⟩:=List.mem_map.1 hp
   obtain ⟨c,hc,he⟩:=List.mem_map.1 hq
   exact ap a ha (by have:c=a:=(by omega); exact this ▸ hc)
end
end Go.Proofs.Ytldogccmhncnoaa
