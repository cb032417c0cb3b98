/- A part of the proof: contracts of functions, or plain facts on which these lean. -/
import Derived.Test.YtaamlddnpamomaaGreatDoorMe15
namespace Go.Proofs.YtaamlddnpamomaaGreatDoor
open Go
set_option linter.unusedVariables false
set_option linter.unusedSimpArgs false
set_option maxRecDepth 100000
set_option maxHeartbeats 16000000

section
open Go
theorem wordW_len (w:List UInt8):(wordW w).length≤2 * w.length+2:=by
 unfold wordW
 split
 ·have:=numW_len (pack w).length 7 1; simp only [List.length_append]; omega
 ·have:=numW_len w.length 7 0; simp only [List.length_append]; omega
def nameW (place bits:Nat) (f:Fd):List UInt8:=numW place bits 1++(if place=0 then wordW f.name else [])
theorem fieldOk_parts {f:Fd} (h:fieldOk f=true):wordOk f.name=true∧wordOk f.val=true∧f.name≠[]∧f.name.length≤16∧f.val.length≤16:=by
 simp only [fieldOk,Bool.and_eq_true,decide_eq_true_eq] at h
 obtain ⟨⟨h1,h2⟩,h3⟩:=h
 exact ⟨h1,h2,h3,(wordOk_signs h1).2,(wordOk_signs h2).2⟩
theorem nameW_len {f:Fd} (h:fieldOk f=true) (place bits:Nat):(nameW place bits f).length≤place+40:=by
 obtain ⟨_,_,_,h1,_⟩:=fieldOk_parts h
 have h2:=wordW_len f.name
 have h3:=numW_len place bits 1
 unfold nameW
 rw [List.length_append]
 split
 ·omega
 ·simp only [List.length_nil]; omega
theorem l11Name_ok (place bits:Nat) (f:Fd) (hf:fieldOk f=true) (hp:place≤9999) (hb:bits≤8) (S:List Blk) :
  VCall Tryz.prog 190 [.int .i64 place,.int .i64 bits,.int .i64 1,fV f] S fun r S'=>r=.str (nameW place bits f)∧S'=S:=by
 obtain ⟨h1,h2,h3,h4,h5⟩:=fieldOk_parts hf
 refine VCall.ex hD (fun _=>false) (fun id=>if id=3 then [2,2,5,5,5,8,8,8] else []) Tryz.func190 Tryz.ntmps190 Tryz.results190 ?_
 simp -implicitDefEqProofs (disch:=omega) only [push_cast,simprocAttr,↓gd]
 refine ⟨fun h=>?_,fun h=>?_⟩
 ·refine ((l1Write_ok place bits 1 (by omega) hb (by omega) _).as (by simp)).to ?_
  simp -implicitDefEqProofs (disch:=omega) only [push_cast,simprocAttr,↓gd]
  exact fin1 (.str _) (by rw [nameW,if_neg (by omega)]; simp)
 ·have:place=0:=by omega
  subst this
  refine ((l1Write_ok 0 bits 1 (by omega) hb (by omega) _).as (by simp)).to ?_
  simp -implicitDefEqProofs (disch:=omega) only [push_cast,simprocAttr,↓gd]
  refine (l2Write_ok f.name (by omega) (wordOk_signs h1).1 _).to ?_
  have e1:=wordW_len f.name
  have e2:=numW_len 0 bits 1
  simp -implicitDefEqProofs (disch:=omega) only [push_cast,simprocAttr,↓gd]
  refine ⟨by omega,fin1 (.str _) ?_⟩
  rw [nameW,if_pos rfl]
theorem named_ok (place bits:Nat) (f:Fd) (hf:fieldOk f=true) (hp:place≤9999) (hb:3≤bits∧bits≤7) (S:List Blk) :
  VCall Tryz.prog 109 [fV f,.int .i64 place,.int .i64 bits] S fun r S'=>r=.str (nameW place bits f++wordW f.val)∧S'=S:=by
 obtain ⟨h1,h2,h3,h4,h5⟩:=fieldOk_parts hf
 have h28:1 < 2 ^ (8 - bits):=Nat.one_lt_two_pow (by omega)
 have e1:=wordW_len f.name
 have e2:=numW_len place bits 1
 have e3:=wordW_len f.val
 refine VCall.en hD Tryz.func109 Tryz.ntmps109 Tryz.results109 ?_
 simp -implicitDefEqProofs (disch:=omega) only [push_cast,simprocAttr,↓gd]
 refine ((NumWrite_ok place bits 1 (by omega) hb (by omega) _).as (by simp)).to ?_
 rw [if_pos ⟨by omega,by omega,h28⟩,Int.toNat_natCast]
 simp -implicitDefEqProofs (disch:=omega) only [push_cast,simprocAttr,↓gd]
 refine ⟨fun h=>?_,fun h=>?_⟩
 ·have:place=0:=by omega
  subst this
  refine (WordWrite_ok f.name (by omega) _).to ?_
  rw [if_pos h1]
  simp -implicitDefEqProofs (disch:=omega) only [push_cast,simprocAttr,↓gd]
  refine ⟨by omega,(WordWrite_ok f.val (by omega) _).to ?_⟩
  rw [if_pos h2]
  simp -implicitDefEqProofs (disch:=omega) only [push_cast,simprocAttr,↓gd]
  refine ⟨by omega,fin1 (.str _) ?_⟩
  rw [nameW,if_pos rfl,List.append_assoc]
 ·refine (WordWrite_ok f.val (by omega) _).to ?_
  rw [if_pos h2]
  simp -implicitDefEqProofs (disch:=omega) only [push_cast,simprocAttr,↓gd]
  refine ⟨by omega,fin1 (.str _) ?_⟩
  rw [nameW,if_neg (by omega)]; simp
def fieldW (l:List Fd) (f:Fd):List UInt8 :=
 if f.never then nameW (placeOf l f) 4 f++wordW f.val else if foundIn l f then numW (placeOf l f) 7 1 else nameW (placeOf l f) 6 f++wordW f.val
def tabW (l:List Fd) (max:Int) (f:Fd):List Fd:=if f.never then l else if foundIn l f then l else fitL (f :: l) max
theorem placeOf_le (l:List Fd) (f:Fd):placeOf l f≤l.length+7:=by
 have h1:(fixedFds++l).findIdx (bothP f)≤(fixedFds++l).length:=List.findIdx_le_length
 have h2:(fixedFds++l).findIdx (nameP f)≤(fixedFds++l).length:=List.findIdx_le_length
 have h3:(fixedFds++l).length=l.length+6:=by simp [fixedFds]
 unfold placeOf
 split
 ·omega
 ·split <;> omega
theorem fieldW_len {f:Fd} (h:fieldOk f=true) (l:List Fd):(fieldW l f).length≤l.length+100:=by
 obtain ⟨_,_,_,h4,h5⟩:=fieldOk_parts h
 have h1:=placeOf_le l f
 have h2:=nameW_len h (placeOf l f) 4
 have h3:=nameW_len h (placeOf l f) 6
 have h6:=wordW_len f.val
 have h7:=numW_len (placeOf l f) 7 1
 unfold fieldW
 split
 ·rw [List.length_append]; omega
 ·split
  ·omega
  ·rw [List.length_append]; omega
theorem l11Write_ok (l:List Fd) (max:Int) (f:Fd) (hf:fieldOk f=true) (hl:FdsB l) (hl1:l.length≤1000) (hm:0≤max) (S:List Blk) :
  VCall Tryz.prog 184 [tV l max,fV f] S fun r S'=>r=.tup [tV (tabW l max f) max,.str (fieldW l f)]∧S'=S:=by
 obtain ⟨h1,h2,h3,h4,h5⟩:=fieldOk_parts hf
 have hfb:FdB f:=⟨by omega,by omega⟩
 have hp:=placeOf_le l f
 have e1:=wordW_len f.val
 have e2:=nameW_len hf (placeOf l f) 4
 have e3:=nameW_len hf (placeOf l f) 6
 refine VCall.ex hD (fun _=>false) (fun id=>if id=3 then [8,3,3,6,6,6,8,10,10,10] else if id=5 then [3,2,3,5,5] else if id=6 then [2,2,5,5,5,8,8,8,10,12,12,12] else []) Tryz.func184 Tryz.ntmps184 Tryz.results184 ?_
 simp -implicitDefEqProofs (disch:=omega) only [push_cast,simprocAttr,↓gd]
 refine (l3Find_ok l max f (by omega) _).to ?_
 cases hn:f.never
 ·have ef:fV f=.agg [.str f.name,.str f.val,.bool false]:=by rw [fV,hn]
  cases hfo:foundIn l f
  ·simp -implicitDefEqProofs (disch:=omega) only [push_cast,simprocAttr,hn,↓gd]
   refine ((l3Add_ok l max f hl hfb (by omega) hm _).as (by rw [ef]; rfl)).to ?_
   simp -implicitDefEqProofs (disch:=omega) only [push_cast,simprocAttr,hn,↓gd]
   refine ((l11Name_ok (placeOf l f) 6 f hf (by omega) (by omega) _).as (by rw [ef]; rfl)).to ?_
   simp -implicitDefEqProofs (disch:=omega) only [push_cast,simprocAttr,hn,↓gd]
   refine (l2Write_ok f.val (by omega) (wordOk_signs h2).1 _).to ?_
   simp -implicitDefEqProofs (disch:=omega) only [push_cast,simprocAttr,hn,↓gd]
   refine ⟨by omega,finE (Cl.two (cl_tab _ _ _) (.str _)) ?_⟩
   have e:(⟨f.name,f.val,false⟩:Fd)=f:=by cases f; cases hn; rfl
   rw [e,fieldW,tabW,hn,hfo]
   rfl
  ·simp -implicitDefEqProofs (disch:=omega) only [push_cast,simprocAttr,hn,↓gd]
   refine ((l1Write_ok (placeOf l f) 7 1 (by omega) (by omega) (by omega) _).as (by simp)).to ?_
   simp -implicitDefEqProofs (disch:=omega) only [push_cast,simprocAttr,hn,↓gd]
   refine fin1 (Cl.two (cl_tab _ _ _) (.str _)) ?_
   rw [fieldW,tabW,hn,hfo]
   rfl
 ·have ef:fV f=.agg [.str f.name,.str f.val,.bool true]:=by rw [fV,hn]
  simp -implicitDefEqProofs (disch:=omega) only [push_cast,simprocAttr,hn,↓gd]
  refine ((l11Name_ok (placeOf l f) 4 f hf (by omega) (by omega) _).as (by rw [ef]; rfl)).to ?_
  simp -implicitDefEqProofs (disch:=omega) only [push_cast,simprocAttr,hn,↓gd]
  refine (l2Write_ok f.val (by omega) (wordOk_signs h2).1 _).to ?_
  simp -implicitDefEqProofs (disch:=omega) only [push_cast,simprocAttr,hn,↓gd]
  refine ⟨by omega,fin1 (Cl.two (cl_tab _ _ _) (.str _)) ?_⟩
  rw [fieldW,tabW,hn]
  rfl
def headW:List Fd→Int→List Fd→List Fd × List UInt8
 | l,_,[]=>(l,[])
 | l,max,f :: h=>((headW (tabW l max f) max h).1,fieldW l f++(headW (tabW l max f) max h).2)
theorem tabW_sub {l:List Fd} {max:Int} {f:Fd} {n:Nat} (hl:FdsB l) (hf:FdB f) (hlen:l.length≤n) (hn:n < 2000000):FdsB (tabW l max f)∧(tabW l max f).length≤n+1:=by
 unfold tabW
 split
 ·exact ⟨hl,by omega⟩
 ·split
  ·exact ⟨hl,by omega⟩
  ·have hb:FdsB (f :: l):=⟨by simp; omega,fun g hg=>by
    rcases List.mem_cons.1 hg with rfl | hg
    ·exact hf
    ·exact hl.2 g hg⟩
   refine ⟨hb.fit max,?_⟩
   have:=(fitL_sub (f :: l) max).2
   simp at this
   omega
theorem l11All_ok (l:List Fd) (max:Int) (h:List Fd) (hh:∀f ∈ h,fieldOk f=true) (hl:FdsB l) (hl1:l.length≤100) (hh6:h.length≤100) (hm:0≤max) (S:List Blk) :
  VCall Tryz.prog 175 [tV l max,.rows none (h.map fV)] S fun r S'=>r=.tup [tV (headW l max h).1 max,.str (headW l max h).2]∧S'=S:=by
 refine VCall.ex hD (fun f=>if f=some 184 then true else false) (fun id=>if id=5 then [10,10,10,10,10,10,10,10,12,10,12,12] else []) Tryz.func175 Tryz.ntmps175 Tryz.results175 ?_
 simp -implicitDefEqProofs (disch:=omega) only [push_cast,simprocAttr,↓gd]
 refine wpV_loop (fun m t S'=>∃(i:Nat) (w:List Fd) (o:List UInt8) (X:List Blk),m=h.length - i∧i≤h.length∧FdsB w∧w.length≤100+i∧o.length≤i * 400∧(headW l max h).1=(headW w max (h.drop i)).1∧(headW l max h).2=o++(headW w max (h.drop i)).2∧t 1=.rows none (h.map fV)∧t 2=.ptr S.length 0∧t 4=.ptr (S.length+1) 0∧t 6=.str o∧t 7=.int .i64 i ∧
   S'=S++([.cells 0 [.rows none (w.map fV),.int .i64 max],.cells 0 [.nils,.int .i64 0]]++X)) h.length ⟨0,l,[],[],by omega,by omega,hl,by omega,by simp,rfl,rfl,rfl,rfl,rfl,rfl,rfl,rfl⟩ ?_
 rintro m t S' ⟨i,w,o,X,rfl,hi,hw,hwl,hol,hd1,hd2,h1,h2,h4,h6,h7,rfl⟩
 refine wpV_of hD (fun f=>if f=some 184 then true else false) (fun id=>if id=5 then [10,10,10,10,10,10,10,10,12,10,12,12] else []) (by kernel_rfl) ?_
 simp -implicitDefEqProofs (disch:=omega) only [push_cast,simprocAttr,h1,h2,h4,h6,h7,↓gd]
 refine ⟨fun hlt=>?_,fun hge=>?_⟩
 ·have hil:i < h.length:=by omega
  have hgd:=getD_fV hil
  have hfo:=hh _ (getD_fd_mem hil)
  generalize hf:h.getD i fd0=f at hgd hfo
  simp -implicitDefEqProofs (disch:=omega) only [push_cast,simprocAttr,h1,h2,h4,h6,h7,hgd,↓gd]
  refine ⟨by omega,by omega,_,fun S0=>(l11Write_ok w max f hfo hw (by omega) hm S0).as rfl,?_⟩
  have hfl:=fieldW_len hfo w
  simp -implicitDefEqProofs (disch:=omega) only [push_cast,simprocAttr,h1,h2,h4,h6,h7,hgd,↓gd]
  obtain ⟨hp1,hp2,hp3,hp4,hp5⟩:=fieldOk_parts hfo
  obtain ⟨ht1,ht2⟩:=tabW_sub (max:=max) hw (f:=f) ⟨by omega,by omega⟩ hwl (by omega)
  refine ⟨by omega,h.length - (i+1),by omega,i+1,tabW w max f,o++fieldW w f,X++[.cells 0 [.rows none ((tabW w max f).map fV),.int .i64 max]],rfl,by omega,ht1,by omega,by simp; omega,?_,?_,rfl,by simp,by simp⟩
  ·rw [hd1,drop_fd hil,hf]; rfl
  ·rw [hd2,drop_fd hil,hf,List.append_assoc]; rfl
 ·have:i=h.length:=by omega
  subst this
  rw [List.drop_length] at hd1 hd2
  refine fin1 (Cl.two (cl_tab _ _ _) (.str _)) ?_
  rw [hd1,hd2]
  simp [headW,tV]
theorem write_ok (l:List Fd) (max:Int) (h:List Fd) (hh:∀f ∈ h,fieldOk f=true) (hl:FdsB l) (hl1:l.length≤100) (hh6:h.length≤100) (hm:0≤max) (S:List Blk) :
  VCall Tryz.prog 56 [tV l max,.rows none (h.map fV)] S fun r S'=>r=.tup [tV (headW l max h).1 max,.str (headW l max h).2]∧S'=S:=by
 refine VCall.en hD Tryz.func56 Tryz.ntmps56 Tryz.results56 ?_
 simp -implicitDefEqProofs (disch:=omega) only [push_cast,simprocAttr,↓gd]
 refine wpV_loop (fun m t S'=>∃(i:Nat) (w:List Fd) (o:List UInt8) (X:List Blk),m=h.length - i∧i≤h.length∧FdsB w∧w.length≤100+i∧o.length≤i * 400∧(headW l max h).1=(headW w max (h.drop i)).1∧(headW l max h).2=o++(headW w max (h.drop i)).2∧t 11=.rows none (h.map fV)∧t 12=.int .i64 h.length∧t 2=.ptr S.length 0∧t 4=.ptr (S.length+1) 0∧t 6=.str o∧t 13=.int .i64 i ∧
   S'=S++([.cells 0 [.rows none (w.map fV),.int .i64 max],.cells 0 [.nils,.int .i64 0]]++X)) h.length ⟨0,l,[],[],by omega,by omega,hl,by omega,by simp,rfl,rfl,rfl,rfl,rfl,rfl,rfl,rfl,rfl⟩ ?_
 rintro m t S' ⟨i,w,o,X,rfl,hi,hw,hwl,hol,hd1,hd2,h11,h12,h2,h4,h6,h13,rfl⟩
 refine wpV_of0 hD ?_
 simp -implicitDefEqProofs (disch:=omega) only [push_cast,simprocAttr,h11,h12,h2,h4,h6,h13,↓gd]
 refine ⟨fun hlt=>?_,fun hge=>?_⟩
 ·have hil:i < h.length:=by omega
  have hgd:=getD_fV hil
  have hfo:=hh _ (getD_fd_mem hil)
  generalize hf:h.getD i fd0=f at hgd hfo
  obtain ⟨hp1,hp2,hp3,hp4,hp5⟩:=fieldOk_parts hfo
  have hfb:FdB f:=⟨by omega,by omega⟩
  have hfl:=fieldW_len hfo w
  have hpl:=placeOf_le w f
  obtain ⟨ht1,ht2⟩:=tabW_sub (max:=max) hw (f:=f) hfb hwl (by omega)
  simp -implicitDefEqProofs (disch:=omega) only [push_cast,simprocAttr,h11,h12,h2,h4,h6,h13,hgd,↓gd]
  refine ⟨by omega,by omega,((find_ok w max f (by omega) _).as rfl).to ?_⟩
  cases hn:f.never
  ·have ef:fV f=.agg [.str f.name,.str f.val,.bool false]:=by rw [fV,hn]
   cases hfo2:foundIn w f
   ·have e1:fieldW w f=nameW (placeOf w f) 6 f++wordW f.val:=by rw [fieldW,hn,hfo2]; rfl
    have e2:tabW w max f=fitL (f :: w) max:=by rw [tabW,hn,hfo2]; rfl
    simp -implicitDefEqProofs (disch:=omega) only [push_cast,simprocAttr,h11,h12,h2,h4,h6,h13,hn,↓gd]
    refine ((named_ok (placeOf w f) 6 f hfo (by omega) (by omega) _).as (by rw [ef]; rfl)).to ?_
    rw [←e1]
    simp -implicitDefEqProofs (disch:=omega) only [push_cast,simprocAttr,h11,h12,h2,h4,h6,h13,hn,↓gd]
    refine ⟨by omega,((add_ok' w max f hw hfb (by omega) hm _).as (by rw [ef]; rfl)).to ?_⟩
    rw [←e2]
    simp -implicitDefEqProofs (disch:=omega) only [push_cast,simprocAttr,h11,h12,h2,h4,h6,h13,hn,↓gd]
    refine ⟨h.length - (i+1),by omega,i+1,tabW w max f,o++fieldW w f,_,rfl,by omega,ht1,by omega,by simp; omega,?_,?_,rfl,by simp,rfl⟩
    ·rw [hd1,drop_fd hil,hf]; rfl
    ·rw [hd2,drop_fd hil,hf,List.append_assoc]; rfl
   ·have e1:fieldW w f=numW (placeOf w f) 7 1:=by rw [fieldW,hn,hfo2]; rfl
    have e2:tabW w max f=w:=by rw [tabW,hn,hfo2]; rfl
    simp -implicitDefEqProofs (disch:=omega) only [push_cast,simprocAttr,h11,h12,h2,h4,h6,h13,hn,↓gd]
    refine ((NumWrite_ok (placeOf w f) 7 1 (by omega) (by omega) (by omega) _).as (by simp)).to ?_
    rw [if_pos ⟨by omega,by omega,by decide⟩,Int.toNat_natCast,←e1]
    simp -implicitDefEqProofs (disch:=omega) only [push_cast,simprocAttr,h11,h12,h2,h4,h6,h13,hn,↓gd]
    refine ⟨by omega,h.length - (i+1),by omega,i+1,w,o++fieldW w f,_,rfl,by omega,hw,by omega,by simp; omega,?_,?_,rfl,by simp,rfl⟩
    ·rw [hd1,drop_fd hil,hf,headW,e2]
    ·rw [hd2,drop_fd hil,hf,List.append_assoc,headW,e2]
  ·have ef:fV f=.agg [.str f.name,.str f.val,.bool true]:=by rw [fV,hn]
   have e1:fieldW w f=nameW (placeOf w f) 4 f++wordW f.val:=by rw [fieldW,hn]; rfl
   have e2:tabW w max f=w:=by rw [tabW,hn]; rfl
   simp -implicitDefEqProofs (disch:=omega) only [push_cast,simprocAttr,h11,h12,h2,h4,h6,h13,hn,↓gd]
   refine ((named_ok (placeOf w f) 4 f hfo (by omega) (by omega) _).as (by rw [ef]; rfl)).to ?_
   rw [←e1]
   simp -implicitDefEqProofs (disch:=omega) only [push_cast,simprocAttr,h11,h12,h2,h4,h6,h13,hn,↓gd]
   refine ⟨by omega,h.length - (i+1),by omega,i+1,w,o++fieldW w f,_,rfl,by omega,hw,by omega,by simp; omega,?_,?_,rfl,by simp,rfl⟩
   ·rw [hd1,drop_fd hil,hf,headW,e2]
   ·rw [hd2,drop_fd hil,hf,List.append_assoc,headW,e2]
 ·have:i=h.length:=by omega
  subst this
  rw [List.drop_length] at hd1 hd2
  refine (clone_ok w max (by omega) _).to ?_
  simp -implicitDefEqProofs (disch:=omega) only [push_cast,simprocAttr,h11,h12,h2,h4,h6,h13,↓gd]
  refine fin1 (Cl.two (cl_tab _ _ _) (.str _)) ?_
  rw [hd1,hd2]
  simp [headW,tV]
def hwTab (l:List Fd) (max:Int) (h:List Fd):List Fd:=if tableOk l max && headOk h then (headW l max h).1 else []
def hwMax (l:List Fd) (max:Int) (h:List Fd):Int:=if tableOk l max && headOk h then max else 0
def hwBytes (l:List Fd) (max:Int) (h:List Fd):List UInt8:=if tableOk l max && headOk h then (headW l max h).2 else []
theorem tableOk_parts {l:List Fd} {max:Int} (h:tableOk l max=true):l.length≤16∧0≤max∧max≤64∧(∀f ∈ l,fieldOk f=true∧f.never=false)∧(fdsSize l:Int)≤max:=by
 simp only [tableOk,Bool.and_eq_true,List.all_eq_true,decide_eq_true_eq,Bool.not_eq_true'] at h
 obtain ⟨⟨h1,h2,h3⟩,h4⟩:=h
 have h5:∀l:List Fd,4 * l.length≤fdsSize l:=by
  intro l
  induction l with
  | nil=>simp
  | cons f l ih=>simp only [fdsSize,List.map_cons,List.sum_cons,List.length_cons,fdSize] at ih ⊢; omega
 have:=h5 l
 exact ⟨by omega,h2,h3,h1,h4⟩
theorem headOk_parts {h:List Fd} (hk:headOk h=true):(∀f ∈ h,fieldOk f=true)∧h.length≤6:=by
 simpa [headOk,List.all_eq_true] using hk
theorem HeadWrite_ok (l:List Fd) (max:Int) (h:List Fd) (hl:FdsB l) (hh:FdsB h) (S:List Blk) :
  VCall Tryz.prog 17 [tV l max,.rows none (h.map fV)] S fun r S'=>r=.tup [tV (hwTab l max h) (hwMax l max h),.str (hwBytes l max h)]∧S'=S:=by
 have hlen:=hl.1
 refine VCall.en hD Tryz.func17 Tryz.ntmps17 Tryz.results17 ?_
 simp -implicitDefEqProofs (disch:=omega) only [push_cast,simprocAttr,↓gd]
 refine (TableOk_ok l max hl _).to ?_
 cases ht:tableOk l max
 ·simp -implicitDefEqProofs (disch:=omega) only [push_cast,simprocAttr,↓gd]
  refine finE (Cl.two (cl_tab _ [] 0) (.str _)) ?_
  rw [hwTab,hwMax,hwBytes,ht]
  rfl
 ·simp -implicitDefEqProofs (disch:=omega) only [push_cast,simprocAttr,↓gd]
  refine (HeadOk_ok h hh _).to ?_
  cases hk:headOk h
  ·simp -implicitDefEqProofs (disch:=omega) only [push_cast,simprocAttr,↓gd]
   refine finE (Cl.two (cl_tab _ [] 0) (.str _)) ?_
   rw [hwTab,hwMax,hwBytes,ht,hk]
   rfl
  ·obtain ⟨hk1,hk2⟩:=headOk_parts hk
   obtain ⟨ht1,ht2,ht3,ht4,ht5⟩:=tableOk_parts ht
   simp -implicitDefEqProofs (disch:=omega) only [push_cast,simprocAttr,↓gd]
   refine ((write_ok l max h hk1 hl (by omega) (by omega) ht2 _).as rfl).to ?_
   simp -implicitDefEqProofs (disch:=omega) only [push_cast,simprocAttr,↓gd]
   refine finE (Cl.two (cl_tab _ _ _) (.str _)) ?_
   rw [hwTab,hwMax,hwBytes,ht,hk]
   rfl
end
section
open Go
def Rd (bs:List UInt8) (p:Nat):Blk:=.cells 0 [.rows none (bs.map u8V),.int .i64 p]
theorem Rd_eq (bs:List UInt8) (p:Nat):Rd bs p=.cells 0 [.rows none (bs.map u8V),.int .i64 p]:=rfl
theorem l6Open_ok (code:List UInt8) (hc:code.length≤1073741824) (S:List Blk):VCall Tryz.prog 36 [.rows none (code.map u8V)] S fun r S'=>r=.ptr S.length 0∧S'=S++[Rd (code.take 2000) 0]:=by
 refine VCall.en hD Tryz.func36 Tryz.ntmps36 Tryz.results36 ?_
 simp -implicitDefEqProofs (disch:=omega) only [push_cast,simprocAttr,↓gd]
 refine ⟨fun h=>?_,fun h=>?_⟩
 ·have e:List.take 2000 (List.map u8V code)=(code.take 2000).map u8V:=by rw [List.map_take]
  refine ⟨by omega,?_⟩
  rw [e]
  exact ⟨_,_,Wk.refl _ _ _,rfl,rfl⟩
 ·rw [List.take_of_length_le (by omega)]
  exact ⟨_,_,Wk.refl _ _ _,rfl,rfl⟩
theorem xor_nat {x y:Nat} (hx:x < 2 ^ 62) (hy:y < 2 ^ 62):intBits .xor .i64 (x:Int) (y:Int)=((x ^^^ y:Nat):Int):=by
 have h:x ^^^ y < 2 ^ 62:=Nat.xor_lt_two_pow hx hy
 simp only [intBits]
 rw [show IntKind.i64.bits=64 from rfl,BitVec.toNat_xor,bv64 hx,bv64 hy]
 exact i64_fit _ (by omega)
theorem getD_u8 {l:List UInt8} {i:Nat} (h:i < l.length):(l.map u8V).getD i .junk=u8V (l.getD i 0):=by
 simp [List.getD,List.getElem?_eq_getElem h]
theorem u8V_eq (c:UInt8):u8V c=.int .u8 (c.toNat:Int):=rfl
theorem pick_ok (bs:List UInt8) (b p n:Nat) (hp:p≤1000000000) (hn:1≤n∧n≤1000000) (hbs:bs.length≤2000) (S:List Blk) (hS:S[b]?=some (Rd bs p)) :
  VCall Tryz.prog 38 [.ptr b 0,.int .i64 n] S fun r S'=>(∃q:Nat,q < n∧r=.int .i64 q)∧S'=S.set b (Rd bs (p+1)):=by
 have hbl:b < S.length:=by
  rcases Nat.lt_or_ge b S.length with g | g
  ·exact g
  ·rw [List.getElem?_eq_none g] at hS; cases hS
 have hS2:∀B,(S.set b B)[b]?=some B:=fun B=>List.getElem?_set_self hbl
 have hfin:∀q:Nat,q < n→∃r S2,Wk S (.int .i64 q) (S.set b (.cells 0 [.rows none (bs.map u8V),.int .i64 ((p:Int)+1)])) r S2∧(∃q:Nat,q < n∧r=.int .i64 q)∧S2=S.set b (Rd bs (p+1)) :=
  fun q hq=>⟨_,_,Wk.refl _ _ _,⟨q,hq,rfl⟩,rfl⟩
 rw [Rd_eq] at hS
 have hn1:¬((n:Int) < 1):=by omega
 have ep:(p:Int)+1 - 1=p:=by omega
 have hn0:¬(n:Int)=0:=by omega
 refine VCall.ex hD (fun _=>false) (fun id=>if id=7 then [46,46,46,46,46,46,46,46,46,46,46,46,46,46,46,46,46,46,46,46,46,46,46,46,46,46,46,46,46,46,46,46,46,46,46,46,46,46,46,46,46,46,46,46,46,46] else []) Tryz.func38 Tryz.ntmps38 Tryz.results38 ?_
 by_cases h0:bs.length=0
 ·have h0':(bs.length:Int)=0:=by omega
  simp -implicitDefEqProofs (disch:=omega) only [push_cast,simprocAttr,Rd_eq,hS,hS2,hn1,h0',↓gd]
  exact hfin 0 (by omega)
 have h0':¬(bs.length:Int)=0:=by omega
 by_cases hk:p < bs.length
 ·have hk':(p:Int) < bs.length:=by omega
  have hgd:=getD_u8 hk
  rw [u8V_eq] at hgd
  have ht:Int.tmod ((bs.getD p 0).toNat:Int) (n:Int)=(((bs.getD p 0).toNat % n:Nat):Int):=tmod_nat _ _
  have hlt:=Nat.mod_lt (bs.getD p 0).toNat (show 0 < n by omega)
  simp -implicitDefEqProofs (disch:=omega) only [push_cast,simprocAttr,Rd_eq,hS,hS2,hn1,h0',ep,hk',hgd,ht,hn0,↓gd]
  refine ⟨by omega,?_⟩
  have hb256:=(bs.getD p 0).toNat_lt
  rw [i64_fit _ (by omega),ht]
  exact hfin _ hlt
 ·have hk':¬(p:Int) < bs.length:=by omega
  have l1:=Nat.mod_lt p (show 0 < bs.length by omega)
  have l2:=Nat.mod_lt (p * 7+3) (show 0 < bs.length by omega)
  have m1:Int.tmod (p:Int) (bs.length:Int)=((p % bs.length:Nat):Int):=tmod_nat _ _
  have m2:Int.tmod ((p:Int) * 7+3) (bs.length:Int)=(((p * 7+3) % bs.length:Nat):Int):=by rw [←tmod_nat]; simp
  have m3:Int.tdiv (p:Int) (bs.length:Int)=((p / bs.length:Nat):Int):=tdiv_nat _ _
  have l3:p / bs.length≤p:=Nat.div_le_self _ _
  generalize p % bs.length=i1 at l1 m1
  generalize (p * 7+3) % bs.length=i2 at l2 m2
  generalize p / bs.length=i3 at l3 m3
  have g1:=getD_u8 l1
  have g2:=getD_u8 l2
  rw [u8V_eq] at g1 g2
  have b1:=(bs.getD i1 0).toNat_lt
  have b2:=(bs.getD i2 0).toNat_lt
  generalize (bs.getD i1 0).toNat=c1 at g1 b1
  generalize (bs.getD i2 0).toNat=c2 at g2 b2
  have w1:IntKind.i64.wrap (c1:Int)=c1:=i64_fit _ (by omega)
  have w2:IntKind.i64.wrap (c2:Int)=c2:=i64_fit _ (by omega)
  have wm:IntKind.i64.wrap (i3:Int)=i3:=i64_fit _ (by omega)
  have d1:(0:Int)≤i1:=by omega
  have d2:(i1:Int) < bs.length:=by omega
  have d3:(0:Int)≤i2:=by omega
  have d4:(i2:Int) < bs.length:=by omega
  simp -implicitDefEqProofs (disch:=omega) only [push_cast,simprocAttr,Rd_eq,hS,hS2,hn1,h0',ep,hk',g1,g2,m1,m2,m3,hn0,w1,w2,wm,d1,d2,d3,d4,↓gd]
  have hx:((c1:Int) * 131+c2 * 1117+p * 29+i3 * 53)=((c1 * 131+c2 * 1117+p * 29+i3 * 53:Nat):Int):=by simp
  rw [hx]
  have hxb:c1 * 131+c2 * 1117+p * 29+i3 * 53 < 2 ^ 60:=by omega
  generalize c1 * 131+c2 * 1117+p * 29+i3 * 53=x at hxb
  rw [show Int.tdiv (x:Int) 64=((x / 64:Nat):Int) from tdiv_nat x 64,i64_fit _ (by omega),xor_nat (by omega) (by omega),tmod_nat]
  exact hfin _ (Nat.mod_lt _ (by omega))
theorem pickI (bs:List UInt8) (b p n:Nat) (m:Int) (hm:m=n) (hp:p≤1000000000) (hn:1≤n∧n≤1000000) (hbs:bs.length≤2000) (S:List Blk) (hS:S[b]?=some (Rd bs p)) :
  VCall Tryz.prog 38 [.ptr b 0,.int .i64 m] S fun r S'=>(∃q:Nat,q < n∧r=.int .i64 q)∧S'=S.set b (Rd bs (p+1)):=by
 subst hm
 exact pick_ok bs b p n hp hn hbs S hS
@[push_cast] theorem set_setB (S:List Blk) (b:Nat) (B C:Blk):(S.set b B).set b C=S.set b C:=List.set_set ..
def sV (s:List UInt8):V:=.str s
theorem sV_eq (s:List UInt8):sV s=.str s:=rfl
attribute [push_cast] sV_eq
@[push_cast] theorem all_sV_len (l:List (List UInt8)):(l.map sV).all (lenIs 1)=true:=by induction l <;> simp_all [lenIs,sV,V.cells]
theorem of_ok (bs:List UInt8) (b p:Nat) (l:List (List UInt8)) (hl:1≤l.length∧l.length≤1000000) (hp:p≤1000000000) (hbs:bs.length≤2000) (S:List Blk) (hS:S[b]?=some (Rd bs p)) :
  VCall Tryz.prog 114 [.ptr b 0,.rows none (l.map sV)] S fun r S'=>(∃s ∈ l,r=.str s)∧S'=S.set b (Rd bs (p+1)):=by
 refine VCall.en hD Tryz.func114 Tryz.ntmps114 Tryz.results114 ?_
 simp -implicitDefEqProofs (disch:=omega) only [push_cast,simprocAttr,↓gd]
 refine (pickI bs b p l.length _ (by simp) hp hl hbs S hS).mono ?_
 rintro r S1 ⟨⟨q,hq,rfl⟩,rfl⟩
 have hgd:(l.map sV).getD q .junk=sV (l.getD q []):=by simp [List.getD,List.getElem?_eq_getElem hq]
 simp -implicitDefEqProofs (disch:=omega) only [push_cast,simprocAttr,hgd,↓gd]
 refine ⟨by omega,by omega,⟨_,_,Wk.refl _ _ _,⟨l.getD q [],?_,rfl⟩,rfl⟩⟩
 rw [List.getD,List.getElem?_eq_getElem hq]
 exact List.getElem_mem hq
theorem l6Many_ok (s:List UInt8) (n:Nat) (hn:n * s.length≤1000000) (hn2:n≤1000000) (S:List Blk) :
  VCall Tryz.prog 87 [.str s,.int .i64 n] S fun r S'=>(∃o:List UInt8,o.length≤n * s.length∧r=.str o)∧S'=S:=by
 refine VCall.en hD Tryz.func87 Tryz.ntmps87 Tryz.results87 ?_
 simp -implicitDefEqProofs (disch:=omega) only [push_cast,simprocAttr,↓gd]
 refine wpV_loop (fun m t S'=>∃(o z:List UInt8),m≤n∧o.length+m * z.length≤n * s.length∧t 0=.str z∧t 1=.int .i64 m∧t 5=.str o∧S'=S) n ⟨[],s,Nat.le_refl _,by simp,rfl,rfl,rfl,rfl⟩ ?_
 rintro m t S' ⟨o,z,hm,hoz,h0,h1,h5,rfl⟩
 refine wpV_of0 hD ?_
 have m1:Int.tmod (m:Int) 2=((m % 2:Nat):Int):=tmod_nat m 2
 have m2:Int.tdiv (m:Int) 2=((m / 2:Nat):Int):=tdiv_nat m 2
 have m3:IntKind.i64.wrap ((m / 2:Nat):Int)=((m / 2:Nat):Int):=i64_fit _ (by omega)
 generalize hk:n * s.length=k at *
 by_cases h:0 < m
 ·have hz:m * z.length=(m % 2) * z.length+(m / 2) * (z.length+z.length):=by
   rw [←Nat.two_mul,←Nat.mul_assoc,←Nat.add_mul,Nat.mul_comm (m / 2) 2,Nat.mod_add_div]
  have hz1:z.length≤m * z.length:=Nat.le_mul_of_pos_left _ h
  have h':(m:Int) > 0:=by omega
  rcases (by omega:m % 2=0∨m % 2=1) with h2 | h2
  ·rw [h2] at m1 hz
   simp -implicitDefEqProofs (disch:=omega) only [push_cast,simprocAttr,h0,h1,h5,h',m1,m2,m3,↓gd]
   exact ⟨by omega,m / 2,by omega,o,z++z,by omega,by rw [List.length_append]; omega,rfl,by simp,rfl⟩
  ·rw [h2] at m1 hz
   simp -implicitDefEqProofs (disch:=omega) only [push_cast,simprocAttr,h0,h1,h5,h',m1,m2,m3,↓gd]
   exact ⟨by omega,by omega,m / 2,by omega,o++z,z++z,by omega,by rw [List.length_append,List.length_append]; omega,rfl,by simp,rfl⟩
 ·have:m=0:=by omega
  subst this
  simp -implicitDefEqProofs (disch:=omega) only [push_cast,simprocAttr,h0,h1,h5,↓gd]
  exact ⟨_,_,Wk.refl _ _ _,⟨o,by omega,rfl⟩,rfl⟩
theorem l71Word_ok (bs:List UInt8) (b p:Nat) (hp:p≤100000000) (hbs:bs.length≤2000) (S:List Blk) (hS:S[b]?=some (Rd bs p)) :
  VCall Tryz.prog 63 [.ptr b 0] S fun r S'=>(∃s:List UInt8,s.length≤100∧r=.str s)∧∃p',p'≤p+100∧S'=S.set b (Rd bs p'):=by
 have hbl:b < S.length:=by
  rcases Nat.lt_or_ge b S.length with g | g
  ·exact g
  ·rw [List.getElem?_eq_none g] at hS; cases hS
 have hS2:∀B,(S.set b B)[b]?=some B:=fun B=>List.getElem?_set_self hbl
 refine VCall.en hD Tryz.func63 Tryz.ntmps63 Tryz.results63 ?_
 simp -implicitDefEqProofs (disch:=omega) only [push_cast,simprocAttr,↓gd]
 refine (pickI bs b p 9 _ (by simp) (by omega) (by omega) hbs S hS).mono ?_
 rintro r S1 ⟨⟨q1,hq1,rfl⟩,rfl⟩
 simp -implicitDefEqProofs (disch:=omega) only [push_cast,simprocAttr,↓gd]
 refine (pickI bs b (p+1) 6 _ (by simp) (by omega) (by omega) hbs _ (hS2 _)).mono ?_
 rintro r S1 ⟨⟨q2,hq2,rfl⟩,rfl⟩
 have m2:Int.tdiv (q2:Int) 5=((q2 / 5:Nat):Int):=tdiv_nat q2 5
 have m3:IntKind.i64.wrap ((q2 / 5:Nat):Int)=((q2 / 5:Nat):Int):=i64_fit _ (by omega)
 have m4:(q2 / 5:Nat)≤1:=by omega
 generalize q2 / 5=q3 at m2 m3 m4
 simp -implicitDefEqProofs (disch:=omega) only [push_cast,simprocAttr,m2,m3,↓gd]
 refine wpV_loop (fun m t S'=>∃(s:List UInt8) (p':Nat),m≤16∧s.length+m≤16∧p'+3 * m≤p+60∧t 0=.ptr b 0∧t 3=.str s∧t 4=.int .i64 m∧S'=S.set b (Rd bs p')) (q1+q3 * 8) ⟨[],p+2,by omega,by simp; omega,by omega,rfl,rfl,by simp [putT],rfl⟩ ?_
 rintro m t S' ⟨s,p',hm,hs,hp',h0,h3,h4,rfl⟩
 refine wpV_of0 hD ?_
 by_cases h:0 < m
 ·have h':(m:Int) > 0:=by omega
  simp -implicitDefEqProofs (disch:=omega) only [push_cast,simprocAttr,h0,h3,h4,h',↓gd]
  refine (pickI bs b p' 24 _ (by simp) (by omega) (by omega) hbs _ (hS2 _)).mono ?_
  rintro r S1 ⟨⟨q4,hq4,rfl⟩,rfl⟩
  simp -implicitDefEqProofs (disch:=omega) only [push_cast,simprocAttr,h0,h3,h4,h',↓gd]
  refine (pickI bs b (p'+1) 4 _ (by simp) (by omega) (by omega) hbs _ (hS2 _)).mono ?_
  rintro r S1 ⟨⟨q5,hq5,rfl⟩,rfl⟩
  simp -implicitDefEqProofs (disch:=omega) only [push_cast,simprocAttr,h0,h3,h4,h',↓gd]
  have hnx:∀(c:UInt8) (P:Nat),P≤p'+3→∃m',m' < m∧∃(s_1:List UInt8) (p'_1:Nat),m'≤16∧s_1.length+m'≤16∧p'_1+3 * m'≤p+60∧V.str (s++[c])=V.str s_1∧V.int IntKind.i64 ((m:Int) - 1)=V.int IntKind.i64 m'∧S.set b (Rd bs P)=S.set b (Rd bs p'_1) :=
   fun c P hP=>⟨m - 1,by omega,s++[c],P,by omega,by rw [List.length_append]; simp; omega,by omega,rfl,by congr 1; omega,rfl⟩
  refine ⟨fun g=>?_,fun g=>?_⟩
  ·refine (pickI bs b (p'+2) 39 _ (by simp) (by omega) (by omega) hbs _ (hS2 _)).mono ?_
   rintro r S1 ⟨⟨q6,hq6,rfl⟩,rfl⟩
   simp -implicitDefEqProofs (disch:=omega) only [push_cast,simprocAttr,h0,h3,h4,↓gd]
   refine ⟨by omega,by omega,?_⟩
   generalize (List.getD (α:=UInt8) _ q6 0)=c
   have hc:=c.toNat_lt
   rw [i64_fit _ (by omega)]
   refine (l1Byte_ok c.toNat _).to ?_
   simp -implicitDefEqProofs (disch:=omega) only [push_cast,simprocAttr,h0,h3,h4,↓gd]
   exact ⟨by omega,hnx _ _ (by omega)⟩
  ·skip
   refine ⟨by omega,by omega,?_⟩
   generalize (List.getD (α:=UInt8) _ q4 0)=c
   have hc:=c.toNat_lt
   rw [i64_fit _ (by omega)]
   refine (l1Byte_ok c.toNat _).to ?_
   simp -implicitDefEqProofs (disch:=omega) only [push_cast,simprocAttr,h0,h3,h4,↓gd]
   exact ⟨by omega,hnx _ _ (by omega)⟩
 ·have:m=0:=by omega
  subst this
  have hend:∀(o:List UInt8) (P:Nat),o.length≤100→P≤p+100→∃r S2,Wk S (V.str o) (S.set b (Rd bs P)) r S2∧(∃s:List UInt8,s.length≤100∧r=.str s)∧∃p',p'≤p+100∧S2=S.set b (Rd bs p') :=
   fun o P ho hP=>⟨_,_,Wk.refl _ _ _,⟨o,ho,rfl⟩,P,hP,rfl⟩
  simp -implicitDefEqProofs (disch:=omega) only [push_cast,simprocAttr,h0,h3,h4,↓gd]
  refine (pickI bs b p' 24 _ (by simp) (by omega) (by omega) hbs _ (hS2 _)).mono ?_
  rintro r S1 ⟨⟨q4,hq4,rfl⟩,rfl⟩
  simp -implicitDefEqProofs (disch:=omega) only [push_cast,simprocAttr,h0,h3,h4,↓gd]
  refine ⟨fun g=>⟨by omega,hend _ _ (by simp; omega) (by omega)⟩,fun g=>⟨fun g2=>?_,fun g2=>hend _ _ (by omega) (by omega)⟩⟩
  refine (pickI bs b (p'+1) 4 _ (by simp) (by omega) (by omega) hbs _ (hS2 _)).mono ?_
  rintro r S1 ⟨⟨q5,hq5,rfl⟩,rfl⟩
  simp -implicitDefEqProofs (disch:=omega) only [push_cast,simprocAttr,h0,h3,h4,↓gd]
  refine ((l6Many_ok [101] (15+q5) (by simp; omega) (by omega) _).as (by simp)).mono ?_
  rintro r S1 ⟨⟨o,ho,rfl⟩,rfl⟩
  simp -implicitDefEqProofs (disch:=omega) only [push_cast,simprocAttr,h0,h3,h4,↓gd]
  exact hend _ _ (by simp at ho; omega) (by omega)
end
end Go.Proofs.YtaamlddnpamomaaGreatDoor
