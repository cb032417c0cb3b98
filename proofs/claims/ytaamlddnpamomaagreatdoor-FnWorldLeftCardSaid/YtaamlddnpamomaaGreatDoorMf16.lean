/- A part of the proof: contracts of functions, or plain facts on which these lean. -/
import Derived.ProofKit
import Derived.Test.YtaamlddnpamomaaGreatDoorRows
import Derived.Test.YtaamlddnpamomaaGreatDoorMf14
import Derived.Test.YtaamlddnpamomaaGreatDoorMf15
namespace Go.Proofs.YtaamlddnpamomaaGreatDoor
open Go
set_option linter.unusedVariables false
set_option linter.unusedSimpArgs false
set_option maxRecDepth 100000
set_option maxHeartbeats 16000000

section
open Go
theorem wordW_len (w:List UInt8):(wordW w).length≤2 * w.length+2:=by
 unfold wordW
 split
 ·have:=numW_len (pack w).length 7 1; simp only [List.length_append]; omega
 ·have:=numW_len w.length 7 0; simp only [List.length_append]; omega
def nameW (place bits:Nat) (f:Fd):List UInt8:=numW place bits 1++(if place=0 then wordW f.name else [])
theorem fieldOk_parts {f:Fd} (h:fieldOk f=true):wordOk f.name=true∧wordOk f.val=true∧f.name≠[]∧f.name.length≤16∧f.val.length≤16:=by
 simp only [fieldOk,Bool.and_eq_true,decide_eq_true_eq] at h
 obtain ⟨⟨h1,h2⟩,h3⟩:=h
 exact ⟨h1,h2,h3,(wordOk_signs h1).2,(wordOk_signs h2).2⟩
theorem nameW_len {f:Fd} (h:fieldOk f=true) (place bits:Nat):(nameW place bits f).length≤place+40:=by
 obtain ⟨_,_,_,h1,_⟩:=fieldOk_parts h
 have h2:=wordW_len f.name
 have h3:=numW_len place bits 1
 unfold nameW
 rw [List.length_append]
 split
 ·omega
 ·simp only [List.length_nil]; omega
theorem l11Name_ok (place bits:Nat) (f:Fd) (hf:fieldOk f=true) (hp:place≤9999) (hb:bits≤8) (S:List Blk) :
  VCall Tryz.prog 190 [.int .i64 place,.int .i64 bits,.int .i64 1,fV f] S fun r S'=>r=.str (nameW place bits f)∧S'=S:=by
 obtain ⟨h1,h2,h3,h4,h5⟩:=fieldOk_parts hf
 refine VCall.ex hD (fun _=>false) (fun id=>if id=3 then [2,2,5,5,5,8,8,8] else []) Tryz.func190 Tryz.ntmps190 Tryz.results190 ?_
 simp -implicitDefEqProofs (disch:=omega) only [push_cast,simprocAttr,↓gd]
 refine ⟨fun h=>?_,fun h=>?_⟩
 ·refine ((l1Write_ok place bits 1 (by omega) hb (by omega) _).as (by simp)).to ?_
  simp -implicitDefEqProofs (disch:=omega) only [push_cast,simprocAttr,↓gd]
  exact fin1 (.str _) (by rw [nameW,if_neg (by omega)]; simp)
 ·have:place=0:=by omega
  subst this
  refine ((l1Write_ok 0 bits 1 (by omega) hb (by omega) _).as (by simp)).to ?_
  simp -implicitDefEqProofs (disch:=omega) only [push_cast,simprocAttr,↓gd]
  refine (l2Write_ok f.name (by omega) (wordOk_signs h1).1 _).to ?_
  have e1:=wordW_len f.name
  have e2:=numW_len 0 bits 1
  simp -implicitDefEqProofs (disch:=omega) only [push_cast,simprocAttr,↓gd]
  refine ⟨by omega,fin1 (.str _) ?_⟩
  rw [nameW,if_pos rfl]
theorem named_ok (place bits:Nat) (f:Fd) (hf:fieldOk f=true) (hp:place≤9999) (hb:3≤bits∧bits≤7) (S:List Blk) :
  VCall Tryz.prog 109 [fV f,.int .i64 place,.int .i64 bits] S fun r S'=>r=.str (nameW place bits f++wordW f.val)∧S'=S:=by
 obtain ⟨h1,h2,h3,h4,h5⟩:=fieldOk_parts hf
 have h28:1 < 2 ^ (8 - bits):=Nat.one_lt_two_pow (by omega)
 have e1:=wordW_len f.name
 have e2:=numW_len place bits 1
 have e3:=wordW_len f.val
 refine VCall.en hD Tryz.func109 Tryz.ntmps109 Tryz.results109 ?_
 simp -implicitDefEqProofs (disch:=omega) only [push_cast,simprocAttr,↓gd]
 refine ((NumWrite_ok place bits 1 (by omega) hb (by omega) _).as (by simp)).to ?_
 rw [if_pos ⟨by omega,by omega,h28⟩,Int.toNat_natCast]
 simp -implicitDefEqProofs (disch:=omega) only [push_cast,simprocAttr,↓gd]
 refine ⟨fun h=>?_,fun h=>?_⟩
 ·have:place=0:=by omega
  subst this
  refine (WordWrite_ok f.name (by omega) _).to ?_
  rw [if_pos h1]
  simp -implicitDefEqProofs (disch:=omega) only [push_cast,simprocAttr,↓gd]
  refine ⟨by omega,(WordWrite_ok f.val (by omega) _).to ?_⟩
  rw [if_pos h2]
  simp -implicitDefEqProofs (disch:=omega) only [push_cast,simprocAttr,↓gd]
  refine ⟨by omega,fin1 (.str _) ?_⟩
  rw [nameW,if_pos rfl,List.append_assoc]
 ·refine (WordWrite_ok f.val (by omega) _).to ?_
  rw [if_pos h2]
  simp -implicitDefEqProofs (disch:=omega) only [push_cast,simprocAttr,↓gd]
  refine ⟨by omega,fin1 (.str _) ?_⟩
  rw [nameW,if_neg (by omega)]; simp
def fieldW (l:List Fd) (f:Fd):List UInt8 :=
 if f.never then nameW (placeOf l f) 4 f++wordW f.val else if foundIn l f then numW (placeOf l f) 7 1 else nameW (placeOf l f) 6 f++wordW f.val
def tabW (l:List Fd) (max:Int) (f:Fd):List Fd:=if f.never then l else if foundIn l f then l else fitL (f :: l) max
theorem placeOf_le (l:List Fd) (f:Fd):placeOf l f≤l.length+7:=by
 have h1:(fixedFds++l).findIdx (bothP f)≤(fixedFds++l).length:=List.findIdx_le_length
 have h2:(fixedFds++l).findIdx (nameP f)≤(fixedFds++l).length:=List.findIdx_le_length
 have h3:(fixedFds++l).length=l.length+6:=by simp [fixedFds]
 unfold placeOf
 split
 ·omega
 ·split <;> omega
theorem fieldW_len {f:Fd} (h:fieldOk f=true) (l:List Fd):(fieldW l f).length≤l.length+100:=by
 obtain ⟨_,_,_,h4,h5⟩:=fieldOk_parts h
 have h1:=placeOf_le l f
 have h2:=nameW_len h (placeOf l f) 4
 have h3:=nameW_len h (placeOf l f) 6
 have h6:=wordW_len f.val
 have h7:=numW_len (placeOf l f) 7 1
 unfold fieldW
 split
 ·rw [List.length_append]; omega
 ·split
  ·omega
  ·rw [List.length_append]; omega
theorem l11Write_ok (l:List Fd) (max:Int) (f:Fd) (hf:fieldOk f=true) (hl:FdsB l) (hl1:l.length≤1000) (hm:0≤max) (S:List Blk) :
  VCall Tryz.prog 184 [tV l max,fV f] S fun r S'=>r=.tup [tV (tabW l max f) max,.str (fieldW l f)]∧S'=S:=by
 obtain ⟨h1,h2,h3,h4,h5⟩:=fieldOk_parts hf
 have hfb:FdB f:=⟨by omega,by omega⟩
 have hp:=placeOf_le l f
 have e1:=wordW_len f.val
 have e2:=nameW_len hf (placeOf l f) 4
 have e3:=nameW_len hf (placeOf l f) 6
 refine VCall.ex hD (fun _=>false) (fun id=>if id=3 then [8,3,3,6,6,6,8,10,10,10] else if id=5 then [3,2,3,5,5] else if id=6 then [2,2,5,5,5,8,8,8,10,12,12,12] else []) Tryz.func184 Tryz.ntmps184 Tryz.results184 ?_
 simp -implicitDefEqProofs (disch:=omega) only [push_cast,simprocAttr,↓gd]
 refine (l3Find_ok l max f (by omega) _).to ?_
 cases hn:f.never
 ·have ef:fV f=.agg [.str f.name,.str f.val,.bool false]:=by rw [fV,hn]
  cases hfo:foundIn l f
  ·simp -implicitDefEqProofs (disch:=omega) only [push_cast,simprocAttr,hn,↓gd]
   refine ((l3Add_ok l max f hl hfb (by omega) hm _).as (by rw [ef]; rfl)).to ?_
   simp -implicitDefEqProofs (disch:=omega) only [push_cast,simprocAttr,hn,↓gd]
   refine ((l11Name_ok (placeOf l f) 6 f hf (by omega) (by omega) _).as (by rw [ef]; rfl)).to ?_
   simp -implicitDefEqProofs (disch:=omega) only [push_cast,simprocAttr,hn,↓gd]
   refine (l2Write_ok f.val (by omega) (wordOk_signs h2).1 _).to ?_
   simp -implicitDefEqProofs (disch:=omega) only [push_cast,simprocAttr,hn,↓gd]
   refine ⟨by omega,finE (Cl.two (cl_tab _ _ _) (.str _)) ?_⟩
   have e:(⟨f.name,f.val,false⟩:Fd)=f:=by cases f; cases hn; rfl
   rw [e,fieldW,tabW,hn,hfo]
   rfl
  ·simp -implicitDefEqProofs (disch:=omega) only [push_cast,simprocAttr,hn,↓gd]
   refine ((l1Write_ok (placeOf l f) 7 1 (by omega) (by omega) (by omega) _).as (by simp)).to ?_
   simp -implicitDefEqProofs (disch:=omega) only [push_cast,simprocAttr,hn,↓gd]
   refine fin1 (Cl.two (cl_tab _ _ _) (.str _)) ?_
   rw [fieldW,tabW,hn,hfo]
   rfl
 ·have ef:fV f=.agg [.str f.name,.str f.val,.bool true]:=by rw [fV,hn]
  simp -implicitDefEqProofs (disch:=omega) only [push_cast,simprocAttr,hn,↓gd]
  refine ((l11Name_ok (placeOf l f) 4 f hf (by omega) (by omega) _).as (by rw [ef]; rfl)).to ?_
  simp -implicitDefEqProofs (disch:=omega) only [push_cast,simprocAttr,hn,↓gd]
  refine (l2Write_ok f.val (by omega) (wordOk_signs h2).1 _).to ?_
  simp -implicitDefEqProofs (disch:=omega) only [push_cast,simprocAttr,hn,↓gd]
  refine ⟨by omega,fin1 (Cl.two (cl_tab _ _ _) (.str _)) ?_⟩
  rw [fieldW,tabW,hn]
  rfl
def headW:List Fd→Int→List Fd→List Fd × List UInt8
 | l,_,[]=>(l,[])
 | l,max,f :: h=>((headW (tabW l max f) max h).1,fieldW l f++(headW (tabW l max f) max h).2)
theorem tabW_sub {l:List Fd} {max:Int} {f:Fd} {n:Nat} (hl:FdsB l) (hf:FdB f) (hlen:l.length≤n) (hn:n < 2000000):FdsB (tabW l max f)∧(tabW l max f).length≤n+1:=by
 unfold tabW
 split
 ·exact ⟨hl,by omega⟩
 ·split
  ·exact ⟨hl,by omega⟩
  ·have hb:FdsB (f :: l):=⟨by simp; omega,fun g hg=>by
    rcases List.mem_cons.1 hg with rfl | hg
    ·exact hf
    ·exact hl.2 g hg⟩
   refine ⟨hb.fit max,?_⟩
   have:=(fitL_sub (f :: l) max).2
   simp at this
   omega
theorem l11All_ok (l:List Fd) (max:Int) (h:List Fd) (hh:∀f ∈ h,fieldOk f=true) (hl:FdsB l) (hl1:l.length≤100) (hh6:h.length≤100) (hm:0≤max) (S:List Blk) :
  VCall Tryz.prog 175 [tV l max,.rows none (h.map fV)] S fun r S'=>r=.tup [tV (headW l max h).1 max,.str (headW l max h).2]∧S'=S:=by
 refine VCall.ex hD (fun f=>if f=some 184 then true else false) (fun id=>if id=5 then [10,10,10,10,10,10,10,10,12,10,12,12] else []) Tryz.func175 Tryz.ntmps175 Tryz.results175 ?_
 simp -implicitDefEqProofs (disch:=omega) only [push_cast,simprocAttr,↓gd]
 refine wpV_loop (fun m t S'=>∃(i:Nat) (w:List Fd) (o:List UInt8) (X:List Blk),m=h.length - i∧i≤h.length∧FdsB w∧w.length≤100+i∧o.length≤i * 400∧(headW l max h).1=(headW w max (h.drop i)).1∧(headW l max h).2=o++(headW w max (h.drop i)).2∧t 1=.rows none (h.map fV)∧t 2=.ptr S.length 0∧t 4=.ptr (S.length+1) 0∧t 6=.str o∧t 7=.int .i64 i ∧
   S'=S++([.cells 0 [.rows none (w.map fV),.int .i64 max],.cells 0 [.nils,.int .i64 0]]++X)) h.length ⟨0,l,[],[],by omega,by omega,hl,by omega,by simp,rfl,rfl,rfl,rfl,rfl,rfl,rfl,rfl⟩ ?_
 rintro m t S' ⟨i,w,o,X,rfl,hi,hw,hwl,hol,hd1,hd2,h1,h2,h4,h6,h7,rfl⟩
 refine wpV_of hD (fun f=>if f=some 184 then true else false) (fun id=>if id=5 then [10,10,10,10,10,10,10,10,12,10,12,12] else []) (by kernel_rfl) ?_
 simp -implicitDefEqProofs (disch:=omega) only [push_cast,simprocAttr,h1,h2,h4,h6,h7,↓gd]
 refine ⟨fun hlt=>?_,fun hge=>?_⟩
 ·have hil:i < h.length:=by omega
  have hgd:=getD_fV hil
  have hfo:=hh _ (getD_fd_mem hil)
  generalize hf:h.getD i fd0=f at hgd hfo
  simp -implicitDefEqProofs (disch:=omega) only [push_cast,simprocAttr,h1,h2,h4,h6,h7,hgd,↓gd]
  refine ⟨by omega,by omega,_,fun S0=>(l11Write_ok w max f hfo hw (by omega) hm S0).as rfl,?_⟩
  have hfl:=fieldW_len hfo w
  simp -implicitDefEqProofs (disch:=omega) only [push_cast,simprocAttr,h1,h2,h4,h6,h7,hgd,↓gd]
  obtain ⟨hp1,hp2,hp3,hp4,hp5⟩:=fieldOk_parts hfo
  obtain ⟨ht1,ht2⟩:=tabW_sub (max:=max) hw (f:=f) ⟨by omega,by omega⟩ hwl (by omega)
  refine ⟨by omega,h.length - (i+1),by omega,i+1,tabW w max f,o++fieldW w f,X++[.cells 0 [.rows none ((tabW w max f).map fV),.int .i64 max]],rfl,by omega,ht1,by omega,by simp; omega,?_,?_,rfl,by simp,by simp⟩
  ·rw [hd1,drop_fd hil,hf]; rfl
  ·rw [hd2,drop_fd hil,hf,List.append_assoc]; rfl
 ·have:i=h.length:=by omega
  subst this
  rw [List.drop_length] at hd1 hd2
  refine fin1 (Cl.two (cl_tab _ _ _) (.str _)) ?_
  rw [hd1,hd2]
  simp [headW,tV]
theorem write_ok (l:List Fd) (max:Int) (h:List Fd) (hh:∀f ∈ h,fieldOk f=true) (hl:FdsB l) (hl1:l.length≤100) (hh6:h.length≤100) (hm:0≤max) (S:List Blk) :
  VCall Tryz.prog 56 [tV l max,.rows none (h.map fV)] S fun r S'=>r=.tup [tV (headW l max h).1 max,.str (headW l max h).2]∧S'=S:=by
 refine VCall.en hD Tryz.func56 Tryz.ntmps56 Tryz.results56 ?_
 simp -implicitDefEqProofs (disch:=omega) only [push_cast,simprocAttr,↓gd]
 refine wpV_loop (fun m t S'=>∃(i:Nat) (w:List Fd) (o:List UInt8) (X:List Blk),m=h.length - i∧i≤h.length∧FdsB w∧w.length≤100+i∧o.length≤i * 400∧(headW l max h).1=(headW w max (h.drop i)).1∧(headW l max h).2=o++(headW w max (h.drop i)).2∧t 11=.rows none (h.map fV)∧t 12=.int .i64 h.length∧t 2=.ptr S.length 0∧t 4=.ptr (S.length+1) 0∧t 6=.str o∧t 13=.int .i64 i ∧
   S'=S++([.cells 0 [.rows none (w.map fV),.int .i64 max],.cells 0 [.nils,.int .i64 0]]++X)) h.length ⟨0,l,[],[],by omega,by omega,hl,by omega,by simp,rfl,rfl,rfl,rfl,rfl,rfl,rfl,rfl,rfl⟩ ?_
 rintro m t S' ⟨i,w,o,X,rfl,hi,hw,hwl,hol,hd1,hd2,h11,h12,h2,h4,h6,h13,rfl⟩
 refine wpV_of0 hD ?_
 simp -implicitDefEqProofs (disch:=omega) only [push_cast,simprocAttr,h11,h12,h2,h4,h6,h13,↓gd]
 refine ⟨fun hlt=>?_,fun hge=>?_⟩
 ·have hil:i < h.length:=by omega
  have hgd:=getD_fV hil
  have hfo:=hh _ (getD_fd_mem hil)
  generalize hf:h.getD i fd0=f at hgd hfo
  obtain ⟨hp1,hp2,hp3,hp4,hp5⟩:=fieldOk_parts hfo
  have hfb:FdB f:=⟨by omega,by omega⟩
  have hfl:=fieldW_len hfo w
  have hpl:=placeOf_le w f
  obtain ⟨ht1,ht2⟩:=tabW_sub (max:=max) hw (f:=f) hfb hwl (by omega)
  simp -implicitDefEqProofs (disch:=omega) only [push_cast,simprocAttr,h11,h12,h2,h4,h6,h13,hgd,↓gd]
  refine ⟨by omega,by omega,((find_ok w max f (by omega) _).as rfl).to ?_⟩
  cases hn:f.never
  ·have ef:fV f=.agg [.str f.name,.str f.val,.bool false]:=by rw [fV,hn]
   cases hfo2:foundIn w f
   ·have e1:fieldW w f=nameW (placeOf w f) 6 f++wordW f.val:=by rw [fieldW,hn,hfo2]; rfl
    have e2:tabW w max f=fitL (f :: w) max:=by rw [tabW,hn,hfo2]; rfl
    simp -implicitDefEqProofs (disch:=omega) only [push_cast,simprocAttr,h11,h12,h2,h4,h6,h13,hn,↓gd]
    refine ((named_ok (placeOf w f) 6 f hfo (by omega) (by omega) _).as (by rw [ef]; rfl)).to ?_
    rw [←e1]
    simp -implicitDefEqProofs (disch:=omega) only [push_cast,simprocAttr,h11,h12,h2,h4,h6,h13,hn,↓gd]
    refine ⟨by omega,((add_ok' w max f hw hfb (by omega) hm _).as (by rw [ef]; rfl)).to ?_⟩
    rw [←e2]
    simp -implicitDefEqProofs (disch:=omega) only [push_cast,simprocAttr,h11,h12,h2,h4,h6,h13,hn,↓gd]
    refine ⟨h.length - (i+1),by omega,i+1,tabW w max f,o++fieldW w f,_,rfl,by omega,ht1,by omega,by simp; omega,?_,?_,rfl,by simp,rfl⟩
    ·rw [hd1,drop_fd hil,hf]; rfl
    ·rw [hd2,drop_fd hil,hf,List.append_assoc]; rfl
   ·have e1:fieldW w f=numW (placeOf w f) 7 1:=by rw [fieldW,hn,hfo2]; rfl
    have e2:tabW w max f=w:=by rw [tabW,hn,hfo2]; rfl
    simp -implicitDefEqProofs (disch:=omega) only [push_cast,simprocAttr,h11,h12,h2,h4,h6,h13,hn,↓gd]
    refine ((NumWrite_ok (placeOf w f) 7 1 (by omega) (by omega) (by omega) _).as (by simp)).to ?_
    rw [if_pos ⟨by omega,by omega,by decide⟩,Int.toNat_natCast,←e1]
    simp -implicitDefEqProofs (disch:=omega) only [push_cast,simprocAttr,h11,h12,h2,h4,h6,h13,hn,↓gd]
    refine ⟨by omega,h.length - (i+1),by omega,i+1,w,o++fieldW w f,_,rfl,by omega,hw,by omega,by simp; omega,?_,?_,rfl,by simp,rfl⟩
    ·rw [hd1,drop_fd hil,hf,headW,e2]
    ·rw [hd2,drop_fd hil,hf,List.append_assoc,headW,e2]
  ·have ef:fV f=.agg [.str f.name,.str f.val,.bool true]:=by rw [fV,hn]
   have e1:fieldW w f=nameW (placeOf w f) 4 f++wordW f.val:=by rw [fieldW,hn]; rfl
   have e2:tabW w max f=w:=by rw [tabW,hn]; rfl
   simp -implicitDefEqProofs (disch:=omega) only [push_cast,simprocAttr,h11,h12,h2,h4,h6,h13,hn,↓gd]
   refine ((named_ok (placeOf w f) 4 f hfo (by omega) (by omega) _).as (by rw [ef]; rfl)).to ?_
   rw [←e1]
   simp -implicitDefEqProofs (disch:=omega) only [push_cast,simprocAttr,h11,h12,h2,h4,h6,h13,hn,↓gd]
   refine ⟨by omega,h.length - (i+1),by omega,i+1,w,o++fieldW w f,_,rfl,by omega,hw,by omega,by simp; omega,?_,?_,rfl,by simp,rfl⟩
   ·rw [hd1,drop_fd hil,hf,headW,e2]
   ·rw [hd2,drop_fd hil,hf,List.append_assoc,headW,e2]
 ·have:i=h.length:=by omega
  subst this
  rw [List.drop_length] at hd1 hd2
  refine (clone_ok w max (by omega) _).to ?_
  simp -implicitDefEqProofs (disch:=omega) only [push_cast,simprocAttr,h11,h12,h2,h4,h6,h13,↓gd]
  refine fin1 (Cl.two (cl_tab _ _ _) (.str _)) ?_
  rw [hd1,hd2]
  simp [headW,tV]
theorem tableOk_parts {l:List Fd} {max:Int} (h:tableOk l max=true):l.length≤16∧0≤max∧max≤64∧(∀f ∈ l,fieldOk f=true∧f.never=false)∧(fdsSize l:Int)≤max:=by
 simp only [tableOk,Bool.and_eq_true,List.all_eq_true,decide_eq_true_eq,Bool.not_eq_true'] at h
 obtain ⟨⟨h1,h2,h3⟩,h4⟩:=h
 have h5:∀l:List Fd,4 * l.length≤fdsSize l:=by
  intro l
  induction l with
  | nil=>simp
  | cons f l ih=>simp only [fdsSize,List.map_cons,List.sum_cons,List.length_cons,fdSize] at ih ⊢; omega
 have:=h5 l
 exact ⟨by omega,h2,h3,h1,h4⟩
theorem headOk_parts {h:List Fd} (hk:headOk h=true):(∀f ∈ h,fieldOk f=true)∧h.length≤6:=by
 simpa [headOk,List.all_eq_true] using hk
end
section
open Go
def Rd (bs:List UInt8) (p:Nat):Blk:=.cells 0 [.rows none (bs.map u8V),.int .i64 p]
theorem Rd_eq (bs:List UInt8) (p:Nat):Rd bs p=.cells 0 [.rows none (bs.map u8V),.int .i64 p]:=rfl
theorem l6Open_ok (code:List UInt8) (hc:code.length≤1073741824) (S:List Blk):VCall Tryz.prog 36 [.rows none (code.map u8V)] S fun r S'=>r=.ptr S.length 0∧S'=S++[Rd (code.take 2000) 0]:=by
 refine VCall.en hD Tryz.func36 Tryz.ntmps36 Tryz.results36 ?_
 simp -implicitDefEqProofs (disch:=omega) only [push_cast,simprocAttr,↓gd]
 refine ⟨fun h=>?_,fun h=>?_⟩
 ·have e:List.take 2000 (List.map u8V code)=(code.take 2000).map u8V:=by rw [List.map_take]
  refine ⟨by omega,?_⟩
  rw [e]
  exact ⟨_,_,Wk.refl _ _ _,rfl,rfl⟩
 ·rw [List.take_of_length_le (by omega)]
  exact ⟨_,_,Wk.refl _ _ _,rfl,rfl⟩
theorem xor_nat {x y:Nat} (hx:x < 2 ^ 62) (hy:y < 2 ^ 62):intBits .xor .i64 (x:Int) (y:Int)=((x ^^^ y:Nat):Int):=by
 have h:x ^^^ y < 2 ^ 62:=Nat.xor_lt_two_pow hx hy
 simp only [intBits]
 rw [show IntKind.i64.bits=64 from rfl,BitVec.toNat_xor,bv64 hx,bv64 hy]
 exact i64_fit _ (by omega)
theorem getD_u8 {l:List UInt8} {i:Nat} (h:i < l.length):(l.map u8V).getD i .junk=u8V (l.getD i 0):=by
 simp [List.getD,List.getElem?_eq_getElem h]
theorem u8V_eq (c:UInt8):u8V c=.int .u8 (c.toNat:Int):=rfl
theorem pick_ok (bs:List UInt8) (b p n:Nat) (hp:p≤1000000000) (hn:1≤n∧n≤1000000) (hbs:bs.length≤2000) (S:List Blk) (hS:S[b]?=some (Rd bs p)) :
  VCall Tryz.prog 38 [.ptr b 0,.int .i64 n] S fun r S'=>(∃q:Nat,q < n∧r=.int .i64 q)∧S'=S.set b (Rd bs (p+1)):=by
 have hbl:b < S.length:=by
  rcases Nat.lt_or_ge b S.length with g | g
  ·exact g
  ·rw [List.getElem?_eq_none g] at hS; cases hS
 have hS2:∀B,(S.set b B)[b]?=some B:=fun B=>List.getElem?_set_self hbl
 have hfin:∀q:Nat,q < n→∃r S2,Wk S (.int .i64 q) (S.set b (.cells 0 [.rows none (bs.map u8V),.int .i64 ((p:Int)+1)])) r S2∧(∃q:Nat,q < n∧r=.int .i64 q)∧S2=S.set b (Rd bs (p+1)) :=
  fun q hq=>⟨_,_,Wk.refl _ _ _,⟨q,hq,rfl⟩,rfl⟩
 rw [Rd_eq] at hS
 have hn1:¬((n:Int) < 1):=by omega
 have ep:(p:Int)+1 - 1=p:=by omega
 have hn0:¬(n:Int)=0:=by omega
 refine VCall.ex hD (fun _=>false) (fun id=>if id=7 then [46,46,46,46,46,46,46,46,46,46,46,46,46,46,46,46,46,46,46,46,46,46,46,46,46,46,46,46,46,46,46,46,46,46,46,46,46,46,46,46,46,46,46,46,46,46] else []) Tryz.func38 Tryz.ntmps38 Tryz.results38 ?_
 by_cases h0:bs.length=0
 ·have h0':(bs.length:Int)=0:=by omega
  simp -implicitDefEqProofs (disch:=omega) only [push_cast,simprocAttr,Rd_eq,hS,hS2,hn1,h0',↓gd]
  exact hfin 0 (by omega)
 have h0':¬(bs.length:Int)=0:=by omega
 by_cases hk:p < bs.length
 ·have hk':(p:Int) < bs.length:=by omega
  have hgd:=getD_u8 hk
  rw [u8V_eq] at hgd
  have ht:Int.tmod ((bs.getD p 0).toNat:Int) (n:Int)=(((bs.getD p 0).toNat % n:Nat):Int):=tmod_nat _ _
  have hlt:=Nat.mod_lt (bs.getD p 0).toNat (show 0 < n by omega)
  simp -implicitDefEqProofs (disch:=omega) only [push_cast,simprocAttr,Rd_eq,hS,hS2,hn1,h0',ep,hk',hgd,ht,hn0,↓gd]
  refine ⟨by omega,?_⟩
  have hb256:=(bs.getD p 0).toNat_lt
  rw [i64_fit _ (by omega),ht]
  exact hfin _ hlt
 ·have hk':¬(p:Int) < bs.length:=by omega
  have l1:=Nat.mod_lt p (show 0 < bs.length by omega)
  have l2:=Nat.mod_lt (p * 7+3) (show 0 < bs.length by omega)
  have m1:Int.tmod (p:Int) (bs.length:Int)=((p % bs.length:Nat):Int):=tmod_nat _ _
  have m2:Int.tmod ((p:Int) * 7+3) (bs.length:Int)=(((p * 7+3) % bs.length:Nat):Int):=by rw [←tmod_nat]; simp
  have m3:Int.tdiv (p:Int) (bs.length:Int)=((p / bs.length:Nat):Int):=tdiv_nat _ _
  have l3:p / bs.length≤p:=Nat.div_le_self _ _
  generalize p % bs.length=i1 at l1 m1
  generalize (p * 7+3) % bs.length=i2 at l2 m2
  generalize p / bs.length=i3 at l3 m3
  have g1:=getD_u8 l1
  have g2:=getD_u8 l2
  rw [u8V_eq] at g1 g2
  have b1:=(bs.getD i1 0).toNat_lt
  have b2:=(bs.getD i2 0).toNat_lt
  generalize (bs.getD i1 0).toNat=c1 at g1 b1
  generalize (bs.getD i2 0).toNat=c2 at g2 b2
  have w1:IntKind.i64.wrap (c1:Int)=c1:=i64_fit _ (by omega)
  have w2:IntKind.i64.wrap (c2:Int)=c2:=i64_fit _ (by omega)
  have wm:IntKind.i64.wrap (i3:Int)=i3:=i64_fit _ (by omega)
  have d1:(0:Int)≤i1:=by omega
  have d2:(i1:Int) < bs.length:=by omega
  have d3:(0:Int)≤i2:=by omega
  have d4:(i2:Int) < bs.length:=by omega
  simp -implicitDefEqProofs (disch:=omega) only [push_cast,simprocAttr,Rd_eq,hS,hS2,hn1,h0',ep,hk',g1,g2,m1,m2,m3,hn0,w1,w2,wm,d1,d2,d3,d4,↓gd]
  have hx:((c1:Int) * 131+c2 * 1117+p * 29+i3 * 53)=((c1 * 131+c2 * 1117+p * 29+i3 * 53:Nat):Int):=by simp
  rw [hx]
  have hxb:c1 * 131+c2 * 1117+p * 29+i3 * 53 < 2 ^ 60:=by omega
  generalize c1 * 131+c2 * 1117+p * 29+i3 * 53=x at hxb
  rw [show Int.tdiv (x:Int) 64=((x / 64:Nat):Int) from tdiv_nat x 64,i64_fit _ (by omega),xor_nat (by omega) (by omega),tmod_nat]
  exact hfin _ (Nat.mod_lt _ (by omega))
theorem pickI (bs:List UInt8) (b p n:Nat) (m:Int) (hm:m=n) (hp:p≤1000000000) (hn:1≤n∧n≤1000000) (hbs:bs.length≤2000) (S:List Blk) (hS:S[b]?=some (Rd bs p)) :
  VCall Tryz.prog 38 [.ptr b 0,.int .i64 m] S fun r S'=>(∃q:Nat,q < n∧r=.int .i64 q)∧S'=S.set b (Rd bs (p+1)):=by
 subst hm
 exact pick_ok bs b p n hp hn hbs S hS
@[push_cast] theorem set_setB (S:List Blk) (b:Nat) (B C:Blk):(S.set b B).set b C=S.set b C:=List.set_set ..
def sV (s:List UInt8):V:=.str s
theorem sV_eq (s:List UInt8):sV s=.str s:=rfl
attribute [push_cast] sV_eq
@[push_cast] theorem all_sV_len (l:List (List UInt8)):(l.map sV).all (lenIs 1)=true:=by induction l <;> simp_all [lenIs,sV,V.cells]
theorem of_ok (bs:List UInt8) (b p:Nat) (l:List (List UInt8)) (hl:1≤l.length∧l.length≤1000000) (hp:p≤1000000000) (hbs:bs.length≤2000) (S:List Blk) (hS:S[b]?=some (Rd bs p)) :
  VCall Tryz.prog 114 [.ptr b 0,.rows none (l.map sV)] S fun r S'=>(∃s ∈ l,r=.str s)∧S'=S.set b (Rd bs (p+1)):=by
 refine VCall.en hD Tryz.func114 Tryz.ntmps114 Tryz.results114 ?_
 simp -implicitDefEqProofs (disch:=omega) only [push_cast,simprocAttr,↓gd]
 refine (pickI bs b p l.length _ (by simp) hp hl hbs S hS).mono ?_
 rintro r S1 ⟨⟨q,hq,rfl⟩,rfl⟩
 have hgd:(l.map sV).getD q .junk=sV (l.getD q []):=by simp [List.getD,List.getElem?_eq_getElem hq]
 simp -implicitDefEqProofs (disch:=omega) only [push_cast,simprocAttr,hgd,↓gd]
 refine ⟨by omega,by omega,⟨_,_,Wk.refl _ _ _,⟨l.getD q [],?_,rfl⟩,rfl⟩⟩
 rw [List.getD,List.getElem?_eq_getElem hq]
 exact List.getElem_mem hq
end
section
open Go
section
variable {S:List Blk} {b:Nat}
theorem stA (h:b < S.length) (l:List Blk) (B:Blk):(S++l).set b B=S.set b B++l:=List.set_append_left _ _ h
theorem stB (h:b < S.length) (B1:Blk) (l:List Blk) (B:Blk):(S.set b B1++l).set b B=S.set b B++l:=by
 rw [List.set_append_left _ _ (by simpa using h),List.set_set]
theorem stC (h:b < S.length) (B1:Blk) (l:List Blk):(S.set b B1++l)[b]?=some B1:=by
 rw [List.getElem?_append_left (by simpa using h),List.getElem?_set_self h]
@[push_cast] theorem stD (B1:Blk) (l:List Blk) (B:Blk):(S.set b B1++l).set S.length B=S.set b B1++l.set 0 B:=by
 rw [List.set_append_right _ _ (by simp)]; simp
@[push_cast] theorem stE (B1:Blk) (l:List Blk) (n:Nat) (B:Blk):(S.set b B1++l).set (S.length+n) B=S.set b B1++l.set n B:=by
 rw [List.set_append_right _ _ (by simp)]; simp
@[push_cast] theorem stF (B1:Blk) (l:List Blk):(S.set b B1++l)[S.length]?=l[0]?:=by
 rw [List.getElem?_append_right (by simp)]; simp
@[push_cast] theorem stG (B1:Blk) (l:List Blk) (n:Nat):(S.set b B1++l)[S.length+n]?=l[n]?:=by
 rw [List.getElem?_append_right (by simp)]; simp
@[push_cast] theorem stH (B1:Blk):(S.set b B1).length=S.length:=List.length_set ..
end
theorem rd_lt {S:List Blk} {b:Nat} {B:Blk} (h:S[b]?=some B):b < S.length:=by
 rcases Nat.lt_or_ge b S.length with g | g
 ·exact g
 ·rw [List.getElem?_eq_none g] at h; cases h
theorem rd_cl (bs:List UInt8) (P n:Nat):∀v ∈ [V.rows none (bs.map u8V),.int .i64 (P:Int)],Cl n v:=by
 intro v hv
 simp only [List.mem_cons,List.not_mem_nil,or_false] at hv
 rcases hv with rfl | rfl
 ·refine Cl.rows' (fun x hx=>?_)
  obtain ⟨y,_,rfl⟩:=List.mem_map.1 hx
  exact .int _ _
 ·exact .int _ _
theorem finS {S X:List Blk} {b P:Nat} {bs:List UInt8} {v:V} (hc:Cl S.length v):Wk S v (S.set b (Rd bs P)++X) v (S.set b (Rd bs P)):=Wk.set hc (rd_cl bs P _)
theorem cl_fV (n:Nat) (f:Fd):Cl n (fV f):=by
 refine .agg ?_
 simp only [List.mem_cons,List.not_mem_nil,or_false,forall_eq_or_imp,forall_eq]
 exact ⟨.str _,.str _,.bool _⟩
def FdS (f:Fd):Prop:=f.name.length≤100∧f.val.length≤100
theorem FdS.b {f:Fd} (h:FdS f):FdB f:=⟨by have:=h.1; omega,by have:=h.2; omega⟩
section
variable {Z:List Blk} {c:Blk}
end
end
section
open Go
theorem fd_ext {a c:Fd}:(a.name=c.name∧a.val=c.val∧a.never=c.never)↔a=c:=by
 cases a; cases c; simp
instance:DecidableEq Fd:=fun _ _=>decidable_of_iff _ fd_ext
theorem lkFields_ok (a c:List Fd) (ha:a.length≤2000000) (hc:c.length≤2000000) (S:List Blk):VCall Tryz.prog 75 [.rows none (a.map fV),.rows none (c.map fV)] S fun r S'=>r=.bool (decide (a=c))∧S'=S:=by
 refine VCall.ex hD (fun _=>false) (fun id=>if id=6 then [9,9,9,9,9,9,9,9,9] else []) Tryz.func75 Tryz.ntmps75 Tryz.results75 ?_
 simp -implicitDefEqProofs (disch:=omega) only [push_cast,simprocAttr,↓gd]
 refine ⟨fun h=>?_,fun h=>?_⟩
 ·refine fin0 ?_
  rw [decide_eq_false (fun e=>h (by rw [e]))]
 have hlen:a.length=c.length:=by omega
 refine wpV_loop (fun m t S'=>∃i:Nat,m=a.length - i∧i≤a.length∧a.take i=c.take i∧t 0=.rows none (a.map fV)∧t 1=.rows none (c.map fV)∧t 5=.int .i64 i∧S'=S) a.length ⟨0,by omega,by omega,by simp,rfl,rfl,rfl,rfl⟩ ?_
 rintro m t S' ⟨i,rfl,hi,htk,h0,h1,h5,rfl⟩
 refine wpV_of hD (fun _=>false) (fun id=>if id=6 then [9,9,9,9,9,9,9,9,9] else []) (by kernel_rfl) ?_
 simp -implicitDefEqProofs (disch:=omega) only [push_cast,simprocAttr,h0,h1,h5,↓gd]
 refine ⟨fun h=>⟨by omega,by omega,?_⟩,fun h=>?_⟩
 ·have hil:i < a.length:=by omega
  have hil2:i < c.length:=by omega
  have hg1:=getD_fV hil
  have hg2:=getD_fV hil2
  generalize hf:a.getD i fd0=f at hg1
  generalize hg:c.getD i fd0=g at hg2
  simp -implicitDefEqProofs (disch:=omega) only [push_cast,simprocAttr,h0,h1,h5,hg1,hg2,↓gd]
  refine ⟨by omega,by omega,fun he=>fin0 ?_,fun he=>⟨a.length - (i+1),by omega,i+1,rfl,by omega,?_,by simp⟩⟩
  ·rw [decide_eq_false]
   intro e
   subst e
   rw [hf] at hg
   subst hg
   simp at he
  ·rw [take_fd hil,take_fd hil2,htk,hf,hg]
   simp only [Bool.and_eq_true,decide_eq_true_eq,beq_iff_eq] at he
   rw [fd_ext.1 he]
 ·have:i=a.length:=by omega
  subst this
  rw [List.take_length,hlen,List.take_length] at htk
  exact fin0 (by rw [htk]; simp)
theorem lkTable_ok (a c:List Fd) (m n:Int) (ha:a.length≤2000000) (hc:c.length≤2000000) (S:List Blk):VCall Tryz.prog 27 [tV a m,tV c n] S fun r S'=>r=.bool (decide (m=n) && decide (a=c))∧S'=S:=by
 refine VCall.en hD Tryz.func27 Tryz.ntmps27 Tryz.results27 ?_
 by_cases h:m=n
 ·simp -implicitDefEqProofs (disch:=omega) only [push_cast,simprocAttr,h,↓gd]
  refine (lkFields_ok a c ha hc _).to ?_
  simp -implicitDefEqProofs (disch:=omega) only [push_cast,simprocAttr,h,↓gd]
  exact fin1 (.bool _) (by simp)
 ·simp -implicitDefEqProofs (disch:=omega) only [push_cast,simprocAttr,h,↓gd]
  exact fin1 (.bool _) (by simp [h])
theorem lkTable_self (a:List Fd) (m:Int) (ha:a.length≤2000000) (S:List Blk):VCall Tryz.prog 27 [tV a m,tV a m] S fun r S'=>r=.bool true∧S'=S:=by
 have h:=lkTable_ok a a m m ha ha S
 rw [decide_eq_true rfl,decide_eq_true rfl] at h
 exact h
theorem tabW_len (l:List Fd) (max:Int) (f:Fd):(tabW l max f).length≤l.length+1:=by
 unfold tabW
 split
 ·omega
 ·split
  ·omega
  ·have:=(fitL_sub (f :: l) max).2
   simpa using this
theorem headW_nil (l:List Fd) (max:Int):headW l max []=(l,[]):=rfl
end
section
open Go Go.ChangeShapes Go.WideShapes Go.ChangeAt Go.RowKit
theorem lawOwn:ownKnob Tryz.prog.godebug=none:=by kernel_rfl
theorem lawLaid:laidOutB Tryz.prog=true:=by kernel_rfl
theorem cellsOf8:Tryz.prog.cellsOf 5=1:=by kernel_rfl
def lawG (W:World) (K:Nat):Gh:={ n:=0,ok:=fun _=>false,blk:=fun _=>0,fin:=fun _=>0,lim:=fun _=>0,sz:=fun _=>0,p:=fun b=>if b < W.heap.size then K else 0 }
theorem lawRel (W:World) (K:Nat):Rel (lawG W K) W [] where
 n:=rfl
 fresh:=fun b hb=>by simp [lawG,Nat.not_lt.2 hb]
 lt:=fun j B h=>by simp at h
 live:=fun j B h=>by simp at h
 vac:=fun j sz cs h=>by simp at h
 inj:=fun i j B C h=>by simp at h
theorem bytes_arg {H:Type} {enc:TypeId × Value→H} {W:World} {base:Nat} {v0:Value} {d0:DataW H} {p0:List MemPlace}
  (hv:Value.okWide Tryz.prog W .any base 22 v0) (h0:DataW.Trod enc Tryz.prog W 0 (fun _=>true) true 22 v0 d0 p0) :
  ∃(code:List UInt8) (K:Nat),∀K',K≤K'→VR (lawG W K') W (.rows none (code.map u8V)) v0:=by
 obtain ⟨a0,len,cap,rfl⟩:=okWide_slice Tryz.underlying22 hv
 obtain ⟨fuel,hf⟩:=h0
 rcases open_ints Tryz.underlying22 Tryz.underlying5 cellsOf8 hf with ⟨hcs,hx⟩ | ⟨a,len',cap',zs,hcs,_,hl,hm,hz,hx,hcell,hwz⟩
 ·simp [Value.cells] at hcs
  obtain ⟨rfl,rfl,rfl⟩:=hcs
  exact ⟨[],0,fun K' _=>.rowsNil (fun τ hτ=>by cases hτ)⟩
 ·simp [Value.cells] at hcs
  obtain ⟨rfl,rfl,rfl⟩:=hcs
  simp only [if_true] at hz
  simp only [Value.okWide,Cell.okWide,Cell.ok,Tryz.underlying22] at hv
  obtain ⟨_,_,_,hsp,row,cells,hsh,_⟩:=hv
  obtain ⟨b,off,s⟩:=a
  simp only at hsp
  subst hsp
  have hb:b < W.heap.size:=by
   rcases Nat.lt_or_ge b W.heap.size with g | g
   ·exact g
   ·have hn:W.heap[b]?=none:=Array.getElem?_eq_none g
    simp [World.shape?,hn] at hsh
  have hbyte:∀x ∈ zs,0≤x∧x < 256:=fun x hx=>by
   have h:=hwz x hx
   have h1:IntKind.u8.min=0:=rfl
   have h2:IntKind.u8.max=255:=rfl
   simp only [Lit.wf,Bool.and_eq_true,decide_eq_true_eq] at h
   omega
  refine ⟨(zs.take len).map (fun x=>UInt8.ofNat x.toNat),off+len,fun K' hK=>?_⟩
  have hlen:(((zs.take len).map (fun x=>UInt8.ofNat x.toNat)).map u8V).length=len:=by simp; omega
  have hr:VR (lawG W K') W (.rows none (((zs.take len).map (fun x=>UInt8.ofNat x.toNat)).map u8V)) (.slice (some ⟨b,off,none⟩) (((zs.take len).map (fun x=>UInt8.ofNat x.toNat)).map u8V).length cap):=by
   refine .rows ((zs.take len).map fun x=>.int .u8 x) ?_ ?_ ?_ ?_ ?_ (by rw [hlen]; omega) (fun τ hτ=>by cases hτ)
   ·rw [cells_ff _ (fun v hv=>by obtain ⟨y,_,rfl⟩:=List.mem_map.1 hv; rfl)]; simp
   ·intro i v u hv' hu
    rw [cells_ff _ (fun v hv=>by obtain ⟨y,_,rfl⟩:=List.mem_map.1 hv; rfl)] at hv'
    simp only [List.getElem?_map,Option.map_eq_some_iff] at hv' hu
    obtain ⟨c,⟨x,hx1,rfl⟩,rfl⟩:=hv'
    obtain ⟨y,hy,rfl⟩:=hu
    rw [hx1] at hy
    cases hy
    obtain ⟨g1,g2⟩:=hbyte x (List.mem_of_mem_take (List.mem_of_getElem? hx1))
    have e:((UInt8.ofNat x.toNat).toNat:Int)=x:=by simp; omega
    rw [u8V,e]
    exact .int _ _
   ·intro u hu
    simp only [List.mem_map] at hu
    obtain ⟨x,_,rfl⟩:=hu
    rfl
   ·intro i u hu
    simp only [List.getElem?_map,Option.map_eq_some_iff] at hu
    obtain ⟨x,hx1,rfl⟩:=hu
    have hi:i < zs.length:=by
     have:=(List.getElem?_eq_some_iff.1 hx1).1
     simp at this; omega
    have:=hcell i hi
    rw [List.getElem?_take] at hx1
    split at hx1
    ·rw [List.getD,hx1] at this
     rw [add_plain] at this
     exact this
    ·cases hx1
   ·have:((zs.take len).map fun x=>Value.int .u8 x).length=len:=by simp; omega
    rw [this]
    simp only [lawG,if_pos hb]
    omega
  rw [hlen] at hr
  exact hr
theorem law_callsR {fid:FuncId} {fn:Func} (hfn:Tryz.prog.funcs[fid]?=some fn) (hbody:fn.body.isNone=false) (hname:(fn.name == "runtime.NumGoroutine")=false) {args:List V}
  (hc:VCall Tryz.prog fid args [] fun r S'=>r=.bool true) {W:World} {K:Nat} {cargs:Array Value} (ha:AllR (lawG W K) W args cargs.toList) :
  Calls Tryz.prog fid cargs W fun e W'=>e=.returned (.bool true)∧Below W.heap.size W W':=by
 rcases hc with ⟨_,r,S',rfl,hd⟩ | ⟨r,_,hx⟩
 ·refine Calls.mono (hd (lawG W K) W cargs ha (lawRel W K)) ?_
  rintro e W' ⟨c,G',rfl,hv,_,hE⟩
  cases hv
  refine ⟨rfl,⟨hE.os,hE.tape,hE.output,hE.size,fun k hk=>hE.other k hk ?_⟩⟩
  rintro ⟨j,B,hj,_⟩
  simp at hj
 ·obtain ⟨c,hrun,_⟩:=hx (lawG W K) W cargs ha
  have hne:¬fn.name= "runtime.NumGoroutine":=by simpa using hname
  cases hbo:fn.body with
  | none=>rw [hbo] at hbody; cases hbody
  | some bd=>simp [callFunc,hfn,hbo,hne] at hrun
theorem allR_two {G:Gh} {W:World} {a b:V} {v u:Value} (h:VR G W a v) (k:VR G W b u):AllR G W [a,b] (#[v,u]:Array Value).toList:=by
 refine ⟨rfl,fun i x z hx hz=>?_⟩
 rcases i with _ | _ | i
 ·cases hx; cases hz; exact h
 ·cases hx; cases hz; exact k
 ·cases hx
end
section
open Go
def tailR:Nat→List UInt8→Option (Nat × Nat)
 | 0,_=>none
 | _+1,[]=>none
 | k+1,c :: r=>if c.toNat < 128 then some (c.toNat,1) else match tailR k r with
  | some (v,n)=>some (c.toNat % 128+128 * v,n+1)
  | none=>none
def numR (b:List UInt8) (bits:Nat):Option (Nat × Nat) :=
 match b with
 | []=>none
 | c :: r=>if c.toNat % 2 ^ bits < 2 ^ bits - 1 then some (c.toNat % 2 ^ bits,1) else match tailR 3 r with
  | some (v,n)=>if 2 ^ bits - 1+v≤9999∧numTail v=r.take n then some (2 ^ bits - 1+v,n+1) else none
  | none=>none
theorem tailR_bound:∀(k:Nat) (r:List UInt8) (v n:Nat),tailR k r=some (v,n)→v < 128 ^ k∧n≤k∧n≤r.length∧1≤n
 | 0,_,v,n,h=>by simp [tailR] at h
 | k+1,[],v,n,h=>by simp [tailR] at h
 | k+1,c :: r,v,n,h=>by
  rw [tailR] at h
  split at h
  ·simp only [Option.some.injEq,Prod.mk.injEq] at h
   obtain ⟨rfl,rfl⟩:=h
   have:0 < 128 ^ k:=Nat.pow_pos (by decide)
   rw [Nat.pow_succ]
   refine ⟨by omega,by omega,by simp,by omega⟩
  ·split at h
   ·rename_i v' n' h'
    simp only [Option.some.injEq,Prod.mk.injEq] at h
    obtain ⟨rfl,rfl⟩:=h
    obtain ⟨h1,h2,h3,h4⟩:=tailR_bound k r v' n' h'
    rw [Nat.pow_succ]
    refine ⟨by omega,by omega,by simpa using h3,by omega⟩
   ·cases h
theorem numR_bound {b:List UInt8} {bits v n:Nat} (hb:bits≤7) (h:numR b bits=some (v,n)):v≤9999∧1≤n∧n≤4∧n≤b.length:=by
 have hp:2 ^ bits≤2 ^ 7:=Nat.pow_le_pow_right (by omega) hb
 unfold numR at h
 split at h
 ·cases h
 ·rename_i c r
  split at h
  ·simp only [Option.some.injEq,Prod.mk.injEq] at h
   obtain ⟨rfl,rfl⟩:=h
   refine ⟨by omega,by omega,by omega,by simp⟩
  ·split at h
   ·rename_i v' n' h'
    split at h
    ·rename_i hc
     simp only [Option.some.injEq,Prod.mk.injEq] at h
     obtain ⟨rfl,rfl⟩:=h
     obtain ⟨h1,h2,h3,h4⟩:=tailR_bound 3 r v' n' h'
     refine ⟨hc.1,by omega,by omega,by simpa using h3⟩
    ·cases h
   ·cases h
theorem by8_toNat {n:Nat} (h:n < 256):(by8 n).toNat=n:=by simp [by8]; omega
theorem tailR_numTail {v:Nat} (h:v < 2097152) (rest:List UInt8):tailR 3 (numTail v++rest)=some (v,(numTail v).length):=by
 rcases Nat.lt_or_ge v 128 with g | g
 ·rw [numTail_lt g]
  simp [tailR,by8_toNat (show v < 256 by omega),g]
 ·rw [numTail_ge g]
  have e1:=by8_toNat (show v % 128+128 < 256 by omega)
  rcases Nat.lt_or_ge (v / 128) 128 with g2 | g2
  ·rw [numTail_lt g2]
   simp only [List.cons_append,tailR,e1,by8_toNat (show v / 128 < 256 by omega),if_pos g2,if_neg (show ¬v % 128+128 < 128 by omega),List.nil_append,List.length_cons,List.length_nil]
   congr 2
   omega
  ·rw [numTail_ge g2,numTail_lt (show v / 128 / 128 < 128 by omega)]
   have e2:=by8_toNat (show v / 128 % 128+128 < 256 by omega)
   have e3:=by8_toNat (show v / 128 / 128 < 256 by omega)
   simp only [List.cons_append,tailR,e1,e2,e3,if_neg (show ¬v % 128+128 < 128 by omega),if_neg (show ¬v / 128 % 128+128 < 128 by omega),if_pos (show v / 128 / 128 < 128 by omega),List.nil_append,List.length_cons,List.length_nil]
   congr 2
   omega
theorem numR_numW {n bits head:Nat} (hn:n≤9999) (hb:bits≤7) (hh:head * 2 ^ bits+2 ^ bits≤256) (rest:List UInt8):numR (numW n bits head++rest) bits=some (n,(numW n bits head).length):=by
 obtain ⟨p,hp⟩:∃p,p=2 ^ bits:=⟨_,rfl⟩
 have hp1:1≤p:=by rw [hp]; exact Nat.one_le_two_pow
 unfold numW
 rw [←hp] at hh ⊢
 split
 ·rename_i h
  have e1:(by8 (head * p+n)).toNat=head * p+n:=by8_toNat (by omega)
  have e2:(head * p+n) % p=n:=by rw [Nat.mul_comm,Nat.mul_add_mod,Nat.mod_eq_of_lt (by omega)]
  simp only [numR,List.cons_append,←hp,e1,e2,if_pos h]
  rfl
 ·rename_i h
  have e1:(by8 (head * p+(p - 1))).toNat=head * p+(p - 1):=by8_toNat (by omega)
  have e2:(head * p+(p - 1)) % p=p - 1:=by rw [Nat.mul_comm,Nat.mul_add_mod,Nat.mod_eq_of_lt (by omega)]
  simp only [numR,List.cons_append,←hp,e1,e2,if_neg (Nat.lt_irrefl _)]
  rw [tailR_numTail (by omega)]
  simp only [List.take_left,and_true]
  rw [if_pos (by omega)]
  simp only [List.length_cons]
  congr 2
  omega
end
end Go.Proofs.YtaamlddnpamomaaGreatDoor
