/- A part of the proof: contracts of functions, or plain facts on which these lean. -/
import Derived.Test.YtldogccmhncnoaaGreatMk13
import Derived.Test.YtldogccmhncnoaaGreatMk14
import Derived.Test.YtldogccmhncnoaaGreatMk15
namespace Go.Proofs.YtldogccmhncnoaaGreat
open Go
set_option linter.unusedVariables false
set_option linter.unusedSimpArgs false
set_option maxRecDepth 100000
set_option maxHeartbeats 16000000

section
open Go
theorem wordW_len (w:List UInt8):(wordW w).length≤2 * w.length+2:=by
 unfold wordW
 split
 ·have:=numW_len (pack w).length 7 1; simp only [List.length_append]; omega
 ·have:=numW_len w.length 7 0; simp only [List.length_append]; omega
def nameW (place bits:Nat) (f:Fd):List UInt8:=numW place bits 1++(if place=0 then wordW f.name else [])
theorem fieldOk_parts {f:Fd} (h:fieldOk f=true):wordOk f.name=true∧wordOk f.val=true∧f.name≠[]∧f.name.length≤16∧f.val.length≤16:=by
 simp only [fieldOk,Bool.and_eq_true,decide_eq_true_eq] at h
 obtain ⟨⟨h1,h2⟩,h3⟩:=h
 exact ⟨h1,h2,h3,(wordOk_signs h1).2,(wordOk_signs h2).2⟩
theorem nameW_len {f:Fd} (h:fieldOk f=true) (place bits:Nat):(nameW place bits f).length≤place+40:=by
 obtain ⟨_,_,_,h1,_⟩:=fieldOk_parts h
 have h2:=wordW_len f.name
 have h3:=numW_len place bits 1
 unfold nameW
 rw [List.length_append]
 split
 ·omega
 ·simp only [List.length_nil]; omega
theorem l11Name_ok (place bits:Nat) (f:Fd) (hf:fieldOk f=true) (hp:place≤9999) (hb:bits≤8) (S:List Blk) :
  VCall Tryz.prog 109 [.int .i64 place,.int .i64 bits,.int .i64 1,fV f] S fun r S'=>r=.str (nameW place bits f)∧S'=S:=by
 obtain ⟨h1,h2,h3,h4,h5⟩:=fieldOk_parts hf
 refine VCall.ex hD (fun _=>false) (fun id=>if id=3 then [2,2,5,5,5,8,8,8] else []) Tryz.func109 Tryz.ntmps109 Tryz.results109 ?_
 simp -implicitDefEqProofs (disch:=omega) only [push_cast,simprocAttr,↓gd]
 refine ⟨fun h=>?_,fun h=>?_⟩
 ·refine ((l1Write_ok place bits 1 (by omega) hb (by omega) _).as (by simp)).to ?_
  simp -implicitDefEqProofs (disch:=omega) only [push_cast,simprocAttr,↓gd]
  exact fin1 (.str _) (by rw [nameW,if_neg (by omega)]; simp)
 ·have:place=0:=by omega
  subst this
  refine ((l1Write_ok 0 bits 1 (by omega) hb (by omega) _).as (by simp)).to ?_
  simp -implicitDefEqProofs (disch:=omega) only [push_cast,simprocAttr,↓gd]
  refine (l2Write_ok f.name (by omega) (wordOk_signs h1).1 _).to ?_
  have e1:=wordW_len f.name
  have e2:=numW_len 0 bits 1
  simp -implicitDefEqProofs (disch:=omega) only [push_cast,simprocAttr,↓gd]
  refine ⟨by omega,fin1 (.str _) ?_⟩
  rw [nameW,if_pos rfl]
theorem named_ok (place bits:Nat) (f:Fd) (hf:fieldOk f=true) (hp:place≤9999) (hb:3≤bits∧bits≤7) (S:List Blk) :
  VCall Tryz.prog 92 [fV f,.int .i64 place,.int .i64 bits] S fun r S'=>r=.str (nameW place bits f++wordW f.val)∧S'=S:=by
 obtain ⟨h1,h2,h3,h4,h5⟩:=fieldOk_parts hf
 have h28:1 < 2 ^ (8 - bits):=Nat.one_lt_two_pow (by omega)
 have e1:=wordW_len f.name
 have e2:=numW_len place bits 1
 have e3:=wordW_len f.val
 refine VCall.en hD Tryz.func92 Tryz.ntmps92 Tryz.results92 ?_
 simp -implicitDefEqProofs (disch:=omega) only [push_cast,simprocAttr,↓gd]
 refine ((NumWrite_ok place bits 1 (by omega) hb (by omega) _).as (by simp)).to ?_
 rw [if_pos ⟨by omega,by omega,h28⟩,Int.toNat_natCast]
 simp -implicitDefEqProofs (disch:=omega) only [push_cast,simprocAttr,↓gd]
 refine ⟨fun h=>?_,fun h=>?_⟩
 ·have:place=0:=by omega
  subst this
  refine (WordWrite_ok f.name (by omega) _).to ?_
  rw [if_pos h1]
  simp -implicitDefEqProofs (disch:=omega) only [push_cast,simprocAttr,↓gd]
  refine ⟨by omega,(WordWrite_ok f.val (by omega) _).to ?_⟩
  rw [if_pos h2]
  simp -implicitDefEqProofs (disch:=omega) only [push_cast,simprocAttr,↓gd]
  refine ⟨by omega,fin1 (.str _) ?_⟩
  rw [nameW,if_pos rfl,List.append_assoc]
 ·refine (WordWrite_ok f.val (by omega) _).to ?_
  rw [if_pos h2]
  simp -implicitDefEqProofs (disch:=omega) only [push_cast,simprocAttr,↓gd]
  refine ⟨by omega,fin1 (.str _) ?_⟩
  rw [nameW,if_neg (by omega)]; simp
def fieldW (l:List Fd) (f:Fd):List UInt8 :=
 if f.never then nameW (placeOf l f) 4 f++wordW f.val else if foundIn l f then numW (placeOf l f) 7 1 else nameW (placeOf l f) 6 f++wordW f.val
def tabW (l:List Fd) (max:Int) (f:Fd):List Fd:=if f.never then l else if foundIn l f then l else fitL (f :: l) max
theorem placeOf_le (l:List Fd) (f:Fd):placeOf l f≤l.length+7:=by
 have h1:(fixedFds++l).findIdx (bothP f)≤(fixedFds++l).length:=List.findIdx_le_length
 have h2:(fixedFds++l).findIdx (nameP f)≤(fixedFds++l).length:=List.findIdx_le_length
 have h3:(fixedFds++l).length=l.length+6:=by simp [fixedFds]
 unfold placeOf
 split
 ·omega
 ·split <;> omega
theorem fieldW_len {f:Fd} (h:fieldOk f=true) (l:List Fd):(fieldW l f).length≤l.length+100:=by
 obtain ⟨_,_,_,h4,h5⟩:=fieldOk_parts h
 have h1:=placeOf_le l f
 have h2:=nameW_len h (placeOf l f) 4
 have h3:=nameW_len h (placeOf l f) 6
 have h6:=wordW_len f.val
 have h7:=numW_len (placeOf l f) 7 1
 unfold fieldW
 split
 ·rw [List.length_append]; omega
 ·split
  ·omega
  ·rw [List.length_append]; omega
theorem l11Write_ok (l:List Fd) (max:Int) (f:Fd) (hf:fieldOk f=true) (hl:FdsB l) (hl1:l.length≤1000) (hm:0≤max) (S:List Blk) :
  VCall Tryz.prog 98 [tV l max,fV f] S fun r S'=>r=.tup [tV (tabW l max f) max,.str (fieldW l f)]∧S'=S:=by
 obtain ⟨h1,h2,h3,h4,h5⟩:=fieldOk_parts hf
 have hfb:FdB f:=⟨by omega,by omega⟩
 have hp:=placeOf_le l f
 have e1:=wordW_len f.val
 have e2:=nameW_len hf (placeOf l f) 4
 have e3:=nameW_len hf (placeOf l f) 6
 refine VCall.ex hD (fun _=>false) (fun id=>if id=3 then [8,3,3,6,6,6,8,10,10,10] else if id=5 then [3,2,3,5,5] else if id=6 then [2,2,5,5,5,8,8,8,10,12,12,12] else []) Tryz.func98 Tryz.ntmps98 Tryz.results98 ?_
 simp -implicitDefEqProofs (disch:=omega) only [push_cast,simprocAttr,↓gd]
 refine (l3Find_ok l max f (by omega) _).to ?_
 cases hn:f.never
 ·have ef:fV f=.agg [.str f.name,.str f.val,.bool false]:=by rw [fV,hn]
  cases hfo:foundIn l f
  ·simp -implicitDefEqProofs (disch:=omega) only [push_cast,simprocAttr,hn,↓gd]
   refine ((l3Add_ok l max f hl hfb (by omega) hm _).as (by rw [ef]; rfl)).to ?_
   simp -implicitDefEqProofs (disch:=omega) only [push_cast,simprocAttr,hn,↓gd]
   refine ((l11Name_ok (placeOf l f) 6 f hf (by omega) (by omega) _).as (by rw [ef]; rfl)).to ?_
   simp -implicitDefEqProofs (disch:=omega) only [push_cast,simprocAttr,hn,↓gd]
   refine (l2Write_ok f.val (by omega) (wordOk_signs h2).1 _).to ?_
   simp -implicitDefEqProofs (disch:=omega) only [push_cast,simprocAttr,hn,↓gd]
   refine ⟨by omega,finE (Cl.two (cl_tab _ _ _) (.str _)) ?_⟩
   have e:(⟨f.name,f.val,false⟩:Fd)=f:=by cases f; cases hn; rfl
   rw [e,fieldW,tabW,hn,hfo]
   rfl
  ·simp -implicitDefEqProofs (disch:=omega) only [push_cast,simprocAttr,hn,↓gd]
   refine ((l1Write_ok (placeOf l f) 7 1 (by omega) (by omega) (by omega) _).as (by simp)).to ?_
   simp -implicitDefEqProofs (disch:=omega) only [push_cast,simprocAttr,hn,↓gd]
   refine fin1 (Cl.two (cl_tab _ _ _) (.str _)) ?_
   rw [fieldW,tabW,hn,hfo]
   rfl
 ·have ef:fV f=.agg [.str f.name,.str f.val,.bool true]:=by rw [fV,hn]
  simp -implicitDefEqProofs (disch:=omega) only [push_cast,simprocAttr,hn,↓gd]
  refine ((l11Name_ok (placeOf l f) 4 f hf (by omega) (by omega) _).as (by rw [ef]; rfl)).to ?_
  simp -implicitDefEqProofs (disch:=omega) only [push_cast,simprocAttr,hn,↓gd]
  refine (l2Write_ok f.val (by omega) (wordOk_signs h2).1 _).to ?_
  simp -implicitDefEqProofs (disch:=omega) only [push_cast,simprocAttr,hn,↓gd]
  refine ⟨by omega,fin1 (Cl.two (cl_tab _ _ _) (.str _)) ?_⟩
  rw [fieldW,tabW,hn]
  rfl
def headW:List Fd→Int→List Fd→List Fd × List UInt8
 | l,_,[]=>(l,[])
 | l,max,f :: h=>((headW (tabW l max f) max h).1,fieldW l f++(headW (tabW l max f) max h).2)
theorem tabW_sub {l:List Fd} {max:Int} {f:Fd} {n:Nat} (hl:FdsB l) (hf:FdB f) (hlen:l.length≤n) (hn:n < 2000000):FdsB (tabW l max f)∧(tabW l max f).length≤n+1:=by
 unfold tabW
 split
 ·exact ⟨hl,by omega⟩
 ·split
  ·exact ⟨hl,by omega⟩
  ·have hb:FdsB (f :: l):=⟨by simp; omega,fun g hg=>by
    rcases List.mem_cons.1 hg with rfl | hg
    ·exact hf
    ·exact hl.2 g hg⟩
   refine ⟨hb.fit max,?_⟩
   have:=(fitL_sub (f :: l) max).2
   simp at this
   omega
theorem l11All_ok (l:List Fd) (max:Int) (h:List Fd) (hh:∀f ∈ h,fieldOk f=true) (hl:FdsB l) (hl1:l.length≤100) (hh6:h.length≤100) (hm:0≤max) (S:List Blk) :
  VCall Tryz.prog 80 [tV l max,.rows none (h.map fV)] S fun r S'=>r=.tup [tV (headW l max h).1 max,.str (headW l max h).2]∧S'=S:=by
 refine VCall.ex hD (fun f=>if f=some 98 then true else false) (fun id=>if id=5 then [10,10,10,10,10,10,10,10,12,10,12,12] else []) Tryz.func80 Tryz.ntmps80 Tryz.results80 ?_
 simp -implicitDefEqProofs (disch:=omega) only [push_cast,simprocAttr,↓gd]
 refine wpV_loop (fun m t S'=>∃(i:Nat) (w:List Fd) (o:List UInt8) (X:List Blk),m=h.length - i∧i≤h.length∧FdsB w∧w.length≤100+i∧o.length≤i * 400∧(headW l max h).1=(headW w max (h.drop i)).1∧(headW l max h).2=o++(headW w max (h.drop i)).2∧t 1=.rows none (h.map fV)∧t 2=.ptr S.length 0∧t 4=.ptr (S.length+1) 0∧t 6=.str o∧t 7=.int .i64 i ∧
   S'=S++([.cells 0 [.rows none (w.map fV),.int .i64 max],.cells 0 [.nils,.int .i64 0]]++X)) h.length ⟨0,l,[],[],by omega,by omega,hl,by omega,by simp,rfl,rfl,rfl,rfl,rfl,rfl,rfl,rfl⟩ ?_
 rintro m t S' ⟨i,w,o,X,rfl,hi,hw,hwl,hol,hd1,hd2,h1,h2,h4,h6,h7,rfl⟩
 refine wpV_of hD (fun f=>if f=some 98 then true else false) (fun id=>if id=5 then [10,10,10,10,10,10,10,10,12,10,12,12] else []) (by kernel_rfl) ?_
 simp -implicitDefEqProofs (disch:=omega) only [push_cast,simprocAttr,h1,h2,h4,h6,h7,↓gd]
 refine ⟨fun hlt=>?_,fun hge=>?_⟩
 ·have hil:i < h.length:=by omega
  have hgd:=getD_fV hil
  have hfo:=hh _ (getD_fd_mem hil)
  generalize hf:h.getD i fd0=f at hgd hfo
  simp -implicitDefEqProofs (disch:=omega) only [push_cast,simprocAttr,h1,h2,h4,h6,h7,hgd,↓gd]
  refine ⟨by omega,by omega,_,fun S0=>(l11Write_ok w max f hfo hw (by omega) hm S0).as rfl,?_⟩
  have hfl:=fieldW_len hfo w
  simp -implicitDefEqProofs (disch:=omega) only [push_cast,simprocAttr,h1,h2,h4,h6,h7,hgd,↓gd]
  obtain ⟨hp1,hp2,hp3,hp4,hp5⟩:=fieldOk_parts hfo
  obtain ⟨ht1,ht2⟩:=tabW_sub (max:=max) hw (f:=f) ⟨by omega,by omega⟩ hwl (by omega)
  refine ⟨by omega,h.length - (i+1),by omega,i+1,tabW w max f,o++fieldW w f,X++[.cells 0 [.rows none ((tabW w max f).map fV),.int .i64 max]],rfl,by omega,ht1,by omega,by simp; omega,?_,?_,rfl,by simp,by simp⟩
  ·rw [hd1,drop_fd hil,hf]; rfl
  ·rw [hd2,drop_fd hil,hf,List.append_assoc]; rfl
 ·have:i=h.length:=by omega
  subst this
  rw [List.drop_length] at hd1 hd2
  refine fin1 (Cl.two (cl_tab _ _ _) (.str _)) ?_
  rw [hd1,hd2]
  simp [headW,tV]
theorem write_ok (l:List Fd) (max:Int) (h:List Fd) (hh:∀f ∈ h,fieldOk f=true) (hl:FdsB l) (hl1:l.length≤100) (hh6:h.length≤100) (hm:0≤max) (S:List Blk) :
  VCall Tryz.prog 64 [tV l max,.rows none (h.map fV)] S fun r S'=>r=.tup [tV (headW l max h).1 max,.str (headW l max h).2]∧S'=S:=by
 refine VCall.en hD Tryz.func64 Tryz.ntmps64 Tryz.results64 ?_
 simp -implicitDefEqProofs (disch:=omega) only [push_cast,simprocAttr,↓gd]
 refine wpV_loop (fun m t S'=>∃(i:Nat) (w:List Fd) (o:List UInt8) (X:List Blk),m=h.length - i∧i≤h.length∧FdsB w∧w.length≤100+i∧o.length≤i * 400∧(headW l max h).1=(headW w max (h.drop i)).1∧(headW l max h).2=o++(headW w max (h.drop i)).2∧t 11=.rows none (h.map fV)∧t 12=.int .i64 h.length∧t 2=.ptr S.length 0∧t 4=.ptr (S.length+1) 0∧t 6=.str o∧t 13=.int .i64 i ∧
   S'=S++([.cells 0 [.rows none (w.map fV),.int .i64 max],.cells 0 [.nils,.int .i64 0]]++X)) h.length ⟨0,l,[],[],by omega,by omega,hl,by omega,by simp,rfl,rfl,rfl,rfl,rfl,rfl,rfl,rfl,rfl⟩ ?_
 rintro m t S' ⟨i,w,o,X,rfl,hi,hw,hwl,hol,hd1,hd2,h11,h12,h2,h4,h6,h13,rfl⟩
 refine wpV_of0 hD ?_
 simp -implicitDefEqProofs (disch:=omega) only [push_cast,simprocAttr,h11,h12,h2,h4,h6,h13,↓gd]
 refine ⟨fun hlt=>?_,fun hge=>?_⟩
 ·have hil:i < h.length:=by omega
  have hgd:=getD_fV hil
  have hfo:=hh _ (getD_fd_mem hil)
  generalize hf:h.getD i fd0=f at hgd hfo
  obtain ⟨hp1,hp2,hp3,hp4,hp5⟩:=fieldOk_parts hfo
  have hfb:FdB f:=⟨by omega,by omega⟩
  have hfl:=fieldW_len hfo w
  have hpl:=placeOf_le w f
  obtain ⟨ht1,ht2⟩:=tabW_sub (max:=max) hw (f:=f) hfb hwl (by omega)
  simp -implicitDefEqProofs (disch:=omega) only [push_cast,simprocAttr,h11,h12,h2,h4,h6,h13,hgd,↓gd]
  refine ⟨by omega,by omega,((find_ok w max f (by omega) _).as rfl).to ?_⟩
  cases hn:f.never
  ·have ef:fV f=.agg [.str f.name,.str f.val,.bool false]:=by rw [fV,hn]
   cases hfo2:foundIn w f
   ·have e1:fieldW w f=nameW (placeOf w f) 6 f++wordW f.val:=by rw [fieldW,hn,hfo2]; rfl
    have e2:tabW w max f=fitL (f :: w) max:=by rw [tabW,hn,hfo2]; rfl
    simp -implicitDefEqProofs (disch:=omega) only [push_cast,simprocAttr,h11,h12,h2,h4,h6,h13,hn,↓gd]
    refine ((named_ok (placeOf w f) 6 f hfo (by omega) (by omega) _).as (by rw [ef]; rfl)).to ?_
    rw [←e1]
    simp -implicitDefEqProofs (disch:=omega) only [push_cast,simprocAttr,h11,h12,h2,h4,h6,h13,hn,↓gd]
    refine ⟨by omega,((add_ok' w max f hw hfb (by omega) hm _).as (by rw [ef]; rfl)).to ?_⟩
    rw [←e2]
    simp -implicitDefEqProofs (disch:=omega) only [push_cast,simprocAttr,h11,h12,h2,h4,h6,h13,hn,↓gd]
    refine ⟨h.length - (i+1),by omega,i+1,tabW w max f,o++fieldW w f,_,rfl,by omega,ht1,by omega,by simp; omega,?_,?_,rfl,by simp,rfl⟩
    ·rw [hd1,drop_fd hil,hf]; rfl
    ·rw [hd2,drop_fd hil,hf,List.append_assoc]; rfl
   ·have e1:fieldW w f=numW (placeOf w f) 7 1:=by rw [fieldW,hn,hfo2]; rfl
    have e2:tabW w max f=w:=by rw [tabW,hn,hfo2]; rfl
    simp -implicitDefEqProofs (disch:=omega) only [push_cast,simprocAttr,h11,h12,h2,h4,h6,h13,hn,↓gd]
    refine ((NumWrite_ok (placeOf w f) 7 1 (by omega) (by omega) (by omega) _).as (by simp)).to ?_
    rw [if_pos ⟨by omega,by omega,by decide⟩,Int.toNat_natCast,←e1]
    simp -implicitDefEqProofs (disch:=omega) only [push_cast,simprocAttr,h11,h12,h2,h4,h6,h13,hn,↓gd]
    refine ⟨by omega,h.length - (i+1),by omega,i+1,w,o++fieldW w f,_,rfl,by omega,hw,by omega,by simp; omega,?_,?_,rfl,by simp,rfl⟩
    ·rw [hd1,drop_fd hil,hf,headW,e2]
    ·rw [hd2,drop_fd hil,hf,List.append_assoc,headW,e2]
  ·have ef:fV f=.agg [.str f.name,.str f.val,.bool true]:=by rw [fV,hn]
   have e1:fieldW w f=nameW (placeOf w f) 4 f++wordW f.val:=by rw [fieldW,hn]; rfl
   have e2:tabW w max f=w:=by rw [tabW,hn]; rfl
   simp -implicitDefEqProofs (disch:=omega) only [push_cast,simprocAttr,h11,h12,h2,h4,h6,h13,hn,↓gd]
   refine ((named_ok (placeOf w f) 4 f hfo (by omega) (by omega) _).as (by rw [ef]; rfl)).to ?_
   rw [←e1]
   simp -implicitDefEqProofs (disch:=omega) only [push_cast,simprocAttr,h11,h12,h2,h4,h6,h13,hn,↓gd]
   refine ⟨by omega,h.length - (i+1),by omega,i+1,w,o++fieldW w f,_,rfl,by omega,hw,by omega,by simp; omega,?_,?_,rfl,by simp,rfl⟩
   ·rw [hd1,drop_fd hil,hf,headW,e2]
   ·rw [hd2,drop_fd hil,hf,List.append_assoc,headW,e2]
 ·have:i=h.length:=by omega
  subst this
  rw [List.drop_length] at hd1 hd2
  refine (clone_ok w max (by omega) _).to ?_
  simp -implicitDefEqProofs (disch:=omega) only [push_cast,simprocAttr,h11,h12,h2,h4,h6,h13,↓gd]
  refine fin1 (Cl.two (cl_tab _ _ _) (.str _)) ?_
  rw [hd1,hd2]
  simp [headW,tV]
theorem tableOk_parts {l:List Fd} {max:Int} (h:tableOk l max=true):l.length≤16∧0≤max∧max≤64∧(∀f ∈ l,fieldOk f=true∧f.never=false)∧(fdsSize l:Int)≤max:=by
 simp only [tableOk,Bool.and_eq_true,List.all_eq_true,decide_eq_true_eq,Bool.not_eq_true'] at h
 obtain ⟨⟨h1,h2,h3⟩,h4⟩:=h
 have h5:∀l:List Fd,4 * l.length≤fdsSize l:=by
  intro l
  induction l with
  | nil=>simp
  | cons f l ih=>simp only [fdsSize,List.map_cons,List.sum_cons,List.length_cons,fdSize] at ih ⊢; omega
 have:=h5 l
 exact ⟨by omega,h2,h3,h1,h4⟩
theorem headOk_parts {h:List Fd} (hk:headOk h=true):(∀f ∈ h,fieldOk f=true)∧h.length≤6:=by
 simpa [headOk,List.all_eq_true] using hk
end
section
open Go
@[push_cast] theorem set_setB (S:List Blk) (b:Nat) (B C:Blk):(S.set b B).set b C=S.set b C:=List.set_set ..
def sV (s:List UInt8):V:=.str s
theorem sV_eq (s:List UInt8):sV s=.str s:=rfl
attribute [push_cast] sV_eq
@[push_cast] theorem all_sV_len (l:List (List UInt8)):(l.map sV).all (lenIs 1)=true:=by induction l <;> simp_all [lenIs,sV,V.cells]
end
section
open Go
section
variable {S:List Blk} {b:Nat}
@[push_cast] theorem stD (B1:Blk) (l:List Blk) (B:Blk):(S.set b B1++l).set S.length B=S.set b B1++l.set 0 B:=by
 rw [List.set_append_right _ _ (by simp)]; simp
@[push_cast] theorem stE (B1:Blk) (l:List Blk) (n:Nat) (B:Blk):(S.set b B1++l).set (S.length+n) B=S.set b B1++l.set n B:=by
 rw [List.set_append_right _ _ (by simp)]; simp
@[push_cast] theorem stF (B1:Blk) (l:List Blk):(S.set b B1++l)[S.length]?=l[0]?:=by
 rw [List.getElem?_append_right (by simp)]; simp
@[push_cast] theorem stG (B1:Blk) (l:List Blk) (n:Nat):(S.set b B1++l)[S.length+n]?=l[n]?:=by
 rw [List.getElem?_append_right (by simp)]; simp
@[push_cast] theorem stH (B1:Blk):(S.set b B1).length=S.length:=List.length_set ..
end
theorem cl_fV (n:Nat) (f:Fd):Cl n (fV f):=by
 refine .agg ?_
 simp only [List.mem_cons,List.not_mem_nil,or_false,forall_eq_or_imp,forall_eq]
 exact ⟨.str _,.str _,.bool _⟩
def FdS (f:Fd):Prop:=f.name.length≤100∧f.val.length≤100
theorem FdS.b {f:Fd} (h:FdS f):FdB f:=⟨by have:=h.1; omega,by have:=h.2; omega⟩
section
variable {Z:List Blk} {c:Blk}
end
end
section
open Go
theorem fd_ext {a c:Fd}:(a.name=c.name∧a.val=c.val∧a.never=c.never)↔a=c:=by
 cases a; cases c; simp
instance:DecidableEq Fd:=fun _ _=>decidable_of_iff _ fd_ext
theorem tabW_len (l:List Fd) (max:Int) (f:Fd):(tabW l max f).length≤l.length+1:=by
 unfold tabW
 split
 ·omega
 ·split
  ·omega
  ·have:=(fitL_sub (f :: l) max).2
   simpa using this
end
section
open Go
inductive Bare:V→Prop
 | int (k:IntKind) (n:Int):Bare (.int k n)
 | bool (b:Bool):Bare (.bool b)
 | str (s:List UInt8):Bare (.str s)
 | agg {cs:List V}:(∀v ∈ cs,Bare v)→Bare (.agg cs)
 | tup {cs:List V}:(∀v ∈ cs,Bare v)→Bare (.tup cs)
theorem Bare.vr {G G':Gh} {w w':World} {v:V} {c:Value} (hv:VR G w v c):Bare v→VR G' w' v c:=by
 induction hv with
 | int k n=>exact fun _=>.int k n
 | bool b=>exact fun _=>.bool b
 | str s=>exact fun _=>.str s
 | agg hl _ ho ih=>intro h; cases h with | agg h=>exact .agg hl (fun i v u hv hu=>ih i v u hv hu (h v (List.mem_of_getElem? hv))) ho
 | tup hl _ ih=>intro h; cases h with | tup h=>exact .tup hl (fun i v u hv hu=>ih i v u hv hu (h v (List.mem_of_getElem? hv)))
 | _=>intro h; cases h
inductive BorC (S:List Blk):V→V→Prop
 | same {v:V}:Cl 0 v→BorC S v v
 | arr {xs:List V} {p sz:Nat}:S[p]?=some (.cells sz (xs.flatMap V.cells))→(∀u ∈ xs.flatMap V.cells,Bare u)→BorC S (.rows none xs) (.heap p xs.length)
inductive Bor (S:List Blk):V→V→Prop
 | one {v v':V}:BorC S v v'→Bor S v v'
 | agg {cs cs':List V}:cs.length=cs'.length→(∀(i:Nat) (a b:V),cs[i]?=some a→cs'[i]?=some b→BorC S a b)→Bor S (.agg cs) (.agg cs')
def allFrozen (G:Gh) (w:World):Gh:={ G with n:=0,p:=fun b=>if b < w.heap.size then max (G.p b) (match w.heap[b]? with | some (.cells arr _ _)=>arr.size | _=>0) else 0 }
theorem allFrozen_ext {G:Gh} {w:World} {S:List Blk} (hR:Rel G w S):Ext (G.cut 0) w (allFrozen G w) w:=by
 refine ⟨Nat.le_refl _,fun j hj=>absurd hj (Nat.not_lt_zero _),fun b=>?_,fun _ _ _=>rfl⟩
 show G.p b≤_
 unfold allFrozen
 simp only
 split
 ·exact Nat.le_max_left _ _
 ·rename_i h
  rw [hR.fresh b (by omega)]
  exact Nat.zero_le _
theorem BorC.vr {G:Gh} {w:World} {S:List Blk} (hR:Rel G w S) {v v':V} {c:Value} (h:BorC S v v') (hv:VR G w v' c):VR (allFrozen G w) w v c:=by
 cases h with
 | same hc=>exact (VR.cut (G':=G.cut 0) hv (fun j hj=>⟨rfl,rfl,rfl,rfl,rfl⟩) rfl hc).ext (allFrozen_ext hR)
 | @arr xs p sz hp hb =>
  generalize hn:xs.length=n at hv
  cases hv with
  | heapNil h0 =>
   have:xs=[]:=List.length_eq_zero_iff.1 hn
   subst this
   exact .rowsNil (fun τ hτ=>by cases hτ)
  | @heap _ _ cap h0 hk hcap hlim =>
   obtain ⟨arr,ty,f1,f2,f3,f4,f5,f6⟩:=hR.live p _ hp rfl hk
   have hlt:=hR.lt p _ hp rfl hk
   have hlen:(arr.toList.take (xs.flatMap V.cells).length).length=(xs.flatMap V.cells).length:=List.length_take_of_le (by have:arr.toList.length=arr.size:=rfl; omega)
   have hrow:=VR.rows (G:=allFrozen G w) (w:=w) (tok:=none) (xs:=xs) (b:=G.blk p) (off:=0) (cap:=cap) (arr.toList.take (xs.flatMap V.cells).length) hlen.symm
    (fun i v u hv hu=>by
     rw [List.getElem?_take] at hu
     split at hu
     ·exact Bare.vr ((f6 i v u hv (by simpa using hu)).1) (hb v (List.mem_of_getElem? hv))
     ·cases hu)
    (fun u hu=>by
     obtain ⟨i,hi,rfl⟩:=List.getElem_of_mem hu
     have hi':i < (xs.flatMap V.cells).length:=by omega
     simp only [List.getElem_take]
     have:=(f6 i _ arr[i] (List.getElem?_eq_getElem hi') (Array.getElem?_eq_getElem (by omega))).2
     simpa using this)
    (fun i u hu=>by
     rw [List.getElem?_take] at hu
     split at hu
     ·rw [cell_blk f1,Nat.zero_add]; simpa using hu
     ·cases hu)
    (by
     rw [hlen,Nat.zero_add]
     unfold allFrozen
     simp only
     rw [if_pos hlt,f1]
     exact Nat.le_trans f4 (Nat.le_max_right _ _))
    (by omega)
    (fun τ hτ=>by cases hτ)
   rw [hn] at hrow
   exact hrow
theorem Bor.vr {G:Gh} {w:World} {S:List Blk} (hR:Rel G w S) {v v':V} {c:Value} (h:Bor S v v') (hv:VR G w v' c):VR (allFrozen G w) w v c:=by
 cases h with
 | one h=>exact h.vr hR hv
 | agg hl h =>
  cases hv with
  | agg hl' hv ho =>
   refine .agg (hl.trans hl') (fun i a u ha hu=>?_) ho
   have hi:i < _:=(List.getElem?_eq_some_iff.1 ha).1
   have hb:=List.getElem?_eq_getElem (show i < _ by rw [←hl]; exact hi)
   exact (h i a _ ha hb).vr hR (hv i _ u hb hu)
theorem xcall_no {P:Program} {f:FuncId} (h:Enters P f) (cargs:Array Value) (w:World) (c:Value):(callFunc f cargs).run P w≠.ok (.value c) w:=by
 obtain ⟨fn,hfn,hbody,hname⟩:=h
 intro hr
 simp [callFunc,hfn,hbody,hname] at hr
 have hne:¬fn.name= "runtime.NumGoroutine":=by simpa using hname
 simp [hne] at hr
 split at hr
 ·rename_i hb; rw [hb] at hbody; cases hbody
 ·cases hr
def BorL (S:List Blk) (asV bs:List V):Prop:=asV.length=bs.length∧∀(i:Nat) (a b:V),asV[i]?=some a→bs[i]?=some b→Bor S a b
theorem BorL.all {G:Gh} {w:World} {S:List Blk} (hR:Rel G w S) {asV bs:List V} {cs:List Value} (h:BorL S asV bs) (hv:AllR G w bs cs):AllR (allFrozen G w) w asV cs:=by
 refine ⟨h.1.trans hv.1,fun i a u ha hu=>?_⟩
 have hb:=List.getElem?_eq_getElem (show i < bs.length by rw [←h.1]; exact (List.getElem?_eq_some_iff.1 ha).1)
 exact (h.2 i a _ ha hb).vr hR (hv.2 i _ u hb hu)
theorem rel_none {G:Gh} {w:World} {S:List Blk} (hR:Rel G w S):Rel (allFrozen G w) w []:=by
 refine ⟨rfl,fun b hb=>?_,fun j B h=>by simp at h,fun j B h=>by simp at h,fun j sz cs h=>by simp at h,fun i j B C h=>by simp at h⟩
 unfold allFrozen
 simp only
 rw [if_neg (by omega)]
theorem still {G:Gh} {w w':World} {S:List Blk} (hR:Rel G w S) {G0 G':Gh} {S':List Blk} (hE:Evol G0 w [] G' w' S'):Rel G w' S∧Evol G w S G w' S:=by
 have hno:∀b,¬Owns G0 [] b:=by rintro b ⟨j,B,h,_⟩; simp at h
 have hheap:∀b,b < w.heap.size→w'.heap[b]?=w.heap[b]?:=fun b hb=>hE.other b hb (hno b)
 have hext:Ext G w G w':=by
  refine ⟨Nat.le_refl _,fun _ _=>⟨rfl,rfl,rfl,rfl,rfl⟩,fun _=>Nat.le_refl _,fun b o ho=>cell_same (hheap b ?_) o⟩
  rcases Nat.lt_or_ge b w.heap.size with g | g
  ·exact g
  ·rw [hR.fresh b g] at ho; exact absurd ho (Nat.not_lt_zero _)
 refine ⟨⟨hR.n,fun b hb=>hR.fresh b (Nat.le_trans hE.size hb),fun j B hj hl hk=>Nat.lt_of_lt_of_le (hR.lt j B hj hl hk) hE.size,fun j B hj hl hk=>?_,hR.vac,hR.inj⟩,⟨hext,hE.size,hE.os,hE.tape,hE.output,fun b hb _=>hheap b hb,fun b hb h=>h,fun _ _ _=>rfl⟩⟩
 exact (hR.live j B hj hl hk).keep hext (hR.get_lt hj) rfl (hheap _ (hR.lt j B hj hl hk))
theorem VCall.borrow {P:Program} {f:FuncId} {asV bs:List V} {x:V} {S:List Blk} (hf:Enters P f) (h:∀S,VCall P f asV S fun r S'=>r=x∧S'=S) (hx:Bare x) (hb:BorL S asV bs):VCall P f bs S fun r S'=>r=x∧S'=S:=by
 refine .inl ⟨hf,x,S,⟨rfl,rfl⟩,fun G w cargs hA hR=>?_⟩
 have hA0:=hb.all hR hA
 rcases h [] with ⟨_,r,S',⟨rfl,rfl⟩,hd⟩ | ⟨r,⟨rfl,_⟩,hd⟩
 ·refine Calls.mono (hd _ w cargs hA0 (rel_none hR)) ?_
  rintro e w' ⟨c,G',rfl,hv,hR',hE⟩
  obtain ⟨h1,h2⟩:=still hR hE
  exact ⟨c,G,rfl,Bare.vr hv hx,h1,h2⟩
 ·obtain ⟨c,hc,_⟩:=hd _ w cargs hA0
  exact absurd hc (xcall_no hf cargs w c)
end
section
open Go
theorem numW_small {n bits head:Nat} (h:n < 2 ^ bits - 1):numW n bits head=[by8 (head * 2 ^ bits+n)]:=by rw [numW,if_pos h]
theorem wordW_len17 {w:List UInt8} (hw:wordOk w=true):(wordW w).length≤17:=by
 obtain ⟨hs,h16⟩:=wordOk_signs hw
 rw [wordW]
 split
 ·rw [numW_small (by have:(2:Nat) ^ 7=128:=rfl; omega),List.length_append,List.length_singleton]; omega
 ·rw [numW_small (by have:(2:Nat) ^ 7=128:=rfl; omega),List.length_append,List.length_singleton]; omega
theorem numW_len2 {n bits head:Nat} (h:n≤100):(numW n bits head).length≤2:=by
 rw [numW]
 split
 ·simp
 ·rw [numTail_lt (by omega)]; simp
theorem nameW_len20 {f:Fd} (hf:fieldOk f=true) {place bits:Nat} (h:place≤100):(nameW place bits f).length≤19:=by
 obtain ⟨h1,_⟩:=fieldOk_parts hf
 have:=wordW_len17 h1
 have:=numW_len2 (bits:=bits) (head:=1) h
 rw [nameW,List.length_append]
 split
 ·omega
 ·simp only [List.length_nil]; omega
theorem fieldW_len36 {l:List Fd} {f:Fd} (hf:fieldOk f=true) (hl:l.length≤50):(fieldW l f).length≤36:=by
 obtain ⟨_,h2,_⟩:=fieldOk_parts hf
 have hp:=placeOf_le l f
 have h3:=wordW_len17 h2
 have h4:=nameW_len20 hf (place:=placeOf l f) (bits:=4) (by omega)
 have h5:=nameW_len20 hf (place:=placeOf l f) (bits:=6) (by omega)
 have h6:=numW_len2 (n:=placeOf l f) (bits:=7) (head:=1) (by omega)
 unfold fieldW
 split
 ·rw [List.length_append]; omega
 ·split
  ·omega
  ·rw [List.length_append]; omega
theorem headW_len:∀(h:List Fd) (l:List Fd) (max:Int),(∀f ∈ h,fieldOk f=true)→l.length+h.length≤50→(headW l max h).2.length≤36 * h.length
 | [],l,max,_,_=>by simp [headW]
 | f :: h,l,max,hh,hl=>by
  simp only [List.length_cons] at hl
  have h1:=fieldW_len36 (l:=l) (hh f (by simp)) (by omega)
  have h2:=tabW_len l max f
  have h3:=headW_len h (tabW l max f) max (fun g hg=>hh g (by simp [hg])) (by omega)
  simp only [headW,List.length_append,List.length_cons]
  omega
end
section
open Go
theorem fitN_size:∀(n:Nat) (l:List Fd) (max:Int),0≤max→l.length≤n→((fdsSize (fitN l max n):Nat):Int)≤max
 | 0,l,max,hm,hl=>by
  have:l=[]:=List.length_eq_zero_iff.1 (by omega)
  subst this
  simpa [fitN,fdsSize] using hm
 | n+1,l,max,hm,hl=>by
  rw [fitN]
  split
  ·exact fitN_size n l.dropLast max hm (by simp; omega)
  ·omega
theorem tableOk_of {l:List Fd} {max:Int} (h1:∀f ∈ l,fieldOk f=true∧f.never=false) (h2:0≤max∧max≤64) (h3:((fdsSize l:Nat):Int)≤max):tableOk l max=true:=by
 simp only [tableOk,Bool.and_eq_true,List.all_eq_true,decide_eq_true_eq,Bool.not_eq_true']
 exact ⟨⟨h1,h2⟩,h3⟩
theorem tableOk_tabW {l:List Fd} {max:Int} {f:Fd} (ht:tableOk l max=true) (hf:fieldOk f=true):tableOk (tabW l max f) max=true:=by
 obtain ⟨t1,t2,t3,t4,t5⟩:=tableOk_parts ht
 unfold tabW
 split
 ·exact ht
 ·rename_i hn
  split
  ·exact ht
  ·refine tableOk_of (fun g hg=>?_) ⟨t2,t3⟩ (fitN_size _ _ _ t2 (Nat.le_refl _))
   rcases List.mem_cons.1 ((fitL_sub (f :: l) max).1 g hg) with rfl | h'
   ·exact ⟨hf,by simpa using hn⟩
   ·exact t4 g h'
theorem tableOk_headW:∀(h:List Fd) (l:List Fd) (max:Int),tableOk l max=true→(∀f ∈ h,fieldOk f=true)→tableOk (headW l max h).1 max=true
 | [],l,max,ht,_=>ht
 | f :: h,l,max,ht,hh=>tableOk_headW h (tabW l max f) max (tableOk_tabW ht (hh f (by simp))) (fun g hg=>hh g (by simp [hg]))
end
section
open Go
structure Fr where
 kind:Int
 last:Bool
 stream:Int
 body:List UInt8
 deriving DecidableEq
structure St where
 id:Int
 state:Int
 head:List Fd
 say:List UInt8
 begun:Bool
 said:Bool
 sent:Int
 got:List Fd
 text:List UInt8
 heard:Bool
 send:Int
 room:Int
structure En where
 ans:Bool
 out:List Fd
 outM:Int
 inn:List Fd
 innM:Int
 came:List UInt8
 strs:List St
 send:Int
 room:Int
 wait:List Fr
 bad:Bool
structure Wo where
 caller:En
 answerer:En
 up:List UInt8
 down:List UInt8
def fr0:Fr:=⟨0,false,0,[]⟩
def st0:St:=⟨0,0,[],[],false,false,0,[],[],false,0,0⟩
def en0:En:=⟨false,[],0,[],0,[],[],0,0,[],false⟩
def strmOk (n:Int):Bool:=decide (1≤n) && decide (n≤7) && decide (n.tmod 2=1)
def byteAt (b:List UInt8) (i:Nat):Nat:=(b.getD i 0).toNat
def frameOk (f:Fr):Bool :=
 if f.kind=0∨f.kind=1 then strmOk f.stream && decide (f.body.length≤200)
 else if f.kind=3 then strmOk f.stream && !f.last && decide (f.body=[])
 else if f.kind=8 then (decide (f.stream=0) || strmOk f.stream) && !f.last && decide (f.body.length=1) && decide (1≤byteAt f.body 0) && decide (byteAt f.body 0≤31)
 else false
def frW (f:Fr):List UInt8:=[by8 f.body.length,by8 f.kind.toNat,if f.last then 1 else 0,by8 f.stream.toNat]++f.body
def flowOk (s r:Int):Bool:=(decide (0≤s) && decide (s≤31)) && (decide (0≤r) && decide (r≤31))
def stOk (s:St):Bool:=strmOk s.id && (decide (1≤s.state) && decide (s.state≤3)) && headOk s.head && headOk s.got && wordOk s.say && wordOk s.text && (decide (0≤s.sent) && decide (s.sent≤s.say.length)) && flowOk s.send s.room
def okAt (ans:Bool) (l:List St) (i:Nat):Bool:=stOk (l.getD i st0) && (decide (i=0) || decide ((l.getD (i - 1) st0).id < (l.getD i st0).id)) && (ans || decide ((l.getD i st0).id=2 * i+1))
def stsOk (ans:Bool) (l:List St):Bool:=(List.range l.length).all (okAt ans l)
def endOk (e:En):Bool:=stsOk e.ans e.strs && e.wait.all frameOk && tableOk e.out e.outM && tableOk e.inn e.innM && flowOk e.send e.room && decide (e.came.length≤600) && decide (e.wait.length≤60)
def sLen:List UInt8:=[47,108,101,110]
def atM (l:List St) (id:Int):Option Nat:=l.findIdx? (fun s=>decide (s.id=id))
def setSt (e:En) (k:Nat) (s:St):En:={ e with strs:=e.strs.set k s }
def stAt (e:En) (k:Nat):St:=e.strs.getD k st0
def mayM (e:En) (s:St):Int:=min ((s.say.length:Int) - s.sent) (min s.send e.send)
def beginM (e:En) (s:St):En × St × List UInt8 :=
 if s.begun then (e,s,[]) else
  ({ e with out:=(headW e.out e.outM s.head).1 },{ s with begun:=true,said:=decide (s.say=[]) },frW ⟨1,decide (s.say=[]),s.id,(headW e.out e.outM s.head).2⟩)
def pieceM (e:En) (s:St):En × St × List UInt8 :=
 if s.said=false∧0 < mayM e s then
  ({ e with send:=e.send - mayM e s },{ s with send:=s.send - mayM e s,said:=decide (s.sent+mayM e s=s.say.length),sent:=s.sent+mayM e s },
   frW ⟨0,decide (s.sent+mayM e s=s.say.length),s.id,(s.say.drop s.sent.toNat).take (mayM e s).toNat⟩)
 else (e,s,[])
def sayM (e:En) (k:Nat):En × List UInt8 :=
 let s:=stAt e k
 if s.state≠1∨s.head=[]∨s.said=true then (e,[]) else
  let (e1,s1,o1):=beginM e s
  let (e2,s2,o2):=pieceM e1 s1
  (setSt e2 k { s2 with state:=if e.ans && s2.said then 2 else s2.state },o1++o2)
def roomM (e:En) (f:Fr):En :=
 if f.kind≠8 then e
 else if f.stream=0 then { e with room:=min (e.room+byteAt f.body 0) 31 }
 else match atM e.strs f.stream with
  | none=>e
  | some k=>setSt e k { stAt e k with room:=min ((stAt e k).room+byteAt f.body 0) 31 }
def waitM:En→List Fr→En × List UInt8
 | e,[]=>(e,[])
 | e,f :: l=>let (x,o):=waitM (roomM e f) l; (x,frW f++o)
def saysM:Nat→Nat→En→En × List UInt8
 | 0,_,e=>(e,[])
 | n+1,k,e=>let (e1,o1):=sayM e k; let (e2,o2):=saysM n (k+1) e1; (e2,o1++o2)
def writeM (e:En):En × List UInt8 :=
 let (e1,o1):=waitM e e.wait
 let (e2,o2):=saysM e.strs.length 0 { e1 with wait:=[] }
 (e2,o1++o2)
def badM (e:En):En:={ e with bad:=true }
def frmC (f:Fr):List V:=[.int .i64 f.kind,.bool f.last,.int .i64 f.stream,.str f.body]
def strC (s:St):List V:=[.int .i64 s.id,.int .i64 s.state,.rows none (s.head.map fV),.str s.say,.bool s.begun,.bool s.said,.int .i64 s.sent,.rows none (s.got.map fV),.str s.text,.bool s.heard,.int .i64 s.send,.int .i64 s.room]
def frmsC (l:List Fr):List V:=l.flatMap frmC
def strsC (l:List St):List V:=l.flatMap strC
end
section
open Go
section
variable {α:Type} {f:α→List V} {n:Nat}
theorem fl_len (hf:∀a,(f a).length=n) (l:List α):(l.flatMap f).length=l.length * n:=by
 induction l with
 | nil=>simp
 | cons a l ih=>rw [List.flatMap_cons,List.length_append,ih,hf,List.length_cons,Nat.add_mul]; omega
theorem fl_at (hf:∀a,(f a).length=n) {l:List α} {i:Nat} (d:α) (h:i < l.length):((l.flatMap f).drop (i * n)).take n=f (l.getD i d):=by
 induction l generalizing i with
 | nil=>simp at h
 | cons a l ih =>
  cases i with
  | zero =>
   rw [Nat.zero_mul,List.drop_zero,List.flatMap_cons,←hf a,List.take_left]
   rfl
  | succ i =>
   rw [List.flatMap_cons,Nat.add_mul,Nat.one_mul,Nat.add_comm,←List.drop_drop]
   conv=>lhs; rw [←hf a]
   rw [List.drop_left,hf a]
   exact ih (by simpa using h)
theorem splice_front:∀(xs ys zs:List V),ys.length=xs.length→splice (ys++zs) 0 xs=xs++zs
 | [],ys,zs,h=>by
  have:ys=[]:=List.length_eq_zero_iff.1 h
  subst this
  cases zs <;> simp [splice]
 | x :: xs,[],zs,h=>by simp at h
 | x :: xs,y :: ys,zs,h=>by
  rw [List.cons_append,splice,splice_front xs ys zs (by simpa using h),List.cons_append]
theorem splice_skip:∀(us bs:List V) (k:Nat) (xs:List V),splice (us++bs) (us.length+k) xs=us++splice bs k xs
 | [],bs,k,xs=>by simp
 | a :: us,bs,k,xs=>by
  rw [List.cons_append,List.length_cons,show us.length+1+k=us.length+k+1 by omega,splice,splice_skip us bs k xs,List.cons_append]
theorem fl_set (hf:∀a,(f a).length=n) {l:List α} {i:Nat} (a:α) (h:i < l.length):splice (l.flatMap f) (i * n) (f a)=(l.set i a).flatMap f:=by
 induction l generalizing i with
 | nil=>simp at h
 | cons b l ih =>
  cases i with
  | zero =>
   rw [Nat.zero_mul,List.set_cons_zero,List.flatMap_cons,List.flatMap_cons]
   exact splice_front _ _ _ (by rw [hf,hf])
  | succ i =>
   rw [List.set_cons_succ,List.flatMap_cons,List.flatMap_cons,←ih (i:=i) (by simpa using h),Nat.add_mul,Nat.one_mul,Nat.add_comm,←hf b]
   exact splice_skip _ _ _ _
end
theorem strC_len (s:St):(strC s).length=12:=rfl
theorem frmC_len (f:Fr):(frmC f).length=4:=rfl
theorem strsC_len (l:List St):(strsC l).length=l.length * 12:=fl_len strC_len l
theorem frmsC_len (l:List Fr):(frmsC l).length=l.length * 4:=fl_len frmC_len l
theorem strsC_at {l:List St} {i:Nat} (h:i < l.length):((strsC l).drop (i * 12)).take 12=strC (l.getD i st0):=fl_at strC_len st0 h
theorem frmsC_at {l:List Fr} {i:Nat} (h:i < l.length):((frmsC l).drop (i * 4)).take 4=frmC (l.getD i fr0):=fl_at frmC_len fr0 h
theorem strsC_set {l:List St} {i:Nat} (s:St) (h:i < l.length):splice (strsC l) (i * 12) (strC s)=strsC (l.set i s):=fl_set strC_len s h
theorem strsC_app (l k:List St):strsC (l++k)=strsC l++strsC k:=by simp [strsC]
def Upd (bs:List Nat) (S S':List Blk):Prop:=S.length≤S'.length∧∀j,j < S.length→j ∉ bs→S'[j]?=S[j]?
theorem Upd.refl (bs:List Nat) (S:List Blk):Upd bs S S:=⟨Nat.le_refl _,fun _ _ _=>rfl⟩
theorem Upd.mono {bs cs:List Nat} {S S':List Blk} (h:Upd bs S S') (hs:∀j,j < S.length→j ∈ bs→j ∈ cs):Upd cs S S':=⟨h.1,fun j hj hn=>h.2 j hj (fun hm=>hn (hs j hj hm))⟩
theorem Upd.trans {bs:List Nat} {S S1 S2:List Blk} (h:Upd bs S S1) (k:Upd bs S1 S2):Upd bs S S2:=⟨Nat.le_trans h.1 k.1,fun j hj hn=>(k.2 j (Nat.lt_of_lt_of_le hj h.1) hn).trans (h.2 j hj hn)⟩
theorem Upd.then_ {bs cs:List Nat} {S S1 S2:List Blk} (h:Upd bs S S1) (k:Upd cs S1 S2) (hs:∀j,j < S.length→j ∈ cs→j ∈ bs):Upd bs S S2 :=
 ⟨Nat.le_trans h.1 k.1,fun j hj hn=>(k.2 j (Nat.lt_of_lt_of_le hj h.1) (fun hm=>hn (hs j hj hm))).trans (h.2 j hj hn)⟩
theorem Upd.app {bs:List Nat} {S S1:List Blk} (h:Upd bs S S1) (X:List Blk):Upd bs S (S1++X):=by
 refine ⟨by rw [List.length_append]; have:=h.1; omega,fun j hj hn=>?_⟩
 rw [List.getElem?_append_left (Nat.lt_of_lt_of_le hj h.1)]
 exact h.2 j hj hn
theorem Upd.set {bs:List Nat} {S S1:List Blk} (h:Upd bs S S1) {i:Nat} (B:Blk) (hi:S.length≤i∨i ∈ bs):Upd bs S (S1.set i B):=by
 refine ⟨by rw [List.length_set]; exact h.1,fun j hj hn=>?_⟩
 have hne:i≠j:=by
  rintro rfl
  rcases hi with hi | hi
  ·omega
  ·exact hn hi
 rw [List.getElem?_set_ne hne]
 exact h.2 j hj hn
theorem Upd.get {bs:List Nat} {S S1:List Blk} (h:Upd bs S S1) {j:Nat} {B:Blk} (hS:S[j]?=some B) (hn:j ∉ bs):S1[j]?=some B:=by
 have hlt:j < S.length:=by
  rcases Nat.lt_or_ge j S.length with g | g
  ·exact g
  ·rw [List.getElem?_eq_none g] at hS; cases hS
 rw [h.2 j hlt hn]
 exact hS
theorem lt_of_some {S:List Blk} {j:Nat} {B:Blk} (h:S[j]?=some B):j < S.length:=by
 rcases Nat.lt_or_ge j S.length with g | g
 ·exact g
 ·rw [List.getElem?_eq_none g] at h; cases h
end
section
open Go
def frV (f:Fr):V:=.agg (frmC f)
def stV (s:St):V:=.agg (strC s)
def enC (v w:V) (e:En):List V:=[.bool e.ans,.rows none (e.out.map fV),.int .i64 e.outM,.rows none (e.inn.map fV),.int .i64 e.innM,.str e.came,v,.int .i64 e.send,.int .i64 e.room,w,.bool e.bad]
def enV (v w:V) (e:En):V:=.agg (enC v w e)
@[push_cast] theorem frmC_eq (f:Fr):frmC f=[.int .i64 f.kind,.bool f.last,.int .i64 f.stream,.str f.body]:=rfl
@[push_cast] theorem frV_eq (f:Fr):frV f=.agg [.int .i64 f.kind,.bool f.last,.int .i64 f.stream,.str f.body]:=rfl
@[push_cast] theorem strC_eq (s:St):strC s=[.int .i64 s.id,.int .i64 s.state,.rows none (s.head.map fV),.str s.say,.bool s.begun,.bool s.said,.int .i64 s.sent,.rows none (s.got.map fV),.str s.text,.bool s.heard,.int .i64 s.send,.int .i64 s.room]:=rfl
@[push_cast] theorem stV_eq (s:St):stV s=.agg [.int .i64 s.id,.int .i64 s.state,.rows none (s.head.map fV),.str s.say,.bool s.begun,.bool s.said,.int .i64 s.sent,.rows none (s.got.map fV),.str s.text,.bool s.heard,.int .i64 s.send,.int .i64 s.room]:=rfl
@[push_cast] theorem enC_eq (v w:V) (e:En):enC v w e=[.bool e.ans,.rows none (e.out.map fV),.int .i64 e.outM,.rows none (e.inn.map fV),.int .i64 e.innM,.str e.came,v,.int .i64 e.send,.int .i64 e.room,w,.bool e.bad]:=rfl
@[push_cast] theorem enV_eq (v w:V) (e:En):enV v w e=.agg [.bool e.ans,.rows none (e.out.map fV),.int .i64 e.outM,.rows none (e.inn.map fV),.int .i64 e.innM,.str e.came,v,.int .i64 e.send,.int .i64 e.room,w,.bool e.bad]:=rfl
def EnAt (S:List Blk) (b c:Nat) (e:En):Prop:=S[b]?=some (.cells 12 (strsC e.strs))∧S[c]?=some (.cells 4 (frmsC e.wait))
theorem EnAt.ne {S:List Blk} {b c:Nat} {e:En} (h:EnAt S b c e):b≠c:=by
 rintro rfl
 have:=h.1.symm.trans h.2
 simp at this
theorem EnAt.upd {S S':List Blk} {bs:List Nat} {b c:Nat} {e:En} (h:EnAt S b c e) (hu:Upd bs S S') (hb:b ∉ bs) (hc:c ∉ bs):EnAt S' b c e:=⟨hu.get h.1 hb,hu.get h.2 hc⟩
end
end Go.Proofs.YtldogccmhncnoaaGreat
