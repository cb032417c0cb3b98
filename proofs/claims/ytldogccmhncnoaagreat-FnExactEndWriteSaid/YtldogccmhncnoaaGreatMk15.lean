/- A part of the proof: contracts of functions, or plain facts on which these lean. -/
import Derived.Test.YtldogccmhncnoaaGreatMk14
namespace Go.Proofs.YtldogccmhncnoaaGreat
open Go
set_option linter.unusedVariables false
set_option linter.unusedSimpArgs false
set_option maxRecDepth 100000
set_option maxHeartbeats 16000000

section
open Go
def headOk (h:List Fd):Bool:=h.all fieldOk && decide (h.length≤6)
theorem sHeadOk_ok (l:List Fd) (hl:FdsB l) (S:List Blk):VCall Tryz.prog 74 [.rows none (l.map fV)] S fun r S'=>r=.bool (headOk l)∧S'=S:=by
 obtain ⟨hlen,hb⟩:=hl
 refine VCall.en hD Tryz.func74 Tryz.ntmps74 Tryz.results74 ?_
 simp -implicitDefEqProofs (disch:=omega) only [push_cast,simprocAttr,↓gd]
 refine wpV_loop (fun m t S'=>∃i:Nat,m=l.length - i∧i≤l.length∧(l.take i).all fieldOk=true∧t 0=.rows none (l.map fV)∧t 3=.int .i64 i∧S'=S) l.length ⟨0,by omega,by omega,by simp,rfl,rfl,rfl⟩ ?_
 rintro m t S' ⟨i,rfl,hi,hno,h0,h3,rfl⟩
 refine wpV_of0 hD ?_
 simp -implicitDefEqProofs (disch:=omega) only [push_cast,simprocAttr,h0,h3,↓gd]
 refine ⟨fun h=>⟨by omega,by omega,?_⟩,fun h=>?_⟩
 ·have hil:i < l.length:=by omega
  have hfb:=hb _ (getD_fd_mem hil)
  have hgd:=getD_fV hil
  generalize hf:l.getD i fd0=f at hfb hgd
  simp -implicitDefEqProofs (disch:=omega) only [push_cast,simprocAttr,h0,h3,hgd,↓gd]
  refine (sFieldOk_ok f hfb _).to ?_
  cases hok:fieldOk f
  ·simp -implicitDefEqProofs (disch:=omega) only [push_cast,simprocAttr,h0,h3,↓gd]
   exact fin0 (by rw [headOk,all_fd_bad hil (by rw [hf,hok])]; rfl)
  ·simp -implicitDefEqProofs (disch:=omega) only [push_cast,simprocAttr,h0,h3,↓gd]
   exact ⟨l.length - (i+1),by omega,i+1,rfl,by omega,all_fd_succ hil hno (by rw [hf,hok]),by simp⟩
 ·have:i=l.length:=by omega
  subst this
  rw [List.take_length] at hno
  refine fin0 ?_
  rw [headOk,hno]
  simp
  omega
theorem HeadOk_ok (l:List Fd) (hl:FdsB l) (S:List Blk):VCall Tryz.prog 83 [.rows none (l.map fV)] S fun r S'=>r=.bool (headOk l)∧S'=S:=by
 obtain ⟨hlen,hb⟩:=hl
 refine VCall.en hD Tryz.func83 Tryz.ntmps83 Tryz.results83 ?_
 by_cases h6:l.length≤6
 ·have h6':(l.length:Int)≤6:=by omega
  simp -implicitDefEqProofs (disch:=omega) only [push_cast,simprocAttr,h6',↓gd]
  refine (ContainsFunc_ok l _ [] _ hlen _ (fun g hg=>(headOk1_ok g (hb g hg) _).as rfl)).to ?_
  simp -implicitDefEqProofs (disch:=omega) only [push_cast,simprocAttr,↓gd]
  refine fin0 ?_
  rw [headOk,decide_eq_true h6,List.not_any_eq_all_not]
  simp
 ·have h6':¬(l.length:Int)≤6:=by omega
  simp -implicitDefEqProofs (disch:=omega) only [push_cast,simprocAttr,h6',↓gd]
  exact fin0 (by rw [headOk,decide_eq_false h6]; simp)
theorem cl_fds (n:Nat) (l:List Fd):Cl n (.rows none (l.map fV)):=by
 refine Cl.rows' (fun x hx=>?_)
 obtain ⟨y,_,rfl⟩:=List.mem_map.1 hx
 refine .agg ?_
 simp only [List.mem_cons,List.not_mem_nil,or_false,forall_eq_or_imp,forall_eq]
 exact ⟨.str _,.str _,.bool _⟩
def tV (l:List Fd) (max:Int):V:=.agg [.rows none (l.map fV),.int .i64 max]
theorem Cl.two {n:Nat} {a b:V} (h1:Cl n a) (h2:Cl n b):Cl n (.tup [a,b]):=by
 refine .tup ?_
 simp only [List.mem_cons,List.not_mem_nil,or_false,forall_eq_or_imp,forall_eq]
 exact ⟨h1,h2⟩
theorem cl_fds2 (n:Nat) (l k:List Fd):Cl n (.rows none (l.map fV++k.map fV)):=by
 rw [←List.map_append]; exact cl_fds _ _
theorem tV_eq (l:List Fd) (max:Int):tV l max=.agg [.rows none (l.map fV),.int .i64 max]:=rfl
attribute [push_cast] tV_eq
theorem cl_tab (n:Nat) (l:List Fd) (max:Int):Cl n (tV l max):=by
 refine .agg ?_
 simp only [List.mem_cons,List.not_mem_nil,or_false,forall_eq_or_imp,forall_eq]
 exact ⟨cl_fds _ _,.int _ _⟩
theorem cloneFields_ok (l:List Fd) (hl:l.length≤4000000) (S:List Blk):VCall Tryz.prog 60 [.rows none (l.map fV)] S fun r S'=>r=.rows none (l.map fV)∧S'=S:=by
 refine VCall.en hD Tryz.func60 Tryz.ntmps60 Tryz.results60 ?_
 simp -implicitDefEqProofs (disch:=omega) only [push_cast,simprocAttr,↓gd]
 exact ⟨by omega,finE (cl_fds _ _) rfl⟩
theorem clone_ok (l:List Fd) (max:Int) (hl:l.length≤4000000) (S:List Blk):VCall Tryz.prog 59 [tV l max] S fun r S'=>r=tV l max∧S'=S:=by
 refine VCall.ex hD (fun _=>false) (fun id=>if id=1 then [2,2,6,6,6,6,7] else []) Tryz.func59 Tryz.ntmps59 Tryz.results59 ?_
 simp -implicitDefEqProofs (disch:=omega) only [push_cast,simprocAttr,↓gd]
 refine (cloneFields_ok l hl _).to ?_
 simp -implicitDefEqProofs (disch:=omega) only [push_cast,simprocAttr,↓gd]
 exact fin1 (cl_tab _ _ _) rfl
theorem Concat_ok (a b:List Fd) (ha:a.length≤2000000) (hb:b.length≤2000000) (h0:0 < a.length) (S:List Blk) :
  VCall Tryz.prog 106 [.rows none [.rows none (a.map fV),.rows none (b.map fV)]] S fun r S'=>r=.rows none ((a++b).map fV)∧S'=S:=by
 refine VCall.en hD Tryz.func106 Tryz.ntmps106 Tryz.results106 ?_
 simp -implicitDefEqProofs (disch:=omega) only [push_cast,simprocAttr,↓gd]
 refine wpV_loop (fun m t S'=>∃i:Nat,m=2 - i∧i≤2∧t 0=.rows none [.rows none (a.map fV),.rows none (b.map fV)]∧t 3=.int .i64 (if i=0 then 0 else if i=1 then a.length else a.length+b.length)∧t 9=.rows none [.rows none (a.map fV),.rows none (b.map fV)]∧t 10=.int .i64 2∧t 11=.int .i64 i∧S'=S) 2 ⟨0,by omega,by omega,rfl,rfl,rfl,rfl,rfl,rfl⟩ ?_
 rintro m t S' ⟨i,rfl,hi,h0,h3,h9,h10,h11,rfl⟩
 refine wpV_of0 hD ?_
 have g0:[V.rows none (a.map fV),.rows none (b.map fV)].getD 0 .junk=.rows none (a.map fV):=rfl
 have g1:[V.rows none (a.map fV),.rows none (b.map fV)].getD 1 .junk=.rows none (b.map fV):=rfl
 rcases (by omega:i=0∨i=1∨i=2) with rfl | rfl | rfl
 ·simp -implicitDefEqProofs (disch:=omega) only [push_cast,simprocAttr,h0,h3,h9,h10,h11,g0,↓gd]
  refine ⟨fun h=>by omega,fun h=>?_⟩
  exact ⟨1,by omega,1,rfl,by omega,by simp,rfl⟩
 ·simp -implicitDefEqProofs (disch:=omega) only [push_cast,simprocAttr,h0,h3,h9,h10,h11,g1,↓gd]
  exact ⟨fun h=>by omega,fun h=>⟨0,by omega,2,rfl,by omega,by simp,rfl⟩⟩
 ·simp -implicitDefEqProofs (disch:=omega) only [push_cast,simprocAttr,h0,h3,h9,h10,h11,↓gd]
  refine ((Grow_ok (a.length+b.length) (by omega) (by omega) S').as (by simp)).to ?_
  simp -implicitDefEqProofs (disch:=omega) only [push_cast,simprocAttr,h0,h3,h9,h10,h11,↓gd]
  refine wpV_loop (fun m t S2=>∃(i τ:Nat),m=2 - i∧i≤2∧t 6=.rows (some τ) ((if i=0 then [] else if i=1 then a else a++b).map fV)∧t 25=.rows none [.rows none (a.map fV),.rows none (b.map fV)]∧t 26=.int .i64 2∧t 27=.int .i64 i∧Tok S' S2 τ 3) 2 ⟨0,_,by omega,by omega,rfl,rfl,rfl,rfl,Tok.new _ _⟩ ?_
  clear h0 h3 h9 h10 h11
  rintro m t S2 ⟨i,τ,rfl,hi,h6,h25,h26,h27,hT⟩
  have hat:=hT.at
  refine wpV_of0 hD ?_
  rcases (by omega:i=0∨i=1∨i=2) with rfl | rfl | rfl
  ·simp -implicitDefEqProofs (disch:=omega) only [push_cast,simprocAttr,h6,h25,h26,h27,g0,hat,↓gd]
   exact ⟨by omega,1,by omega,1,_,rfl,by omega,rfl,by simp,hT.step⟩
  ·simp -implicitDefEqProofs (disch:=omega) only [push_cast,simprocAttr,h6,h25,h26,h27,g1,hat,↓gd]
   refine ⟨by omega,by omega,0,by omega,2,_,rfl,by omega,by simp,by simp,hT.step⟩
  ·simp -implicitDefEqProofs (disch:=omega) only [push_cast,simprocAttr,h6,h25,h26,h27,↓gd]
   exact hT.finE (cl_fds2 _ _ _) rfl
theorem all_ok (l:List Fd) (max:Int) (hl:l.length≤2000000) (S:List Blk):VCall Tryz.prog 102 [tV l max] S fun r S'=>r=.rows none ((fixedFds++l).map fV)∧S'=S:=by
 refine VCall.ex hD (fun _=>false) (fun id=>if id=1 then [3,3,3,4,6,6] else []) Tryz.func102 Tryz.ntmps102 Tryz.results102 ?_
 simp -implicitDefEqProofs (disch:=omega) only [push_cast,simprocAttr,↓gd]
 refine (TableFixed_ok _).to ?_
 simp -implicitDefEqProofs (disch:=omega) only [push_cast,simprocAttr,↓gd]
 refine (Concat_ok fixedFds l (by decide) hl (by decide) _).to ?_
 simp -implicitDefEqProofs (disch:=omega) only [push_cast,simprocAttr,↓gd]
 exact fin1 (cl_fds2 _ _ _) rfl
theorem l3All_ok (l:List Fd) (max:Int) (hl:l.length≤2000000) (S:List Blk):VCall Tryz.prog 117 [tV l max] S fun r S'=>r=.rows none ((fixedFds++l).map fV)∧S'=S:=by
 refine VCall.ex hD (fun _=>false) (fun id=>if id=1 then [3,3,3,5,5] else []) Tryz.func117 Tryz.ntmps117 Tryz.results117 ?_
 simp -implicitDefEqProofs (disch:=omega) only [push_cast,simprocAttr,↓gd]
 refine (sTableFixed_ok _).to ?_
 simp -implicitDefEqProofs (disch:=omega) only [push_cast,simprocAttr,↓gd]
 exact ⟨by omega,by decide,finE (cl_fds2 _ _ _) rfl⟩
def nameP (f g:Fd):Bool:=decide (g.name=f.name)
def bothP (f g:Fd):Bool:=decide (g.name=f.name) && decide (g.val=f.val)
def placeOf (l:List Fd) (f:Fd):Nat:=if (fixedFds++l).any (bothP f) then (fixedFds++l).findIdx (bothP f)+1 else if (fixedFds++l).any (nameP f) then (fixedFds++l).findIdx (nameP f)+1 else 0
def foundIn (l:List Fd) (f:Fd):Bool:=(fixedFds++l).any (bothP f)
theorem find1_ok (f g:Fd) (b:Nat) (S:List Blk) (hS:S[b]?=some (.cells 0 [.str f.name,.str f.val,.bool f.never])):VCall Tryz.prog 103 [fV g,.ptr b 0] S fun r S'=>r=.bool (bothP f g)∧S'=S:=by
 have hbl:b < S.length:=by
  rcases Nat.lt_or_ge b S.length with g | g
  ·exact g
  ·rw [List.getElem?_eq_none g] at hS; cases hS
 have hS2:∀B,(S++[B])[b]?=some (.cells 0 [.str f.name,.str f.val,.bool f.never]):=fun B=>by rw [List.getElem?_append_left hbl]; exact hS
 refine VCall.en hD Tryz.func103 Tryz.ntmps103 Tryz.results103 ?_
 by_cases h:g.name=f.name
 ·simp -implicitDefEqProofs (disch:=omega) only [push_cast,simprocAttr,hS2,h,↓gd]
  exact fin1 (.bool _) (by simp [bothP,h])
 ·simp -implicitDefEqProofs (disch:=omega) only [push_cast,simprocAttr,hS2,h,↓gd]
  exact fin1 (.bool _) (by simp [bothP,h])
theorem find2_ok (f g:Fd) (b:Nat) (S:List Blk) (hS:S[b]?=some (.cells 0 [.str f.name,.str f.val,.bool f.never])):VCall Tryz.prog 104 [fV g,.ptr b 0] S fun r S'=>r=.bool (nameP f g)∧S'=S:=by
 have hbl:b < S.length:=by
  rcases Nat.lt_or_ge b S.length with g | g
  ·exact g
  ·rw [List.getElem?_eq_none g] at hS; cases hS
 have hS2:∀B,(S++[B])[b]?=some (.cells 0 [.str f.name,.str f.val,.bool f.never]):=fun B=>by rw [List.getElem?_append_left hbl]; exact hS
 refine VCall.en hD Tryz.func104 Tryz.ntmps104 Tryz.results104 ?_
 simp -implicitDefEqProofs (disch:=omega) only [push_cast,simprocAttr,hS2,↓gd]
 exact fin1 (.bool _) rfl
theorem find_ok (l:List Fd) (max:Int) (f:Fd) (hl:l.length≤1000000) (S:List Blk):VCall Tryz.prog 91 [tV l max,fV f] S fun r S'=>r=.tup [.int .i64 (placeOf l f),.bool (foundIn l f)]∧S'=S:=by
 refine VCall.en hD Tryz.func91 Tryz.ntmps91 Tryz.results91 ?_
 simp -implicitDefEqProofs (disch:=omega) only [push_cast,simprocAttr,↓gd]
 refine (all_ok l max (by omega) _).to ?_
 obtain ⟨w,hw⟩:∃w,w=fixedFds++l:=⟨_,rfl⟩
 have hwl:w.length≤2000000:=by rw [hw]; simp [fixedFds]; omega
 have hix:w.findIdx (nameP f)≤w.length:=List.findIdx_le_length
 have hix2:w.findIdx (bothP f)≤w.length:=List.findIdx_le_length
 rw [←hw]
 simp -implicitDefEqProofs (disch:=omega) only [push_cast,simprocAttr,↓gd]
 refine (IndexFunc_ok w _ [.ptr (S.length+1) 0] (bothP f) hwl _ (fun g hg=>(find1_ok f g (S.length+1) _ (by simp)).as rfl)).to ?_
 cases h:w.any (bothP f)
 ·simp -implicitDefEqProofs (disch:=omega) only [push_cast,simprocAttr,↓gd]
  refine (IndexFunc_ok w _ [.ptr (S.length+1) 0] (nameP f) hwl _ (fun g hg=>(find2_ok f g (S.length+1) _ (by simp)).as rfl)).to ?_
  cases h2:w.any (nameP f)
  ·simp -implicitDefEqProofs (disch:=omega) only [push_cast,simprocAttr,↓gd]
   exact fin1 (Cl.two (.int _ _) (.bool _)) (by simp [placeOf,foundIn,←hw,h,h2])
  ·simp -implicitDefEqProofs (disch:=omega) only [push_cast,simprocAttr,↓gd]
   exact fin1 (Cl.two (.int _ _) (.bool _)) (by simp [placeOf,foundIn,←hw,h,h2])
 ·simp -implicitDefEqProofs (disch:=omega) only [push_cast,simprocAttr,↓gd]
  exact ⟨fun _=>fin1 (Cl.two (.int _ _) (.bool _)) (by simp [placeOf,foundIn,←hw,h]),fun g=>absurd (by omega) g⟩
def firstAt (p:Fd→Bool) (l:List Fd) (i:Nat):Nat:=if (l.drop i).any p then i+(l.drop i).findIdx p+1 else 0
theorem drop_fd {l:List Fd} {i:Nat} (h:i < l.length):l.drop i=l.getD i fd0 :: l.drop (i+1):=by
 rw [List.drop_eq_getElem_cons h,List.getD,List.getElem?_eq_getElem h]; rfl
theorem firstAt_end (p:Fd→Bool) (l:List Fd):firstAt p l l.length=0:=by simp [firstAt]
theorem firstAt_yes {p:Fd→Bool} {l:List Fd} {i:Nat} (h:i < l.length) (hp:p (l.getD i fd0)=true):firstAt p l i=i+1:=by
 rw [firstAt,drop_fd h,List.any_cons,hp,List.findIdx_cons,hp]; simp
theorem firstAt_no {p:Fd→Bool} {l:List Fd} {i:Nat} (h:i < l.length) (hp:p (l.getD i fd0)=false):firstAt p l i=firstAt p l (i+1):=by
 rw [firstAt,firstAt,drop_fd h,List.any_cons,hp,List.findIdx_cons,hp]
 cases (l.drop (i+1)).any p
 ·rfl
 ·show i+((l.drop (i+1)).findIdx p+1)+1=i+1+(l.drop (i+1)).findIdx p+1
  omega
theorem firstAt_le (p:Fd→Bool) (l:List Fd) (i:Nat) (h:i≤l.length):firstAt p l i≤l.length+1:=by
 have:(l.drop i).findIdx p≤(l.drop i).length:=List.findIdx_le_length
 rw [List.length_drop] at this
 unfold firstAt; split <;> omega
theorem l3Find_ok (l:List Fd) (max:Int) (f:Fd) (hl:l.length≤1000000) (S:List Blk):VCall Tryz.prog 108 [tV l max,fV f] S fun r S'=>r=.tup [.int .i64 (placeOf l f),.bool (foundIn l f)]∧S'=S:=by
 obtain ⟨w,hw⟩:∃w,w=fixedFds++l:=⟨_,rfl⟩
 have hwl:w.length≤2000000:=by rw [hw]; simp [fixedFds]; omega
 obtain ⟨Sx,hSx⟩:∃Sx,Sx=S++[Blk.cells 0 [V.rows none (List.map fV l),V.int IntKind.i64 max],Blk.cells 0 [V.str f.name,V.str f.val,V.bool f.never]]:=⟨_,rfl⟩
 have hTb:Sx[S.length+1]?=some (Blk.cells 0 [V.str f.name,V.str f.val,V.bool f.never]):=by rw [hSx]; simp
 refine VCall.ex hD (fun _=>false) (fun id=>if id=6 then [8,8,8,8,8,8,8,8] else if id=11 then [18,18,18,18,18,18,18,18,18,18,18,18,18,18,18,18,18,18] else []) Tryz.func108 Tryz.ntmps108 Tryz.results108 ?_
 simp -implicitDefEqProofs (disch:=omega) only [push_cast,simprocAttr,↓gd]
 refine (l3All_ok l max (by omega) _).to ?_
 rw [←hw,←hSx]
 simp -implicitDefEqProofs (disch:=omega) only [push_cast,simprocAttr,↓gd]
 refine wpV_loop (fun m t S'=>m≤w.length∧t 3=.ptr (S.length+1) 0∧t 6=.rows none (w.map fV)∧t 7=.int .i64 (firstAt (nameP f) w m)∧t 8=.int .i64 ((m:Int) - 1)∧S'=Sx) w.length ⟨Nat.le_refl _,rfl,rfl,by rw [firstAt_end]; rfl,rfl,rfl⟩ ?_
 rintro m t S' ⟨hm,h3,h6,h7,h8,rfl⟩
 refine wpV_of hD (fun _=>false) (fun id=>if id=6 then [8,8,8,8,8,8,8,8] else if id=11 then [18,18,18,18,18,18,18,18,18,18,18,18,18,18,18,18,18,18] else []) (by kernel_rfl) ?_
 have hfa:=firstAt_le (nameP f) w m hm
 rcases m with _ | k
 ·have h8':t 8=.int .i64 (-1):=h8
  simp -implicitDefEqProofs (disch:=omega) only [push_cast,simprocAttr,h3,h6,h7,h8',↓gd]
  clear h8 h8' hm
  refine wpV_loop (fun m t S2=>∃i:Nat,m=w.length - i∧i≤w.length∧(w.take i).any (bothP f)=false∧t 3=.ptr (S.length+1) 0∧t 6=.rows none (w.map fV)∧t 7=.int .i64 (firstAt (nameP f) w 0)∧t 9=.int .i64 i∧S2=S') w.length ⟨0,by omega,by omega,by simp,h3,h6,h7,rfl,rfl⟩ ?_
  clear h3 h6 h7
  rintro m t S2 ⟨i,rfl,hi,hno,h3,h6,h7,h9,rfl⟩
  refine wpV_of hD (fun _=>false) (fun id=>if id=11 then [18,18,18,18,18,18,18,18,18,18,18,18,18,18,18,18,18,18] else []) (by kernel_rfl) ?_
  simp -implicitDefEqProofs (disch:=omega) only [push_cast,simprocAttr,h3,h6,h7,h9,↓gd]
  refine ⟨fun h=>⟨by omega,by omega,?_⟩,fun h=>?_⟩
  ·have hil:i < w.length:=by omega
   have hgd:=getD_fV hil
   generalize hg:w.getD i fd0=g at hgd
   by_cases hn:g.name=f.name
   ·by_cases hv:g.val=f.val
    ·simp -implicitDefEqProofs (disch:=omega) only [push_cast,simprocAttr,h3,h6,h7,h9,hgd,hTb,hn,hv,↓gd]
     refine ⟨by omega,by omega,?_⟩
     rw [hSx]
     refine fin1 (Cl.two (.int _ _) (.bool _)) ?_
     have hb:bothP f (w.getD i fd0)=true:=by rw [hg]; simp [bothP,hn,hv]
     simp [placeOf,foundIn,←hw,any_at hil hno hb,findIdx_at hil hno hb]
    ·simp -implicitDefEqProofs (disch:=omega) only [push_cast,simprocAttr,h3,h6,h7,h9,hgd,hTb,hn,hv,↓gd]
     exact ⟨by omega,by omega,w.length - (i+1),by omega,i+1,rfl,by omega,by rw [take_fd hil,List.any_append,hno,hg]; simp [bothP,hv],by simp⟩
   ·simp -implicitDefEqProofs (disch:=omega) only [push_cast,simprocAttr,h3,h6,h7,h9,hgd,hTb,hn,↓gd]
    exact ⟨w.length - (i+1),by omega,i+1,rfl,by omega,by rw [take_fd hil,List.any_append,hno,hg]; simp [bothP,hn],by simp⟩
  ·have:i=w.length:=by omega
   subst this
   rw [List.take_length] at hno
   rw [hSx]
   refine fin1 (Cl.two (.int _ _) (.bool _)) ?_
   simp [placeOf,foundIn,←hw,hno,firstAt]
 ·have h8':t 8=.int .i64 (k:Int):=by rw [h8]; congr 1; omega
  have hkl:k < w.length:=by omega
  have hgd:=getD_fV (l:=w) (i:=k) (by omega)
  generalize hg:w.getD k fd0=g at hgd
  simp -implicitDefEqProofs (disch:=omega) only [push_cast,simprocAttr,h3,h6,h7,h8',hgd,hTb,↓gd]
  refine ⟨fun _=>⟨by omega,by omega,fun hn=>⟨k,by omega,by omega,?_,rfl⟩,fun hn=>⟨k,by omega,by omega,?_,rfl⟩⟩,fun h=>absurd (by omega) h⟩
  ·rw [firstAt_yes hkl (by rw [hg]; simp [nameP,hn])]; rfl
  ·rw [firstAt_no hkl (by rw [hg]; simp [nameP,hn])]
end
section
open Go
theorem hDf:TypesOk Tryz.prog (wrOf D [117]):=wrOk hD _
def fcs (l:List Fd):List V:=l.flatMap fun f=>[.str f.name,.str f.val,.bool f.never]
theorem fcs_len (l:List Fd):(fcs l).length=l.length * 3:=by
 induction l with
 | nil=>rfl
 | cons a l ih=>simp only [fcs,List.flatMap_cons,List.length_append,List.length_cons] at ih ⊢; simp only [List.length_nil] at ih ⊢; omega
theorem fcs_app (l k:List Fd):fcs (l++k)=fcs l++fcs k:=by simp [fcs]
theorem fcs_at {l:List Fd} {i:Nat} (h:i < l.length) (Y:List V):((fcs l++Y).drop (i * 3)).take 3=[.str (l.getD i fd0).name,.str (l.getD i fd0).val,.bool (l.getD i fd0).never]:=by
 obtain ⟨a,b,hab,ha⟩:∃a b,l=a++l.getD i fd0 :: b∧a.length=i:=⟨l.take i,l.drop (i+1),by rw [←drop_fd h,List.take_append_drop],by simp; omega⟩
 have e:fcs l=fcs a++([V.str (l.getD i fd0).name,V.str (l.getD i fd0).val,V.bool (l.getD i fd0).never]++fcs b):=by
  conv=>lhs; rw [hab]
  rw [fcs_app]; rfl
 rw [e,←ha,←fcs_len,List.append_assoc,List.drop_left]
 rfl
theorem fcs_of (l:List Fd):List.map eraseC (List.flatMap V.cells (List.map fV l))=fcs l:=by
 induction l with
 | nil=>rfl
 | cons a l ih=>simp only [List.map_cons,List.flatMap_cons,List.map_append,ih]; rfl
theorem keep_tab (w:List Fd) (max:Int) (S A:List Blk):∃r S2,Wk S (.agg [.rows (some (S.length+A.length)) (w.map fV),.int .i64 max]) (S++(A++[.right 3])) r S2∧r=.agg [.rows (some S.length) (w.map fV),.int .i64 max]∧S2=S++[.right 3]:=by
 refine ⟨_,_,Wk.keep (fun j=>if j < S.length then j else S.length+A.length) (by simp) (fun j hj=>if_pos hj) ?_ (r':=.agg [.rows (some S.length) (w.map fV),.int .i64 max]) ?_ ?_ ?_,rfl,rfl⟩
 ·intro i j hi hj he
  simp only [List.length_append,List.length_cons,List.length_nil] at hi hj
  by_cases h:i < S.length <;> by_cases h':j < S.length <;> simp [h,h'] at he <;> omega
 ·simp [renT,ren1,renC]
 ·intro u hu
  simp only [V.cells,List.mem_cons,List.not_mem_nil,or_false] at hu
  rcases hu with rfl | rfl
  ·refine .rows (fun τ hτ=>by cases hτ; simp) (fun v hv=>?_)
   obtain ⟨x,hx,hvx⟩:=List.mem_flatMap.1 hv
   obtain ⟨f,_,rfl⟩:=List.mem_map.1 hx
   simp only [fV,V.cells,List.mem_cons,List.not_mem_nil,or_false] at hvx
   rcases hvx with rfl | rfl | rfl
   ·exact .str _
   ·exact .str _
   ·exact .bool _
  ·exact .cl (.int _ _)
 ·intro j B' hj
  rcases Nat.lt_or_ge j S.length with g | g
  ·rw [List.getElem?_append_left g] at hj
   refine .inl ⟨g,hj,?_⟩
   rw [List.getElem?_append_left g]
   exact hj
  ·have:j=S.length:=by
    rcases Nat.lt_or_ge j (S.length+1) with q | q
    ·omega
    ·rw [List.getElem?_eq_none (by simpa using q)] at hj; cases hj
   subst this
   rw [List.getElem?_append_right (Nat.le_refl _),Nat.sub_self] at hj
   cases hj
   refine .inr ⟨.right 3,?_,.right⟩
   simp only [Nat.lt_irrefl,if_false]
   rw [List.getElem?_append_right (by omega),List.getElem?_append_right (by omega)]
   rw [show S.length+A.length - S.length - A.length=0 by omega]
   rfl
theorem fit_end (w:List Fd) (max:Int) (S A:List Blk) (Y:List V):∃r S2,Wk S (.agg [.heap (S.length+A.length) w.length,.int .i64 max]) (S++(A++[.cells 3 (fcs w++Y)])) r S2∧r=.agg [.rows (some S.length) (w.map fV),.int .i64 max]∧S2=S++[.right 3]:=by
 have hfl:=fcs_len w
 have h1:=Wk.freeze (S0:=S) (S:=S++(A++[.cells 3 (fcs w++Y)])) (r:=.agg [.heap (S.length+A.length) w.length,.int .i64 max]) (b:=S.length+A.length) (m:=w.length) (sz:=3) (cs:=fcs w++Y) (w.map fV) (by decide)
  (by rw [List.getElem?_append_right (by omega),List.getElem?_append_right (by omega)]; simp) (by simp; omega) (by simp) (by
   rw [←hfl,List.take_left]
   induction w with
   | nil=>rfl
   | cons a l ih=>simp only [List.map_cons,List.flatMap_cons,ih (fcs_len l)]; rfl)
 simp only [fr1,frC,List.map_cons,List.map_nil,and_self,if_true] at h1
 obtain ⟨r,S2,h2,h3⟩:=keep_tab w max S (A++[.dead])
 refine ⟨r,S2,h1.trans ?_,h3⟩
 have e1:(S++(A++[Blk.cells 3 (fcs w++Y)])).length=S.length+(A++[Blk.dead]).length:=by simp
 have e2:(S++(A++[Blk.cells 3 (fcs w++Y)])).set (S.length+A.length) Blk.dead++[Blk.right 3]=S++(A++[Blk.dead]++[.right 3]):=by
  rw [List.set_append_right _ _ (by omega),Nat.add_sub_cancel_left,List.set_append_right _ _ (by omega),Nat.sub_self]; simp
 rw [e1,e2]
 exact h2
theorem l3SizeH_ok (l:List Fd) (hl:FdsB l) (b:Nat) (Y:List V) (S:List Blk) (hS:S[b]?=some (.cells 3 (fcs l++Y))):VCall Tryz.prog 77 [.heap b l.length] S fun r S'=>r=.int .i64 (fdsSize l)∧S'=S:=by
 obtain ⟨hlen,hb⟩:=hl
 refine VCall.en hDf Tryz.func77 Tryz.ntmps77 Tryz.results77 ?_
 simp -implicitDefEqProofs (disch:=omega) only [push_cast,simprocAttr,↓gd]
 refine wpV_loop (fun m t S'=>∃i:Nat,m=l.length - i∧i≤l.length∧t 0=.heap b l.length∧t 3=.int .i64 (fdsSize (l.take i))∧t 4=.int .i64 i∧S'=S) l.length ⟨0,by omega,by omega,rfl,rfl,rfl,rfl⟩ ?_
 rintro m t S' ⟨i,rfl,hi,h0,h3,h4,rfl⟩
 refine wpV_of0 hDf ?_
 have hsz:=fdsSize_le (l.take i) (fun f hf=>hb f (List.mem_of_mem_take hf))
 have hti:(l.take i).length≤2000000:=by simp; omega
 simp -implicitDefEqProofs (disch:=omega) only [push_cast,simprocAttr,h0,h3,h4,hS,↓gd]
 refine ⟨fun h=>?_,fun h=>fin0 ?_⟩
 ·have hil:i < l.length:=by omega
  have hfb:=hb _ (getD_fd_mem hil)
  have hat:=fcs_at hil Y
  generalize hg:l.getD i fd0=g at hat hfb
  have hfl:=fcs_len l
  refine ⟨by omega,by omega,by omega,((l3One_ok g hfb S').as (by rw [hat]; rfl)).to ?_⟩
  have hone:fdSize g≤4000004:=by obtain ⟨a,b⟩:=hfb; unfold fdSize; omega
  simp -implicitDefEqProofs (disch:=omega) only [push_cast,simprocAttr,h0,h3,h4,↓gd]
  refine ⟨l.length - (i+1),by omega,i+1,rfl,by omega,?_,by simp⟩
  rw [take_fd hil,fdsSize_append,hg]
  simp
 ·have:i=l.length:=by omega
  subst this
  rw [List.take_length]
def fitN (l:List Fd) (max:Int):Nat→List Fd
 | 0=>l
 | n+1=>if max < fdsSize l then fitN l.dropLast max n else l
def fitL (l:List Fd) (max:Int):List Fd:=fitN l max l.length
theorem l3Fit_ok (l:List Fd) (max:Int) (hl:FdsB l) (hm:0≤max) (S:List Blk):VCall Tryz.prog 120 [tV l max] S fun r S'=>r=.agg [.rows (some S.length) ((fitL l max).map fV),.int .i64 max]∧S'=S++[.right 3]:=by
 refine VCall.ex hDf (fun _=>false) (fun id=>if id=2 then [1,5,5,5,5] else []) Tryz.func120 Tryz.ntmps120 Tryz.results120 ?_
 obtain ⟨hlen,hb⟩:=hl
 simp -implicitDefEqProofs (disch:=omega) only [push_cast,simprocAttr,↓gd]
 refine ⟨by omega,?_⟩
 refine wpV_loop (fun m t S'=>∃w y:List Fd,m=w.length∧w++y=l∧fitL w max=fitL l max∧t 1=.ptr S.length 0∧t 2=.ptr (S.length+1) 0∧t 3=.heap (S.length+3) w.length∧S'=S++[.cells 0 [.rows none (l.map fV),.int .i64 max],.cells 0 [.nils,.int .i64 0],.dead,.cells 3 (fcs w++fcs y)]) l.length ⟨l,[],rfl,by simp,rfl,rfl,rfl,rfl,by rw [fcs_of]; simp [fcs]⟩ ?_
 rintro m t S' ⟨w,y,rfl,hwy,hfit,h1,h2,h3,rfl⟩
 have hww:FdsB w:=⟨by have:=congrArg List.length hwy; simp at this; omega,fun f hf=>hb f (by rw [←hwy]; simp [hf])⟩
 have hwl:=hww.1
 refine wpV_of hDf (fun _=>false) (fun id=>if id=2 then [1,5,5,5,5] else []) (by kernel_rfl) ?_
 simp -implicitDefEqProofs (disch:=omega) only [push_cast,simprocAttr,h1,h2,h3,↓gd]
 refine (l3SizeH_ok w hww (S.length+3) (fcs y) _ (by simp)).to ?_
 simp -implicitDefEqProofs (disch:=omega) only [push_cast,simprocAttr,h1,h2,h3,↓gd]
 refine ⟨fun h=>?_,fun h=>?_⟩
 ·have hne:w≠[]:=fun e=>by subst e; simp [fdsSize] at h; omega
  have hpos:0 < w.length:=List.length_pos_iff.2 hne
  have hdl:w.dropLast++[w.getLast hne]=w:=List.dropLast_concat_getLast hne
  have hwy2:w.dropLast++(w.getLast hne :: y)=l:=by rw [←hwy]; conv=>{ rhs; rw [←hdl] }; rw [List.append_assoc]; rfl
  refine ⟨by omega,by omega,w.length - 1,by omega,w.dropLast,w.getLast hne :: y,by simp,hwy2,?_,?_,?_⟩
  ·rw [←hfit]
   unfold fitL
   obtain ⟨n,hn⟩:∃n,w.length=n+1:=⟨w.length - 1,by omega⟩
   rw [hn,List.length_dropLast,hn,Nat.add_sub_cancel]
   rw [fitN,if_pos (by omega)]
  ·simp
  ·conv=>{ rhs; rw [show w.getLast hne :: y=[w.getLast hne]++y from rfl,fcs_app,←List.append_assoc,←fcs_app,hdl] }
 ·have e:fitL l max=w:=by
   rw [←hfit]
   unfold fitL
   cases hn:w.length with
   | zero=>rfl
   | succ n=>rw [fitN,if_neg (by omega)]
  rw [e]
  exact fit_end w max S [_,_,_] (fcs y)
theorem fitN_sub (l:List Fd) (max:Int) (n:Nat):(∀f ∈ fitN l max n,f ∈ l)∧(fitN l max n).length≤l.length:=by
 induction n generalizing l with
 | zero=>exact ⟨fun f h=>h,Nat.le_refl _⟩
 | succ n ih =>
  rw [fitN]
  split
  ·obtain ⟨h1,h2⟩:=ih l.dropLast
   exact ⟨fun f h=>List.dropLast_subset _ (h1 f h),by simp at h2; omega⟩
  ·exact ⟨fun f h=>h,Nat.le_refl _⟩
theorem fitL_sub (l:List Fd) (max:Int):(∀f ∈ fitL l max,f ∈ l)∧(fitL l max).length≤l.length:=fitN_sub _ _ _
theorem FdsB.fit {l:List Fd} (h:FdsB l) (max:Int):FdsB (fitL l max):=by
 obtain ⟨h1,h2⟩:=fitL_sub l max
 exact ⟨Nat.le_trans h2 h.1,fun f hf=>h.2 f (h1 f hf)⟩
theorem fit_step {w:List Fd} {max:Int} (hm:0≤max) (h:max < fdsSize w):w≠[]∧fitL w.dropLast max=fitL w max:=by
 have hne:w≠[]:=fun e=>by subst e; simp [fdsSize] at h; omega
 refine ⟨hne,?_⟩
 have hpos:0 < w.length:=List.length_pos_iff.2 hne
 unfold fitL
 obtain ⟨n,hn⟩:∃n,w.length=n+1:=⟨w.length - 1,by omega⟩
 rw [hn,List.length_dropLast,hn,Nat.add_sub_cancel]
 rw [fitN,if_pos h]
theorem fit_done {w:List Fd} {max:Int} (h:¬max < fdsSize w):fitL w max=w:=by
 unfold fitL
 cases hn:w.length with
 | zero=>rfl
 | succ n=>rw [fitN,if_neg h]
theorem fit_ok (l:List Fd) (max:Int) (hl:FdsB l) (hm:0≤max) (S:List Blk):VCall Tryz.prog 107 [tV l max] S fun r S'=>r=tV (fitL l max) max∧S'=S:=by
 obtain ⟨hlen,hb⟩:=hl
 refine VCall.ex hD (fun _=>false) (fun id=>if id=2 then [1,5,5,5,5] else []) Tryz.func107 Tryz.ntmps107 Tryz.results107 ?_
 simp -implicitDefEqProofs (disch:=omega) only [push_cast,simprocAttr,↓gd]
 refine (clone_ok l max (by omega) _).to ?_
 simp -implicitDefEqProofs (disch:=omega) only [push_cast,simprocAttr,↓gd]
 refine wpV_loop (fun m t S'=>∃w y:List Fd,m=w.length∧w++y=l∧fitL w max=fitL l max∧t 2=.ptr (S.length+1) 0∧t 3=.ptr (S.length+2) 0∧S'=S++[.cells 0 [.rows none (l.map fV),.int .i64 max],.cells 0 [.nils,.int .i64 0],.cells 0 [.rows none (w.map fV),.int .i64 max]]) l.length ⟨l,[],rfl,by simp,rfl,rfl,rfl,by simp⟩ ?_
 rintro m t S' ⟨w,y,rfl,hwy,hfit,h2,h3,rfl⟩
 have hww:FdsB w:=⟨by have:=congrArg List.length hwy; simp at this; omega,fun f hf=>hb f (by rw [←hwy]; simp [hf])⟩
 have hwl:=hww.1
 refine wpV_of hD (fun _=>false) (fun id=>if id=2 then [1,5,5,5,5] else []) (by kernel_rfl) ?_
 simp -implicitDefEqProofs (disch:=omega) only [push_cast,simprocAttr,h2,h3,↓gd]
 refine (size_ok w max hww _).to ?_
 simp -implicitDefEqProofs (disch:=omega) only [push_cast,simprocAttr,h2,h3,↓gd]
 refine ⟨fun h=>?_,fun h=>?_⟩
 ·obtain ⟨hne,hst⟩:=fit_step hm h
  have hpos:0 < w.length:=List.length_pos_iff.2 hne
  have hdl:w.dropLast++[w.getLast hne]=w:=List.dropLast_concat_getLast hne
  have hwy2:w.dropLast++(w.getLast hne :: y)=l:=by rw [←hwy]; conv=>{ rhs; rw [←hdl] }; rw [List.append_assoc]; rfl
  refine ⟨by omega,by omega,w.length - 1,by omega,w.dropLast,w.getLast hne :: y,by simp,hwy2,hst.trans hfit,?_⟩
  rw [←List.map_take,show ((w.length:Int) - 1).toNat=w.length - 1 by omega,List.dropLast_eq_take]
 ·refine (clone_ok w max (by omega) _).to ?_
  simp -implicitDefEqProofs (disch:=omega) only [push_cast,simprocAttr,h2,h3,↓gd]
  refine fin1 (cl_tab _ _ _) ?_
  rw [←hfit,fit_done h]
theorem l3Add_ok (l:List Fd) (max:Int) (f:Fd) (hl:FdsB l) (hf:FdB f) (hl1:l.length≤1000000) (hm:0≤max) (S:List Blk):VCall Tryz.prog 112 [tV l max,fV f] S fun r S'=>r=.agg [.rows (some S.length) ((fitL (⟨f.name,f.val,false⟩ :: l) max).map fV),.int .i64 max]∧S'=S++[.right 3]:=by
 have hb:FdsB (⟨f.name,f.val,false⟩ :: l):=⟨by simp; omega,fun g hg=>by
  rcases List.mem_cons.1 hg with rfl | hg
  ·exact hf
  ·exact hl.2 g hg⟩
 refine VCall.ex hD (fun _=>false) (fun id=>if id=2 then [1,4,4,4,8,8,8,8,9,10] else []) Tryz.func112 Tryz.ntmps112 Tryz.results112 ?_
 simp -implicitDefEqProofs (disch:=omega) only [push_cast,simprocAttr,↓gd]
 refine ⟨by omega,((l3Fit_ok (⟨f.name,f.val,false⟩ :: l) max hb hm _).as rfl).to ?_⟩
 simp -implicitDefEqProofs (disch:=omega) only [push_cast,simprocAttr,↓gd]
 exact keep_tab _ max S [_,_,_,_,_]
theorem add_ok' (l:List Fd) (max:Int) (f:Fd) (hl:FdsB l) (hf:FdB f) (hl1:l.length≤1000000) (hm:0≤max) (S:List Blk):VCall Tryz.prog 94 [tV l max,fV f] S fun r S'=>r=tV (fitL (f :: l) max) max∧S'=S:=by
 have hb:FdsB (f :: l):=⟨by simp; omega,fun g hg=>by
  rcases List.mem_cons.1 hg with rfl | hg
  ·exact hf
  ·exact hl.2 g hg⟩
 refine VCall.ex hD (fun _=>false) (fun id=>if id=1 then [1,4,4,4,5,9,9,9,9,10,11] else []) Tryz.func94 Tryz.ntmps94 Tryz.results94 ?_
 simp -implicitDefEqProofs (disch:=omega) only [push_cast,simprocAttr,↓gd]
 refine ((Concat_ok [f] l (by simp) (by omega) (by simp) _).as rfl).to ?_
 simp -implicitDefEqProofs (disch:=omega) only [push_cast,simprocAttr,↓gd]
 refine ((fit_ok (f :: l) max hb hm _).as rfl).to ?_
 simp -implicitDefEqProofs (disch:=omega) only [push_cast,simprocAttr,↓gd]
 exact fin1 (cl_tab _ _ _) rfl
end
end Go.Proofs.YtldogccmhncnoaaGreat
