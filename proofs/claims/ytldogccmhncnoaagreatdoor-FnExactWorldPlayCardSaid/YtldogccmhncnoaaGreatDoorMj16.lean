/- A part of the proof: contracts of functions, or plain facts on which these lean. -/
import Derived.Test.YtldogccmhncnoaaGreatDoorMj13
import Derived.Test.YtldogccmhncnoaaGreatDoorMj14
import Derived.Test.YtldogccmhncnoaaGreatDoorMj15
namespace Go.Proofs.YtldogccmhncnoaaGreatDoor
open Go
set_option linter.unusedVariables false
set_option linter.unusedSimpArgs false
set_option maxRecDepth 100000
set_option maxHeartbeats 16000000

section
open Go
theorem hDf:TypesOk Tryz.prog (wrOf D [143]):=wrOk hD _
def fcs (l:List Fd):List V:=l.flatMap fun f=>[.str f.name,.str f.val,.bool f.never]
theorem fcs_len (l:List Fd):(fcs l).length=l.length * 3:=by
 induction l with
 | nil=>rfl
 | cons a l ih=>simp only [fcs,List.flatMap_cons,List.length_append,List.length_cons] at ih ⊢; simp only [List.length_nil] at ih ⊢; omega
theorem fcs_app (l k:List Fd):fcs (l++k)=fcs l++fcs k:=by simp [fcs]
theorem fcs_at {l:List Fd} {i:Nat} (h:i < l.length) (Y:List V):((fcs l++Y).drop (i * 3)).take 3=[.str (l.getD i fd0).name,.str (l.getD i fd0).val,.bool (l.getD i fd0).never]:=by
 obtain ⟨a,b,hab,ha⟩:∃a b,l=a++l.getD i fd0 :: b∧a.length=i:=⟨l.take i,l.drop (i+1),by rw [←drop_fd h,List.take_append_drop],by simp; omega⟩
 have e:fcs l=fcs a++([V.str (l.getD i fd0).name,V.str (l.getD i fd0).val,V.bool (l.getD i fd0).never]++fcs b):=by
  conv=>lhs; rw [hab]
  rw [fcs_app]; rfl
 rw [e,←ha,←fcs_len,List.append_assoc,List.drop_left]
 rfl
theorem fcs_of (l:List Fd):List.map eraseC (List.flatMap V.cells (List.map fV l))=fcs l:=by
 induction l with
 | nil=>rfl
 | cons a l ih=>simp only [List.map_cons,List.flatMap_cons,List.map_append,ih]; rfl
theorem keep_tab (w:List Fd) (max:Int) (S A:List Blk):∃r S2,Wk S (.agg [.rows (some (S.length+A.length)) (w.map fV),.int .i64 max]) (S++(A++[.right 3])) r S2∧r=.agg [.rows (some S.length) (w.map fV),.int .i64 max]∧S2=S++[.right 3]:=by
 refine ⟨_,_,Wk.keep (fun j=>if j < S.length then j else S.length+A.length) (by simp) (fun j hj=>if_pos hj) ?_ (r':=.agg [.rows (some S.length) (w.map fV),.int .i64 max]) ?_ ?_ ?_,rfl,rfl⟩
 ·intro i j hi hj he
  simp only [List.length_append,List.length_cons,List.length_nil] at hi hj
  by_cases h:i < S.length <;> by_cases h':j < S.length <;> simp [h,h'] at he <;> omega
 ·simp [renT,ren1,renC]
 ·intro u hu
  simp only [V.cells,List.mem_cons,List.not_mem_nil,or_false] at hu
  rcases hu with rfl | rfl
  ·refine .rows (fun τ hτ=>by cases hτ; simp) (fun v hv=>?_)
   obtain ⟨x,hx,hvx⟩:=List.mem_flatMap.1 hv
   obtain ⟨f,_,rfl⟩:=List.mem_map.1 hx
   simp only [fV,V.cells,List.mem_cons,List.not_mem_nil,or_false] at hvx
   rcases hvx with rfl | rfl | rfl
   ·exact .str _
   ·exact .str _
   ·exact .bool _
  ·exact .cl (.int _ _)
 ·intro j B' hj
  rcases Nat.lt_or_ge j S.length with g | g
  ·rw [List.getElem?_append_left g] at hj
   refine .inl ⟨g,hj,?_⟩
   rw [List.getElem?_append_left g]
   exact hj
  ·have:j=S.length:=by
    rcases Nat.lt_or_ge j (S.length+1) with q | q
    ·omega
    ·rw [List.getElem?_eq_none (by simpa using q)] at hj; cases hj
   subst this
   rw [List.getElem?_append_right (Nat.le_refl _),Nat.sub_self] at hj
   cases hj
   refine .inr ⟨.right 3,?_,.right⟩
   simp only [Nat.lt_irrefl,if_false]
   rw [List.getElem?_append_right (by omega),List.getElem?_append_right (by omega)]
   rw [show S.length+A.length - S.length - A.length=0 by omega]
   rfl
theorem fit_end (w:List Fd) (max:Int) (S A:List Blk) (Y:List V):∃r S2,Wk S (.agg [.heap (S.length+A.length) w.length,.int .i64 max]) (S++(A++[.cells 3 (fcs w++Y)])) r S2∧r=.agg [.rows (some S.length) (w.map fV),.int .i64 max]∧S2=S++[.right 3]:=by
 have hfl:=fcs_len w
 have h1:=Wk.freeze (S0:=S) (S:=S++(A++[.cells 3 (fcs w++Y)])) (r:=.agg [.heap (S.length+A.length) w.length,.int .i64 max]) (b:=S.length+A.length) (m:=w.length) (sz:=3) (cs:=fcs w++Y) (w.map fV) (by decide)
  (by rw [List.getElem?_append_right (by omega),List.getElem?_append_right (by omega)]; simp) (by simp; omega) (by simp) (by
   rw [←hfl,List.take_left]
   induction w with
   | nil=>rfl
   | cons a l ih=>simp only [List.map_cons,List.flatMap_cons,ih (fcs_len l)]; rfl)
 simp only [fr1,frC,List.map_cons,List.map_nil,and_self,if_true] at h1
 obtain ⟨r,S2,h2,h3⟩:=keep_tab w max S (A++[.dead])
 refine ⟨r,S2,h1.trans ?_,h3⟩
 have e1:(S++(A++[Blk.cells 3 (fcs w++Y)])).length=S.length+(A++[Blk.dead]).length:=by simp
 have e2:(S++(A++[Blk.cells 3 (fcs w++Y)])).set (S.length+A.length) Blk.dead++[Blk.right 3]=S++(A++[Blk.dead]++[.right 3]):=by
  rw [List.set_append_right _ _ (by omega),Nat.add_sub_cancel_left,List.set_append_right _ _ (by omega),Nat.sub_self]; simp
 rw [e1,e2]
 exact h2
theorem l3SizeH_ok (l:List Fd) (hl:FdsB l) (b:Nat) (Y:List V) (S:List Blk) (hS:S[b]?=some (.cells 3 (fcs l++Y))):VCall Tryz.prog 115 [.heap b l.length] S fun r S'=>r=.int .i64 (fdsSize l)∧S'=S:=by
 obtain ⟨hlen,hb⟩:=hl
 refine VCall.en hDf Tryz.func115 Tryz.ntmps115 Tryz.results115 ?_
 simp -implicitDefEqProofs (disch:=omega) only [push_cast,simprocAttr,↓gd]
 refine wpV_loop (fun m t S'=>∃i:Nat,m=l.length - i∧i≤l.length∧t 0=.heap b l.length∧t 3=.int .i64 (fdsSize (l.take i))∧t 4=.int .i64 i∧S'=S) l.length ⟨0,by omega,by omega,rfl,rfl,rfl,rfl⟩ ?_
 rintro m t S' ⟨i,rfl,hi,h0,h3,h4,rfl⟩
 refine wpV_of0 hDf ?_
 have hsz:=fdsSize_le (l.take i) (fun f hf=>hb f (List.mem_of_mem_take hf))
 have hti:(l.take i).length≤2000000:=by simp; omega
 simp -implicitDefEqProofs (disch:=omega) only [push_cast,simprocAttr,h0,h3,h4,hS,↓gd]
 refine ⟨fun h=>?_,fun h=>fin0 ?_⟩
 ·have hil:i < l.length:=by omega
  have hfb:=hb _ (getD_fd_mem hil)
  have hat:=fcs_at hil Y
  generalize hg:l.getD i fd0=g at hat hfb
  have hfl:=fcs_len l
  refine ⟨by omega,by omega,by omega,((l3One_ok g hfb S').as (by rw [hat]; rfl)).to ?_⟩
  have hone:fdSize g≤4000004:=by obtain ⟨a,b⟩:=hfb; unfold fdSize; omega
  simp -implicitDefEqProofs (disch:=omega) only [push_cast,simprocAttr,h0,h3,h4,↓gd]
  refine ⟨l.length - (i+1),by omega,i+1,rfl,by omega,?_,by simp⟩
  rw [take_fd hil,fdsSize_append,hg]
  simp
 ·have:i=l.length:=by omega
  subst this
  rw [List.take_length]
def fitN (l:List Fd) (max:Int):Nat→List Fd
 | 0=>l
 | n+1=>if max < fdsSize l then fitN l.dropLast max n else l
def fitL (l:List Fd) (max:Int):List Fd:=fitN l max l.length
theorem l3Fit_ok (l:List Fd) (max:Int) (hl:FdsB l) (hm:0≤max) (S:List Blk):VCall Tryz.prog 198 [tV l max] S fun r S'=>r=.agg [.rows (some S.length) ((fitL l max).map fV),.int .i64 max]∧S'=S++[.right 3]:=by
 refine VCall.ex hDf (fun _=>false) (fun id=>if id=2 then [1,5,5,5,5] else []) Tryz.func198 Tryz.ntmps198 Tryz.results198 ?_
 obtain ⟨hlen,hb⟩:=hl
 simp -implicitDefEqProofs (disch:=omega) only [push_cast,simprocAttr,↓gd]
 refine ⟨by omega,?_⟩
 refine wpV_loop (fun m t S'=>∃w y:List Fd,m=w.length∧w++y=l∧fitL w max=fitL l max∧t 1=.ptr S.length 0∧t 2=.ptr (S.length+1) 0∧t 3=.heap (S.length+3) w.length∧S'=S++[.cells 0 [.rows none (l.map fV),.int .i64 max],.cells 0 [.nils,.int .i64 0],.dead,.cells 3 (fcs w++fcs y)]) l.length ⟨l,[],rfl,by simp,rfl,rfl,rfl,rfl,by rw [fcs_of]; simp [fcs]⟩ ?_
 rintro m t S' ⟨w,y,rfl,hwy,hfit,h1,h2,h3,rfl⟩
 have hww:FdsB w:=⟨by have:=congrArg List.length hwy; simp at this; omega,fun f hf=>hb f (by rw [←hwy]; simp [hf])⟩
 have hwl:=hww.1
 refine wpV_of hDf (fun _=>false) (fun id=>if id=2 then [1,5,5,5,5] else []) (by kernel_rfl) ?_
 simp -implicitDefEqProofs (disch:=omega) only [push_cast,simprocAttr,h1,h2,h3,↓gd]
 refine (l3SizeH_ok w hww (S.length+3) (fcs y) _ (by simp)).to ?_
 simp -implicitDefEqProofs (disch:=omega) only [push_cast,simprocAttr,h1,h2,h3,↓gd]
 refine ⟨fun h=>?_,fun h=>?_⟩
 ·have hne:w≠[]:=fun e=>by subst e; simp [fdsSize] at h; omega
  have hpos:0 < w.length:=List.length_pos_iff.2 hne
  have hdl:w.dropLast++[w.getLast hne]=w:=List.dropLast_concat_getLast hne
  have hwy2:w.dropLast++(w.getLast hne :: y)=l:=by rw [←hwy]; conv=>{ rhs; rw [←hdl] }; rw [List.append_assoc]; rfl
  refine ⟨by omega,by omega,w.length - 1,by omega,w.dropLast,w.getLast hne :: y,by simp,hwy2,?_,?_,?_⟩
  ·rw [←hfit]
   unfold fitL
   obtain ⟨n,hn⟩:∃n,w.length=n+1:=⟨w.length - 1,by omega⟩
   rw [hn,List.length_dropLast,hn,Nat.add_sub_cancel]
   rw [fitN,if_pos (by omega)]
  ·simp
  ·conv=>{ rhs; rw [show w.getLast hne :: y=[w.getLast hne]++y from rfl,fcs_app,←List.append_assoc,←fcs_app,hdl] }
 ·have e:fitL l max=w:=by
   rw [←hfit]
   unfold fitL
   cases hn:w.length with
   | zero=>rfl
   | succ n=>rw [fitN,if_neg (by omega)]
  rw [e]
  exact fit_end w max S [_,_,_] (fcs y)
theorem fitN_sub (l:List Fd) (max:Int) (n:Nat):(∀f ∈ fitN l max n,f ∈ l)∧(fitN l max n).length≤l.length:=by
 induction n generalizing l with
 | zero=>exact ⟨fun f h=>h,Nat.le_refl _⟩
 | succ n ih =>
  rw [fitN]
  split
  ·obtain ⟨h1,h2⟩:=ih l.dropLast
   exact ⟨fun f h=>List.dropLast_subset _ (h1 f h),by simp at h2; omega⟩
  ·exact ⟨fun f h=>h,Nat.le_refl _⟩
theorem fitL_sub (l:List Fd) (max:Int):(∀f ∈ fitL l max,f ∈ l)∧(fitL l max).length≤l.length:=fitN_sub _ _ _
theorem FdsB.fit {l:List Fd} (h:FdsB l) (max:Int):FdsB (fitL l max):=by
 obtain ⟨h1,h2⟩:=fitL_sub l max
 exact ⟨Nat.le_trans h2 h.1,fun f hf=>h.2 f (h1 f hf)⟩
theorem fit_step {w:List Fd} {max:Int} (hm:0≤max) (h:max < fdsSize w):w≠[]∧fitL w.dropLast max=fitL w max:=by
 have hne:w≠[]:=fun e=>by subst e; simp [fdsSize] at h; omega
 refine ⟨hne,?_⟩
 have hpos:0 < w.length:=List.length_pos_iff.2 hne
 unfold fitL
 obtain ⟨n,hn⟩:∃n,w.length=n+1:=⟨w.length - 1,by omega⟩
 rw [hn,List.length_dropLast,hn,Nat.add_sub_cancel]
 rw [fitN,if_pos h]
theorem fit_done {w:List Fd} {max:Int} (h:¬max < fdsSize w):fitL w max=w:=by
 unfold fitL
 cases hn:w.length with
 | zero=>rfl
 | succ n=>rw [fitN,if_neg h]
theorem fit_ok (l:List Fd) (max:Int) (hl:FdsB l) (hm:0≤max) (S:List Blk):VCall Tryz.prog 167 [tV l max] S fun r S'=>r=tV (fitL l max) max∧S'=S:=by
 obtain ⟨hlen,hb⟩:=hl
 refine VCall.ex hD (fun _=>false) (fun id=>if id=2 then [1,5,5,5,5] else []) Tryz.func167 Tryz.ntmps167 Tryz.results167 ?_
 simp -implicitDefEqProofs (disch:=omega) only [push_cast,simprocAttr,↓gd]
 refine (clone_ok l max (by omega) _).to ?_
 simp -implicitDefEqProofs (disch:=omega) only [push_cast,simprocAttr,↓gd]
 refine wpV_loop (fun m t S'=>∃w y:List Fd,m=w.length∧w++y=l∧fitL w max=fitL l max∧t 2=.ptr (S.length+1) 0∧t 3=.ptr (S.length+2) 0∧S'=S++[.cells 0 [.rows none (l.map fV),.int .i64 max],.cells 0 [.nils,.int .i64 0],.cells 0 [.rows none (w.map fV),.int .i64 max]]) l.length ⟨l,[],rfl,by simp,rfl,rfl,rfl,by simp⟩ ?_
 rintro m t S' ⟨w,y,rfl,hwy,hfit,h2,h3,rfl⟩
 have hww:FdsB w:=⟨by have:=congrArg List.length hwy; simp at this; omega,fun f hf=>hb f (by rw [←hwy]; simp [hf])⟩
 have hwl:=hww.1
 refine wpV_of hD (fun _=>false) (fun id=>if id=2 then [1,5,5,5,5] else []) (by kernel_rfl) ?_
 simp -implicitDefEqProofs (disch:=omega) only [push_cast,simprocAttr,h2,h3,↓gd]
 refine (size_ok w max hww _).to ?_
 simp -implicitDefEqProofs (disch:=omega) only [push_cast,simprocAttr,h2,h3,↓gd]
 refine ⟨fun h=>?_,fun h=>?_⟩
 ·obtain ⟨hne,hst⟩:=fit_step hm h
  have hpos:0 < w.length:=List.length_pos_iff.2 hne
  have hdl:w.dropLast++[w.getLast hne]=w:=List.dropLast_concat_getLast hne
  have hwy2:w.dropLast++(w.getLast hne :: y)=l:=by rw [←hwy]; conv=>{ rhs; rw [←hdl] }; rw [List.append_assoc]; rfl
  refine ⟨by omega,by omega,w.length - 1,by omega,w.dropLast,w.getLast hne :: y,by simp,hwy2,hst.trans hfit,?_⟩
  rw [←List.map_take,show ((w.length:Int) - 1).toNat=w.length - 1 by omega,List.dropLast_eq_take]
 ·refine (clone_ok w max (by omega) _).to ?_
  simp -implicitDefEqProofs (disch:=omega) only [push_cast,simprocAttr,h2,h3,↓gd]
  refine fin1 (cl_tab _ _ _) ?_
  rw [←hfit,fit_done h]
theorem l3Add_ok (l:List Fd) (max:Int) (f:Fd) (hl:FdsB l) (hf:FdB f) (hl1:l.length≤1000000) (hm:0≤max) (S:List Blk):VCall Tryz.prog 176 [tV l max,fV f] S fun r S'=>r=.agg [.rows (some S.length) ((fitL (⟨f.name,f.val,false⟩ :: l) max).map fV),.int .i64 max]∧S'=S++[.right 3]:=by
 have hb:FdsB (⟨f.name,f.val,false⟩ :: l):=⟨by simp; omega,fun g hg=>by
  rcases List.mem_cons.1 hg with rfl | hg
  ·exact hf
  ·exact hl.2 g hg⟩
 refine VCall.ex hD (fun _=>false) (fun id=>if id=2 then [1,4,4,4,8,8,8,8,9,10] else []) Tryz.func176 Tryz.ntmps176 Tryz.results176 ?_
 simp -implicitDefEqProofs (disch:=omega) only [push_cast,simprocAttr,↓gd]
 refine ⟨by omega,((l3Fit_ok (⟨f.name,f.val,false⟩ :: l) max hb hm _).as rfl).to ?_⟩
 simp -implicitDefEqProofs (disch:=omega) only [push_cast,simprocAttr,↓gd]
 exact keep_tab _ max S [_,_,_,_,_]
theorem add_ok' (l:List Fd) (max:Int) (f:Fd) (hl:FdsB l) (hf:FdB f) (hl1:l.length≤1000000) (hm:0≤max) (S:List Blk):VCall Tryz.prog 150 [tV l max,fV f] S fun r S'=>r=tV (fitL (f :: l) max) max∧S'=S:=by
 have hb:FdsB (f :: l):=⟨by simp; omega,fun g hg=>by
  rcases List.mem_cons.1 hg with rfl | hg
  ·exact hf
  ·exact hl.2 g hg⟩
 refine VCall.ex hD (fun _=>false) (fun id=>if id=1 then [1,4,4,4,5,9,9,9,9,10,11] else []) Tryz.func150 Tryz.ntmps150 Tryz.results150 ?_
 simp -implicitDefEqProofs (disch:=omega) only [push_cast,simprocAttr,↓gd]
 refine ((Concat_ok [f] l (by simp) (by omega) (by simp) _).as rfl).to ?_
 simp -implicitDefEqProofs (disch:=omega) only [push_cast,simprocAttr,↓gd]
 refine ((fit_ok (f :: l) max hb hm _).as rfl).to ?_
 simp -implicitDefEqProofs (disch:=omega) only [push_cast,simprocAttr,↓gd]
 exact fin1 (cl_tab _ _ _) rfl
end
section
open Go
theorem wordW_len (w:List UInt8):(wordW w).length≤2 * w.length+2:=by
 unfold wordW
 split
 ·have:=numW_len (pack w).length 7 1; simp only [List.length_append]; omega
 ·have:=numW_len w.length 7 0; simp only [List.length_append]; omega
def nameW (place bits:Nat) (f:Fd):List UInt8:=numW place bits 1++(if place=0 then wordW f.name else [])
theorem fieldOk_parts {f:Fd} (h:fieldOk f=true):wordOk f.name=true∧wordOk f.val=true∧f.name≠[]∧f.name.length≤16∧f.val.length≤16:=by
 simp only [fieldOk,Bool.and_eq_true,decide_eq_true_eq] at h
 obtain ⟨⟨h1,h2⟩,h3⟩:=h
 exact ⟨h1,h2,h3,(wordOk_signs h1).2,(wordOk_signs h2).2⟩
theorem nameW_len {f:Fd} (h:fieldOk f=true) (place bits:Nat):(nameW place bits f).length≤place+40:=by
 obtain ⟨_,_,_,h1,_⟩:=fieldOk_parts h
 have h2:=wordW_len f.name
 have h3:=numW_len place bits 1
 unfold nameW
 rw [List.length_append]
 split
 ·omega
 ·simp only [List.length_nil]; omega
theorem l11Name_ok (place bits:Nat) (f:Fd) (hf:fieldOk f=true) (hp:place≤9999) (hb:bits≤8) (S:List Blk) :
  VCall Tryz.prog 192 [.int .i64 place,.int .i64 bits,.int .i64 1,fV f] S fun r S'=>r=.str (nameW place bits f)∧S'=S:=by
 obtain ⟨h1,h2,h3,h4,h5⟩:=fieldOk_parts hf
 refine VCall.ex hD (fun _=>false) (fun id=>if id=3 then [2,2,5,5,5,8,8,8] else []) Tryz.func192 Tryz.ntmps192 Tryz.results192 ?_
 simp -implicitDefEqProofs (disch:=omega) only [push_cast,simprocAttr,↓gd]
 refine ⟨fun h=>?_,fun h=>?_⟩
 ·refine ((l1Write_ok place bits 1 (by omega) hb (by omega) _).as (by simp)).to ?_
  simp -implicitDefEqProofs (disch:=omega) only [push_cast,simprocAttr,↓gd]
  exact fin1 (.str _) (by rw [nameW,if_neg (by omega)]; simp)
 ·have:place=0:=by omega
  subst this
  refine ((l1Write_ok 0 bits 1 (by omega) hb (by omega) _).as (by simp)).to ?_
  simp -implicitDefEqProofs (disch:=omega) only [push_cast,simprocAttr,↓gd]
  refine (l2Write_ok f.name (by omega) (wordOk_signs h1).1 _).to ?_
  have e1:=wordW_len f.name
  have e2:=numW_len 0 bits 1
  simp -implicitDefEqProofs (disch:=omega) only [push_cast,simprocAttr,↓gd]
  refine ⟨by omega,fin1 (.str _) ?_⟩
  rw [nameW,if_pos rfl]
theorem named_ok (place bits:Nat) (f:Fd) (hf:fieldOk f=true) (hp:place≤9999) (hb:3≤bits∧bits≤7) (S:List Blk) :
  VCall Tryz.prog 190 [fV f,.int .i64 place,.int .i64 bits] S fun r S'=>r=.str (nameW place bits f++wordW f.val)∧S'=S:=by
 obtain ⟨h1,h2,h3,h4,h5⟩:=fieldOk_parts hf
 have h28:1 < 2 ^ (8 - bits):=Nat.one_lt_two_pow (by omega)
 have e1:=wordW_len f.name
 have e2:=numW_len place bits 1
 have e3:=wordW_len f.val
 refine VCall.en hD Tryz.func190 Tryz.ntmps190 Tryz.results190 ?_
 simp -implicitDefEqProofs (disch:=omega) only [push_cast,simprocAttr,↓gd]
 refine ((NumWrite_ok place bits 1 (by omega) hb (by omega) _).as (by simp)).to ?_
 rw [if_pos ⟨by omega,by omega,h28⟩,Int.toNat_natCast]
 simp -implicitDefEqProofs (disch:=omega) only [push_cast,simprocAttr,↓gd]
 refine ⟨fun h=>?_,fun h=>?_⟩
 ·have:place=0:=by omega
  subst this
  refine (WordWrite_ok f.name (by omega) _).to ?_
  rw [if_pos h1]
  simp -implicitDefEqProofs (disch:=omega) only [push_cast,simprocAttr,↓gd]
  refine ⟨by omega,(WordWrite_ok f.val (by omega) _).to ?_⟩
  rw [if_pos h2]
  simp -implicitDefEqProofs (disch:=omega) only [push_cast,simprocAttr,↓gd]
  refine ⟨by omega,fin1 (.str _) ?_⟩
  rw [nameW,if_pos rfl,List.append_assoc]
 ·refine (WordWrite_ok f.val (by omega) _).to ?_
  rw [if_pos h2]
  simp -implicitDefEqProofs (disch:=omega) only [push_cast,simprocAttr,↓gd]
  refine ⟨by omega,fin1 (.str _) ?_⟩
  rw [nameW,if_neg (by omega)]; simp
def fieldW (l:List Fd) (f:Fd):List UInt8 :=
 if f.never then nameW (placeOf l f) 4 f++wordW f.val else if foundIn l f then numW (placeOf l f) 7 1 else nameW (placeOf l f) 6 f++wordW f.val
def tabW (l:List Fd) (max:Int) (f:Fd):List Fd:=if f.never then l else if foundIn l f then l else fitL (f :: l) max
theorem placeOf_le (l:List Fd) (f:Fd):placeOf l f≤l.length+7:=by
 have h1:(fixedFds++l).findIdx (bothP f)≤(fixedFds++l).length:=List.findIdx_le_length
 have h2:(fixedFds++l).findIdx (nameP f)≤(fixedFds++l).length:=List.findIdx_le_length
 have h3:(fixedFds++l).length=l.length+6:=by simp [fixedFds]
 unfold placeOf
 split
 ·omega
 ·split <;> omega
theorem fieldW_len {f:Fd} (h:fieldOk f=true) (l:List Fd):(fieldW l f).length≤l.length+100:=by
 obtain ⟨_,_,_,h4,h5⟩:=fieldOk_parts h
 have h1:=placeOf_le l f
 have h2:=nameW_len h (placeOf l f) 4
 have h3:=nameW_len h (placeOf l f) 6
 have h6:=wordW_len f.val
 have h7:=numW_len (placeOf l f) 7 1
 unfold fieldW
 split
 ·rw [List.length_append]; omega
 ·split
  ·omega
  ·rw [List.length_append]; omega
theorem l11Write_ok (l:List Fd) (max:Int) (f:Fd) (hf:fieldOk f=true) (hl:FdsB l) (hl1:l.length≤1000) (hm:0≤max) (S:List Blk) :
  VCall Tryz.prog 172 [tV l max,fV f] S fun r S'=>r=.tup [tV (tabW l max f) max,.str (fieldW l f)]∧S'=S:=by
 obtain ⟨h1,h2,h3,h4,h5⟩:=fieldOk_parts hf
 have hfb:FdB f:=⟨by omega,by omega⟩
 have hp:=placeOf_le l f
 have e1:=wordW_len f.val
 have e2:=nameW_len hf (placeOf l f) 4
 have e3:=nameW_len hf (placeOf l f) 6
 refine VCall.ex hD (fun _=>false) (fun id=>if id=3 then [8,3,3,6,6,6,8,10,10,10] else if id=5 then [3,2,3,5,5] else if id=6 then [2,2,5,5,5,8,8,8,10,12,12,12] else []) Tryz.func172 Tryz.ntmps172 Tryz.results172 ?_
 simp -implicitDefEqProofs (disch:=omega) only [push_cast,simprocAttr,↓gd]
 refine (l3Find_ok l max f (by omega) _).to ?_
 cases hn:f.never
 ·have ef:fV f=.agg [.str f.name,.str f.val,.bool false]:=by rw [fV,hn]
  cases hfo:foundIn l f
  ·simp -implicitDefEqProofs (disch:=omega) only [push_cast,simprocAttr,hn,↓gd]
   refine ((l3Add_ok l max f hl hfb (by omega) hm _).as (by rw [ef]; rfl)).to ?_
   simp -implicitDefEqProofs (disch:=omega) only [push_cast,simprocAttr,hn,↓gd]
   refine ((l11Name_ok (placeOf l f) 6 f hf (by omega) (by omega) _).as (by rw [ef]; rfl)).to ?_
   simp -implicitDefEqProofs (disch:=omega) only [push_cast,simprocAttr,hn,↓gd]
   refine (l2Write_ok f.val (by omega) (wordOk_signs h2).1 _).to ?_
   simp -implicitDefEqProofs (disch:=omega) only [push_cast,simprocAttr,hn,↓gd]
   refine ⟨by omega,finE (Cl.two (cl_tab _ _ _) (.str _)) ?_⟩
   have e:(⟨f.name,f.val,false⟩:Fd)=f:=by cases f; cases hn; rfl
   rw [e,fieldW,tabW,hn,hfo]
   rfl
  ·simp -implicitDefEqProofs (disch:=omega) only [push_cast,simprocAttr,hn,↓gd]
   refine ((l1Write_ok (placeOf l f) 7 1 (by omega) (by omega) (by omega) _).as (by simp)).to ?_
   simp -implicitDefEqProofs (disch:=omega) only [push_cast,simprocAttr,hn,↓gd]
   refine fin1 (Cl.two (cl_tab _ _ _) (.str _)) ?_
   rw [fieldW,tabW,hn,hfo]
   rfl
 ·have ef:fV f=.agg [.str f.name,.str f.val,.bool true]:=by rw [fV,hn]
  simp -implicitDefEqProofs (disch:=omega) only [push_cast,simprocAttr,hn,↓gd]
  refine ((l11Name_ok (placeOf l f) 4 f hf (by omega) (by omega) _).as (by rw [ef]; rfl)).to ?_
  simp -implicitDefEqProofs (disch:=omega) only [push_cast,simprocAttr,hn,↓gd]
  refine (l2Write_ok f.val (by omega) (wordOk_signs h2).1 _).to ?_
  simp -implicitDefEqProofs (disch:=omega) only [push_cast,simprocAttr,hn,↓gd]
  refine ⟨by omega,fin1 (Cl.two (cl_tab _ _ _) (.str _)) ?_⟩
  rw [fieldW,tabW,hn]
  rfl
def headW:List Fd→Int→List Fd→List Fd × List UInt8
 | l,_,[]=>(l,[])
 | l,max,f :: h=>((headW (tabW l max f) max h).1,fieldW l f++(headW (tabW l max f) max h).2)
theorem tabW_sub {l:List Fd} {max:Int} {f:Fd} {n:Nat} (hl:FdsB l) (hf:FdB f) (hlen:l.length≤n) (hn:n < 2000000):FdsB (tabW l max f)∧(tabW l max f).length≤n+1:=by
 unfold tabW
 split
 ·exact ⟨hl,by omega⟩
 ·split
  ·exact ⟨hl,by omega⟩
  ·have hb:FdsB (f :: l):=⟨by simp; omega,fun g hg=>by
    rcases List.mem_cons.1 hg with rfl | hg
    ·exact hf
    ·exact hl.2 g hg⟩
   refine ⟨hb.fit max,?_⟩
   have:=(fitL_sub (f :: l) max).2
   simp at this
   omega
theorem l11All_ok (l:List Fd) (max:Int) (h:List Fd) (hh:∀f ∈ h,fieldOk f=true) (hl:FdsB l) (hl1:l.length≤100) (hh6:h.length≤100) (hm:0≤max) (S:List Blk) :
  VCall Tryz.prog 159 [tV l max,.rows none (h.map fV)] S fun r S'=>r=.tup [tV (headW l max h).1 max,.str (headW l max h).2]∧S'=S:=by
 refine VCall.ex hD (fun f=>if f=some 172 then true else false) (fun id=>if id=5 then [10,10,10,10,10,10,10,10,12,10,12,12] else []) Tryz.func159 Tryz.ntmps159 Tryz.results159 ?_
 simp -implicitDefEqProofs (disch:=omega) only [push_cast,simprocAttr,↓gd]
 refine wpV_loop (fun m t S'=>∃(i:Nat) (w:List Fd) (o:List UInt8) (X:List Blk),m=h.length - i∧i≤h.length∧FdsB w∧w.length≤100+i∧o.length≤i * 400∧(headW l max h).1=(headW w max (h.drop i)).1∧(headW l max h).2=o++(headW w max (h.drop i)).2∧t 1=.rows none (h.map fV)∧t 2=.ptr S.length 0∧t 4=.ptr (S.length+1) 0∧t 6=.str o∧t 7=.int .i64 i ∧
   S'=S++([.cells 0 [.rows none (w.map fV),.int .i64 max],.cells 0 [.nils,.int .i64 0]]++X)) h.length ⟨0,l,[],[],by omega,by omega,hl,by omega,by simp,rfl,rfl,rfl,rfl,rfl,rfl,rfl,rfl⟩ ?_
 rintro m t S' ⟨i,w,o,X,rfl,hi,hw,hwl,hol,hd1,hd2,h1,h2,h4,h6,h7,rfl⟩
 refine wpV_of hD (fun f=>if f=some 172 then true else false) (fun id=>if id=5 then [10,10,10,10,10,10,10,10,12,10,12,12] else []) (by kernel_rfl) ?_
 simp -implicitDefEqProofs (disch:=omega) only [push_cast,simprocAttr,h1,h2,h4,h6,h7,↓gd]
 refine ⟨fun hlt=>?_,fun hge=>?_⟩
 ·have hil:i < h.length:=by omega
  have hgd:=getD_fV hil
  have hfo:=hh _ (getD_fd_mem hil)
  generalize hf:h.getD i fd0=f at hgd hfo
  simp -implicitDefEqProofs (disch:=omega) only [push_cast,simprocAttr,h1,h2,h4,h6,h7,hgd,↓gd]
  refine ⟨by omega,by omega,_,fun S0=>(l11Write_ok w max f hfo hw (by omega) hm S0).as rfl,?_⟩
  have hfl:=fieldW_len hfo w
  simp -implicitDefEqProofs (disch:=omega) only [push_cast,simprocAttr,h1,h2,h4,h6,h7,hgd,↓gd]
  obtain ⟨hp1,hp2,hp3,hp4,hp5⟩:=fieldOk_parts hfo
  obtain ⟨ht1,ht2⟩:=tabW_sub (max:=max) hw (f:=f) ⟨by omega,by omega⟩ hwl (by omega)
  refine ⟨by omega,h.length - (i+1),by omega,i+1,tabW w max f,o++fieldW w f,X++[.cells 0 [.rows none ((tabW w max f).map fV),.int .i64 max]],rfl,by omega,ht1,by omega,by simp; omega,?_,?_,rfl,by simp,by simp⟩
  ·rw [hd1,drop_fd hil,hf]; rfl
  ·rw [hd2,drop_fd hil,hf,List.append_assoc]; rfl
 ·have:i=h.length:=by omega
  subst this
  rw [List.drop_length] at hd1 hd2
  refine fin1 (Cl.two (cl_tab _ _ _) (.str _)) ?_
  rw [hd1,hd2]
  simp [headW,tV]
theorem write_ok (l:List Fd) (max:Int) (h:List Fd) (hh:∀f ∈ h,fieldOk f=true) (hl:FdsB l) (hl1:l.length≤100) (hh6:h.length≤100) (hm:0≤max) (S:List Blk) :
  VCall Tryz.prog 171 [tV l max,.rows none (h.map fV)] S fun r S'=>r=.tup [tV (headW l max h).1 max,.str (headW l max h).2]∧S'=S:=by
 refine VCall.en hD Tryz.func171 Tryz.ntmps171 Tryz.results171 ?_
 simp -implicitDefEqProofs (disch:=omega) only [push_cast,simprocAttr,↓gd]
 refine wpV_loop (fun m t S'=>∃(i:Nat) (w:List Fd) (o:List UInt8) (X:List Blk),m=h.length - i∧i≤h.length∧FdsB w∧w.length≤100+i∧o.length≤i * 400∧(headW l max h).1=(headW w max (h.drop i)).1∧(headW l max h).2=o++(headW w max (h.drop i)).2∧t 11=.rows none (h.map fV)∧t 12=.int .i64 h.length∧t 2=.ptr S.length 0∧t 4=.ptr (S.length+1) 0∧t 6=.str o∧t 13=.int .i64 i ∧
   S'=S++([.cells 0 [.rows none (w.map fV),.int .i64 max],.cells 0 [.nils,.int .i64 0]]++X)) h.length ⟨0,l,[],[],by omega,by omega,hl,by omega,by simp,rfl,rfl,rfl,rfl,rfl,rfl,rfl,rfl,rfl⟩ ?_
 rintro m t S' ⟨i,w,o,X,rfl,hi,hw,hwl,hol,hd1,hd2,h11,h12,h2,h4,h6,h13,rfl⟩
 refine wpV_of0 hD ?_
 simp -implicitDefEqProofs (disch:=omega) only [push_cast,simprocAttr,h11,h12,h2,h4,h6,h13,↓gd]
 refine ⟨fun hlt=>?_,fun hge=>?_⟩
 ·have hil:i < h.length:=by omega
  have hgd:=getD_fV hil
  have hfo:=hh _ (getD_fd_mem hil)
  generalize hf:h.getD i fd0=f at hgd hfo
  obtain ⟨hp1,hp2,hp3,hp4,hp5⟩:=fieldOk_parts hfo
  have hfb:FdB f:=⟨by omega,by omega⟩
  have hfl:=fieldW_len hfo w
  have hpl:=placeOf_le w f
  obtain ⟨ht1,ht2⟩:=tabW_sub (max:=max) hw (f:=f) hfb hwl (by omega)
  simp -implicitDefEqProofs (disch:=omega) only [push_cast,simprocAttr,h11,h12,h2,h4,h6,h13,hgd,↓gd]
  refine ⟨by omega,by omega,((find_ok w max f (by omega) _).as rfl).to ?_⟩
  cases hn:f.never
  ·have ef:fV f=.agg [.str f.name,.str f.val,.bool false]:=by rw [fV,hn]
   cases hfo2:foundIn w f
   ·have e1:fieldW w f=nameW (placeOf w f) 6 f++wordW f.val:=by rw [fieldW,hn,hfo2]; rfl
    have e2:tabW w max f=fitL (f :: w) max:=by rw [tabW,hn,hfo2]; rfl
    simp -implicitDefEqProofs (disch:=omega) only [push_cast,simprocAttr,h11,h12,h2,h4,h6,h13,hn,↓gd]
    refine ((named_ok (placeOf w f) 6 f hfo (by omega) (by omega) _).as (by rw [ef]; rfl)).to ?_
    rw [←e1]
    simp -implicitDefEqProofs (disch:=omega) only [push_cast,simprocAttr,h11,h12,h2,h4,h6,h13,hn,↓gd]
    refine ⟨by omega,((add_ok' w max f hw hfb (by omega) hm _).as (by rw [ef]; rfl)).to ?_⟩
    rw [←e2]
    simp -implicitDefEqProofs (disch:=omega) only [push_cast,simprocAttr,h11,h12,h2,h4,h6,h13,hn,↓gd]
    refine ⟨h.length - (i+1),by omega,i+1,tabW w max f,o++fieldW w f,_,rfl,by omega,ht1,by omega,by simp; omega,?_,?_,rfl,by simp,rfl⟩
    ·rw [hd1,drop_fd hil,hf]; rfl
    ·rw [hd2,drop_fd hil,hf,List.append_assoc]; rfl
   ·have e1:fieldW w f=numW (placeOf w f) 7 1:=by rw [fieldW,hn,hfo2]; rfl
    have e2:tabW w max f=w:=by rw [tabW,hn,hfo2]; rfl
    simp -implicitDefEqProofs (disch:=omega) only [push_cast,simprocAttr,h11,h12,h2,h4,h6,h13,hn,↓gd]
    refine ((NumWrite_ok (placeOf w f) 7 1 (by omega) (by omega) (by omega) _).as (by simp)).to ?_
    rw [if_pos ⟨by omega,by omega,by decide⟩,Int.toNat_natCast,←e1]
    simp -implicitDefEqProofs (disch:=omega) only [push_cast,simprocAttr,h11,h12,h2,h4,h6,h13,hn,↓gd]
    refine ⟨by omega,h.length - (i+1),by omega,i+1,w,o++fieldW w f,_,rfl,by omega,hw,by omega,by simp; omega,?_,?_,rfl,by simp,rfl⟩
    ·rw [hd1,drop_fd hil,hf,headW,e2]
    ·rw [hd2,drop_fd hil,hf,List.append_assoc,headW,e2]
  ·have ef:fV f=.agg [.str f.name,.str f.val,.bool true]:=by rw [fV,hn]
   have e1:fieldW w f=nameW (placeOf w f) 4 f++wordW f.val:=by rw [fieldW,hn]; rfl
   have e2:tabW w max f=w:=by rw [tabW,hn]; rfl
   simp -implicitDefEqProofs (disch:=omega) only [push_cast,simprocAttr,h11,h12,h2,h4,h6,h13,hn,↓gd]
   refine ((named_ok (placeOf w f) 4 f hfo (by omega) (by omega) _).as (by rw [ef]; rfl)).to ?_
   rw [←e1]
   simp -implicitDefEqProofs (disch:=omega) only [push_cast,simprocAttr,h11,h12,h2,h4,h6,h13,hn,↓gd]
   refine ⟨by omega,h.length - (i+1),by omega,i+1,w,o++fieldW w f,_,rfl,by omega,hw,by omega,by simp; omega,?_,?_,rfl,by simp,rfl⟩
   ·rw [hd1,drop_fd hil,hf,headW,e2]
   ·rw [hd2,drop_fd hil,hf,List.append_assoc,headW,e2]
 ·have:i=h.length:=by omega
  subst this
  rw [List.drop_length] at hd1 hd2
  refine (clone_ok w max (by omega) _).to ?_
  simp -implicitDefEqProofs (disch:=omega) only [push_cast,simprocAttr,h11,h12,h2,h4,h6,h13,↓gd]
  refine fin1 (Cl.two (cl_tab _ _ _) (.str _)) ?_
  rw [hd1,hd2]
  simp [headW,tV]
theorem tableOk_parts {l:List Fd} {max:Int} (h:tableOk l max=true):l.length≤16∧0≤max∧max≤64∧(∀f ∈ l,fieldOk f=true∧f.never=false)∧(fdsSize l:Int)≤max:=by
 simp only [tableOk,Bool.and_eq_true,List.all_eq_true,decide_eq_true_eq,Bool.not_eq_true'] at h
 obtain ⟨⟨h1,h2,h3⟩,h4⟩:=h
 have h5:∀l:List Fd,4 * l.length≤fdsSize l:=by
  intro l
  induction l with
  | nil=>simp
  | cons f l ih=>simp only [fdsSize,List.map_cons,List.sum_cons,List.length_cons,fdSize] at ih ⊢; omega
 have:=h5 l
 exact ⟨by omega,h2,h3,h1,h4⟩
theorem headOk_parts {h:List Fd} (hk:headOk h=true):(∀f ∈ h,fieldOk f=true)∧h.length≤6:=by
 simpa [headOk,List.all_eq_true] using hk
end
section
open Go
@[push_cast] theorem set_setB (S:List Blk) (b:Nat) (B C:Blk):(S.set b B).set b C=S.set b C:=List.set_set ..
def sV (s:List UInt8):V:=.str s
theorem sV_eq (s:List UInt8):sV s=.str s:=rfl
attribute [push_cast] sV_eq
@[push_cast] theorem all_sV_len (l:List (List UInt8)):(l.map sV).all (lenIs 1)=true:=by induction l <;> simp_all [lenIs,sV,V.cells]
end
section
open Go
section
variable {S:List Blk} {b:Nat}
@[push_cast] theorem stD (B1:Blk) (l:List Blk) (B:Blk):(S.set b B1++l).set S.length B=S.set b B1++l.set 0 B:=by
 rw [List.set_append_right _ _ (by simp)]; simp
@[push_cast] theorem stE (B1:Blk) (l:List Blk) (n:Nat) (B:Blk):(S.set b B1++l).set (S.length+n) B=S.set b B1++l.set n B:=by
 rw [List.set_append_right _ _ (by simp)]; simp
@[push_cast] theorem stF (B1:Blk) (l:List Blk):(S.set b B1++l)[S.length]?=l[0]?:=by
 rw [List.getElem?_append_right (by simp)]; simp
@[push_cast] theorem stG (B1:Blk) (l:List Blk) (n:Nat):(S.set b B1++l)[S.length+n]?=l[n]?:=by
 rw [List.getElem?_append_right (by simp)]; simp
@[push_cast] theorem stH (B1:Blk):(S.set b B1).length=S.length:=List.length_set ..
end
theorem rd_lt {S:List Blk} {b:Nat} {B:Blk} (h:S[b]?=some B):b < S.length:=by
 rcases Nat.lt_or_ge b S.length with g | g
 ·exact g
 ·rw [List.getElem?_eq_none g] at h; cases h
theorem cl_fV (n:Nat) (f:Fd):Cl n (fV f):=by
 refine .agg ?_
 simp only [List.mem_cons,List.not_mem_nil,or_false,forall_eq_or_imp,forall_eq]
 exact ⟨.str _,.str _,.bool _⟩
def FdS (f:Fd):Prop:=f.name.length≤100∧f.val.length≤100
theorem FdS.b {f:Fd} (h:FdS f):FdB f:=⟨by have:=h.1; omega,by have:=h.2; omega⟩
section
variable {Z:List Blk} {c:Blk}
end
end
section
open Go
theorem fd_ext {a c:Fd}:(a.name=c.name∧a.val=c.val∧a.never=c.never)↔a=c:=by
 cases a; cases c; simp
instance:DecidableEq Fd:=fun _ _=>decidable_of_iff _ fd_ext
theorem tabW_len (l:List Fd) (max:Int) (f:Fd):(tabW l max f).length≤l.length+1:=by
 unfold tabW
 split
 ·omega
 ·split
  ·omega
  ·have:=(fitL_sub (f :: l) max).2
   simpa using this
end
section
open Go
inductive Bare:V→Prop
 | int (k:IntKind) (n:Int):Bare (.int k n)
 | bool (b:Bool):Bare (.bool b)
 | str (s:List UInt8):Bare (.str s)
 | agg {cs:List V}:(∀v ∈ cs,Bare v)→Bare (.agg cs)
 | tup {cs:List V}:(∀v ∈ cs,Bare v)→Bare (.tup cs)
theorem Bare.vr {G G':Gh} {w w':World} {v:V} {c:Value} (hv:VR G w v c):Bare v→VR G' w' v c:=by
 induction hv with
 | int k n=>exact fun _=>.int k n
 | bool b=>exact fun _=>.bool b
 | str s=>exact fun _=>.str s
 | agg hl _ ho ih=>intro h; cases h with | agg h=>exact .agg hl (fun i v u hv hu=>ih i v u hv hu (h v (List.mem_of_getElem? hv))) ho
 | tup hl _ ih=>intro h; cases h with | tup h=>exact .tup hl (fun i v u hv hu=>ih i v u hv hu (h v (List.mem_of_getElem? hv)))
 | _=>intro h; cases h
inductive BorC (S:List Blk):V→V→Prop
 | same {v:V}:Cl 0 v→BorC S v v
 | arr {xs:List V} {p sz:Nat}:S[p]?=some (.cells sz (xs.flatMap V.cells))→(∀u ∈ xs.flatMap V.cells,Bare u)→BorC S (.rows none xs) (.heap p xs.length)
inductive Bor (S:List Blk):V→V→Prop
 | one {v v':V}:BorC S v v'→Bor S v v'
 | agg {cs cs':List V}:cs.length=cs'.length→(∀(i:Nat) (a b:V),cs[i]?=some a→cs'[i]?=some b→BorC S a b)→Bor S (.agg cs) (.agg cs')
def allFrozen (G:Gh) (w:World):Gh:={ G with n:=0,p:=fun b=>if b < w.heap.size then max (G.p b) (match w.heap[b]? with | some (.cells arr _ _)=>arr.size | _=>0) else 0 }
theorem allFrozen_ext {G:Gh} {w:World} {S:List Blk} (hR:Rel G w S):Ext (G.cut 0) w (allFrozen G w) w:=by
 refine ⟨Nat.le_refl _,fun j hj=>absurd hj (Nat.not_lt_zero _),fun b=>?_,fun _ _ _=>rfl⟩
 show G.p b≤_
 unfold allFrozen
 simp only
 split
 ·exact Nat.le_max_left _ _
 ·rename_i h
  rw [hR.fresh b (by omega)]
  exact Nat.zero_le _
theorem BorC.vr {G:Gh} {w:World} {S:List Blk} (hR:Rel G w S) {v v':V} {c:Value} (h:BorC S v v') (hv:VR G w v' c):VR (allFrozen G w) w v c:=by
 cases h with
 | same hc=>exact (VR.cut (G':=G.cut 0) hv (fun j hj=>⟨rfl,rfl,rfl,rfl,rfl⟩) rfl hc).ext (allFrozen_ext hR)
 | @arr xs p sz hp hb =>
  generalize hn:xs.length=n at hv
  cases hv with
  | heapNil h0 =>
   have:xs=[]:=List.length_eq_zero_iff.1 hn
   subst this
   exact .rowsNil (fun τ hτ=>by cases hτ)
  | @heap _ _ cap h0 hk hcap hlim =>
   obtain ⟨arr,ty,f1,f2,f3,f4,f5,f6⟩:=hR.live p _ hp rfl hk
   have hlt:=hR.lt p _ hp rfl hk
   have hlen:(arr.toList.take (xs.flatMap V.cells).length).length=(xs.flatMap V.cells).length:=List.length_take_of_le (by have:arr.toList.length=arr.size:=rfl; omega)
   have hrow:=VR.rows (G:=allFrozen G w) (w:=w) (tok:=none) (xs:=xs) (b:=G.blk p) (off:=0) (cap:=cap) (arr.toList.take (xs.flatMap V.cells).length) hlen.symm
    (fun i v u hv hu=>by
     rw [List.getElem?_take] at hu
     split at hu
     ·exact Bare.vr ((f6 i v u hv (by simpa using hu)).1) (hb v (List.mem_of_getElem? hv))
     ·cases hu)
    (fun u hu=>by
     obtain ⟨i,hi,rfl⟩:=List.getElem_of_mem hu
     have hi':i < (xs.flatMap V.cells).length:=by omega
     simp only [List.getElem_take]
     have:=(f6 i _ arr[i] (List.getElem?_eq_getElem hi') (Array.getElem?_eq_getElem (by omega))).2
     simpa using this)
    (fun i u hu=>by
     rw [List.getElem?_take] at hu
     split at hu
     ·rw [cell_blk f1,Nat.zero_add]; simpa using hu
     ·cases hu)
    (by
     rw [hlen,Nat.zero_add]
     unfold allFrozen
     simp only
     rw [if_pos hlt,f1]
     exact Nat.le_trans f4 (Nat.le_max_right _ _))
    (by omega)
    (fun τ hτ=>by cases hτ)
   rw [hn] at hrow
   exact hrow
theorem Bor.vr {G:Gh} {w:World} {S:List Blk} (hR:Rel G w S) {v v':V} {c:Value} (h:Bor S v v') (hv:VR G w v' c):VR (allFrozen G w) w v c:=by
 cases h with
 | one h=>exact h.vr hR hv
 | agg hl h =>
  cases hv with
  | agg hl' hv ho =>
   refine .agg (hl.trans hl') (fun i a u ha hu=>?_) ho
   have hi:i < _:=(List.getElem?_eq_some_iff.1 ha).1
   have hb:=List.getElem?_eq_getElem (show i < _ by rw [←hl]; exact hi)
   exact (h i a _ ha hb).vr hR (hv i _ u hb hu)
theorem xcall_no {P:Program} {f:FuncId} (h:Enters P f) (cargs:Array Value) (w:World) (c:Value):(callFunc f cargs).run P w≠.ok (.value c) w:=by
 obtain ⟨fn,hfn,hbody,hname⟩:=h
 intro hr
 simp [callFunc,hfn,hbody,hname] at hr
 have hne:¬fn.name= "runtime.NumGoroutine":=by simpa using hname
 simp [hne] at hr
 split at hr
 ·rename_i hb; rw [hb] at hbody; cases hbody
 ·cases hr
def BorL (S:List Blk) (asV bs:List V):Prop:=asV.length=bs.length∧∀(i:Nat) (a b:V),asV[i]?=some a→bs[i]?=some b→Bor S a b
theorem BorL.all {G:Gh} {w:World} {S:List Blk} (hR:Rel G w S) {asV bs:List V} {cs:List Value} (h:BorL S asV bs) (hv:AllR G w bs cs):AllR (allFrozen G w) w asV cs:=by
 refine ⟨h.1.trans hv.1,fun i a u ha hu=>?_⟩
 have hb:=List.getElem?_eq_getElem (show i < bs.length by rw [←h.1]; exact (List.getElem?_eq_some_iff.1 ha).1)
 exact (h.2 i a _ ha hb).vr hR (hv.2 i _ u hb hu)
theorem rel_none {G:Gh} {w:World} {S:List Blk} (hR:Rel G w S):Rel (allFrozen G w) w []:=by
 refine ⟨rfl,fun b hb=>?_,fun j B h=>by simp at h,fun j B h=>by simp at h,fun j sz cs h=>by simp at h,fun i j B C h=>by simp at h⟩
 unfold allFrozen
 simp only
 rw [if_neg (by omega)]
theorem still {G:Gh} {w w':World} {S:List Blk} (hR:Rel G w S) {G0 G':Gh} {S':List Blk} (hE:Evol G0 w [] G' w' S'):Rel G w' S∧Evol G w S G w' S:=by
 have hno:∀b,¬Owns G0 [] b:=by rintro b ⟨j,B,h,_⟩; simp at h
 have hheap:∀b,b < w.heap.size→w'.heap[b]?=w.heap[b]?:=fun b hb=>hE.other b hb (hno b)
 have hext:Ext G w G w':=by
  refine ⟨Nat.le_refl _,fun _ _=>⟨rfl,rfl,rfl,rfl,rfl⟩,fun _=>Nat.le_refl _,fun b o ho=>cell_same (hheap b ?_) o⟩
  rcases Nat.lt_or_ge b w.heap.size with g | g
  ·exact g
  ·rw [hR.fresh b g] at ho; exact absurd ho (Nat.not_lt_zero _)
 refine ⟨⟨hR.n,fun b hb=>hR.fresh b (Nat.le_trans hE.size hb),fun j B hj hl hk=>Nat.lt_of_lt_of_le (hR.lt j B hj hl hk) hE.size,fun j B hj hl hk=>?_,hR.vac,hR.inj⟩,⟨hext,hE.size,hE.os,hE.tape,hE.output,fun b hb _=>hheap b hb,fun b hb h=>h,fun _ _ _=>rfl⟩⟩
 exact (hR.live j B hj hl hk).keep hext (hR.get_lt hj) rfl (hheap _ (hR.lt j B hj hl hk))
theorem VCall.borrow {P:Program} {f:FuncId} {asV bs:List V} {x:V} {S:List Blk} (hf:Enters P f) (h:∀S,VCall P f asV S fun r S'=>r=x∧S'=S) (hx:Bare x) (hb:BorL S asV bs):VCall P f bs S fun r S'=>r=x∧S'=S:=by
 refine .inl ⟨hf,x,S,⟨rfl,rfl⟩,fun G w cargs hA hR=>?_⟩
 have hA0:=hb.all hR hA
 rcases h [] with ⟨_,r,S',⟨rfl,rfl⟩,hd⟩ | ⟨r,⟨rfl,_⟩,hd⟩
 ·refine Calls.mono (hd _ w cargs hA0 (rel_none hR)) ?_
  rintro e w' ⟨c,G',rfl,hv,hR',hE⟩
  obtain ⟨h1,h2⟩:=still hR hE
  exact ⟨c,G,rfl,Bare.vr hv hx,h1,h2⟩
 ·obtain ⟨c,hc,_⟩:=hd _ w cargs hA0
  exact absurd hc (xcall_no hf cargs w c)
end
section
open Go
def tailR:Nat→List UInt8→Option (Nat × Nat)
 | 0,_=>none
 | _+1,[]=>none
 | k+1,c :: r=>if c.toNat < 128 then some (c.toNat,1) else match tailR k r with
  | some (v,n)=>some (c.toNat % 128+128 * v,n+1)
  | none=>none
def numR (b:List UInt8) (bits:Nat):Option (Nat × Nat) :=
 match b with
 | []=>none
 | c :: r=>if c.toNat % 2 ^ bits < 2 ^ bits - 1 then some (c.toNat % 2 ^ bits,1) else match tailR 3 r with
  | some (v,n)=>if 2 ^ bits - 1+v≤9999∧numTail v=r.take n then some (2 ^ bits - 1+v,n+1) else none
  | none=>none
theorem tailR_bound:∀(k:Nat) (r:List UInt8) (v n:Nat),tailR k r=some (v,n)→v < 128 ^ k∧n≤k∧n≤r.length∧1≤n
 | 0,_,v,n,h=>by simp [tailR] at h
 | k+1,[],v,n,h=>by simp [tailR] at h
 | k+1,c :: r,v,n,h=>by
  rw [tailR] at h
  split at h
  ·simp only [Option.some.injEq,Prod.mk.injEq] at h
   obtain ⟨rfl,rfl⟩:=h
   have:0 < 128 ^ k:=Nat.pow_pos (by decide)
   rw [Nat.pow_succ]
   refine ⟨by omega,by omega,by simp,by omega⟩
  ·split at h
   ·rename_i v' n' h'
    simp only [Option.some.injEq,Prod.mk.injEq] at h
    obtain ⟨rfl,rfl⟩:=h
    obtain ⟨h1,h2,h3,h4⟩:=tailR_bound k r v' n' h'
    rw [Nat.pow_succ]
    refine ⟨by omega,by omega,by simpa using h3,by omega⟩
   ·cases h
theorem numR_bound {b:List UInt8} {bits v n:Nat} (hb:bits≤7) (h:numR b bits=some (v,n)):v≤9999∧1≤n∧n≤4∧n≤b.length:=by
 have hp:2 ^ bits≤2 ^ 7:=Nat.pow_le_pow_right (by omega) hb
 unfold numR at h
 split at h
 ·cases h
 ·rename_i c r
  split at h
  ·simp only [Option.some.injEq,Prod.mk.injEq] at h
   obtain ⟨rfl,rfl⟩:=h
   refine ⟨by omega,by omega,by omega,by simp⟩
  ·split at h
   ·rename_i v' n' h'
    split at h
    ·rename_i hc
     simp only [Option.some.injEq,Prod.mk.injEq] at h
     obtain ⟨rfl,rfl⟩:=h
     obtain ⟨h1,h2,h3,h4⟩:=tailR_bound 3 r v' n' h'
     refine ⟨hc.1,by omega,by omega,by simpa using h3⟩
    ·cases h
   ·cases h
theorem by8_toNat {n:Nat} (h:n < 256):(by8 n).toNat=n:=by simp [by8]; omega
end
end Go.Proofs.YtldogccmhncnoaaGreatDoor
