/- A part of the proof: contracts of functions, or plain facts on which these lean. -/
import Derived.Shelf.Spec.SlicesGrow
import Derived.Test.YtldogccmhncnoaaMp13
namespace Go.Proofs.Ytldogccmhncnoaa
open Go
set_option linter.unusedVariables false
set_option linter.unusedSimpArgs false
set_option maxRecDepth 100000
set_option maxHeartbeats 16000000

section
open Go
def fixedFds:List Fd:=[⟨[58,112,97,116,104],[],false⟩,⟨[58,115,116,97,116,117,115],[48],false⟩,⟨[58,115,116,97,116,117,115],[49,50],false⟩,⟨[107,105,110,100],[116,101,120,116],false⟩,⟨[115,105,122,101],[],false⟩,⟨[116,101],[116,114,97,105,108,101,114,115],false⟩]
theorem sTableFixed_ok (S:List Blk):VCall Try.prog 63 [] S fun r S'=>r=.rows (some S.length) (fixedFds.map fV)∧S'=S++[.right 3]:=by
 refine VCall.en hD Try.func63 Try.ntmps63 Try.results63 ?_
 simp -implicitDefEqProofs (disch:=omega) only [push_cast,simprocAttr,↓gd]
 exact ⟨_,_,Wk.refl _ _ _,rfl,rfl⟩
theorem TableFixed_ok (S:List Blk):VCall Try.prog 59 [] S fun r S'=>r=.rows (some S.length) (fixedFds.map fV)∧S'=S++[.right 3]:=by
 refine VCall.en hD Try.func59 Try.ntmps59 Try.results59 ?_
 simp -implicitDefEqProofs (disch:=omega) only [push_cast,simprocAttr,↓gd]
 exact ⟨_,_,Wk.refl _ _ _,rfl,rfl⟩
def fdSize (f:Fd):Nat:=f.name.length+f.val.length+4
def fdsSize (l:List Fd):Nat:=(l.map fdSize).sum
theorem fdsSize_append (l:List Fd) (f:Fd):fdsSize (l++[f])=fdsSize l+fdSize f:=by simp [fdsSize]
theorem take_fd {l:List Fd} {i:Nat} (h:i < l.length):l.take (i+1)=l.take i++[l.getD i fd0]:=by
 rw [List.take_succ_eq_append_getElem h,List.getD,List.getElem?_eq_getElem h]; rfl
theorem fdsSize_le (l:List Fd) (h:∀f ∈ l,FdB f):fdsSize l≤l.length * 4000004:=by
 induction l with
 | nil=>simp [fdsSize]
 | cons f l ih =>
  obtain ⟨h1,h2⟩:=h f (by simp)
  have:=ih (fun g hg=>h g (by simp [hg]))
  simp only [fdsSize,List.map_cons,List.sum_cons,List.length_cons,fdSize] at this ⊢
  omega
theorem getD_fd_mem {l:List Fd} {i:Nat} (h:i < l.length):l.getD i fd0 ∈ l:=by
 rw [List.getD,List.getElem?_eq_getElem h]; exact List.getElem_mem h
theorem l3One_ok (f:Fd) (hf:FdB f) (S:List Blk):VCall Try.prog 42 [fV f] S fun r S'=>r=.int .i64 (fdSize f)∧S'=S:=by
 obtain ⟨h1,h2⟩:=hf
 refine VCall.en hD Try.func42 Try.ntmps42 Try.results42 ?_
 simp -implicitDefEqProofs (disch:=omega) only [push_cast,simprocAttr,↓gd]
 exact fin1 (.int _ _) (by simp [fdSize])
theorem l3Size_ok (l:List Fd) (hl:FdsB l) (S:List Blk):VCall Try.prog 27 [.rows none (l.map fV)] S fun r S'=>r=.int .i64 (fdsSize l)∧S'=S:=by
 obtain ⟨hlen,hb⟩:=hl
 refine VCall.en hD Try.func27 Try.ntmps27 Try.results27 ?_
 simp -implicitDefEqProofs (disch:=omega) only [push_cast,simprocAttr,↓gd]
 refine wpV_loop (fun m t S'=>∃i:Nat,m=l.length - i∧i≤l.length∧t 0=.rows none (l.map fV)∧t 3=.int .i64 (fdsSize (l.take i))∧t 4=.int .i64 i∧S'=S) l.length ⟨0,by omega,by omega,rfl,rfl,rfl,rfl⟩ ?_
 rintro m t S' ⟨i,rfl,hi,h0,h3,h4,rfl⟩
 refine wpV_of0 hD ?_
 have hsz:=fdsSize_le (l.take i) (fun f hf=>hb f (List.mem_of_mem_take hf))
 have hti:(l.take i).length≤2000000:=by simp; omega
 simp -implicitDefEqProofs (disch:=omega) only [push_cast,simprocAttr,h0,h3,h4,↓gd]
 refine ⟨fun h=>⟨by omega,by omega,?_⟩,fun h=>fin0 ?_⟩
 ·have hil:i < l.length:=by omega
  have hfb:=hb _ (getD_fd_mem hil)
  rw [getD_fV hil]
  simp -implicitDefEqProofs (disch:=omega) only [push_cast,simprocAttr,h0,h3,h4,↓gd]
  refine (l3One_ok (l.getD i fd0) hfb S').to ?_
  have hone:fdSize (l.getD i fd0)≤4000004:=by obtain ⟨a,b⟩:=hfb; unfold fdSize; omega
  simp -implicitDefEqProofs (disch:=omega) only [push_cast,simprocAttr,h0,h3,h4,↓gd]
  refine ⟨l.length - (i+1),by omega,i+1,rfl,by omega,?_,by simp⟩
  rw [take_fd hil,fdsSize_append]
  simp
 ·have:i=l.length:=by omega
  subst this
  rw [List.take_length]
theorem size_ok (l:List Fd) (max:Int) (hl:FdsB l) (S:List Blk):VCall Try.prog 34 [.agg [.rows none (l.map fV),.int .i64 max]] S fun r S'=>r=.int .i64 (fdsSize l)∧S'=S:=by
 obtain ⟨hlen,hb⟩:=hl
 refine VCall.en hD Try.func34 Try.ntmps34 Try.results34 ?_
 simp -implicitDefEqProofs (disch:=omega) only [push_cast,simprocAttr,↓gd]
 refine wpV_loop (fun m t S'=>∃i:Nat,m=l.length - i∧i≤l.length∧t 7=.rows none (l.map fV)∧t 3=.int .i64 (fdsSize (l.take i))∧t 8=.int .i64 l.length∧t 9=.int .i64 i∧∃X,S'=S++X) l.length ⟨0,by omega,by omega,rfl,rfl,rfl,rfl,_,rfl⟩ ?_
 rintro m t S' ⟨i,rfl,hi,h7,h3,h8,h9,X,rfl⟩
 refine wpV_of0 hD ?_
 have hsz:=fdsSize_le (l.take i) (fun f hf=>hb f (List.mem_of_mem_take hf))
 have hti:(l.take i).length≤2000000:=by simp; omega
 simp -implicitDefEqProofs (disch:=omega) only [push_cast,simprocAttr,h7,h3,h8,h9,↓gd]
 refine ⟨fun h=>?_,fun h=>fin1 (.int _ _) ?_⟩
 ·have hil:i < l.length:=by omega
  have hfb:=hb _ (getD_fd_mem hil)
  have hone:fdSize (l.getD i fd0)≤4000004:=by obtain ⟨a,b⟩:=hfb; unfold fdSize; omega
  obtain ⟨hna,hva⟩:=hfb
  rw [getD_fV hil]
  simp -implicitDefEqProofs (disch:=omega) only [push_cast,simprocAttr,h7,h3,h8,h9,↓gd]
  refine ⟨by omega,by omega,l.length - (i+1),by omega,i+1,rfl,by omega,?_,by simp,_,rfl⟩
  rw [take_fd hil,fdsSize_append]
  simp [fdSize]
 ·have:i=l.length:=by omega
  subst this
  rw [List.take_length]
def tableOk (l:List Fd) (max:Int):Bool:=l.all (fun f=>fieldOk f && !f.never) && (decide (0≤max) && decide (max≤64)) && decide ((fdsSize l:Int)≤max)
theorem all_fd_bad {p:Fd→Bool} {w:List Fd} {i:Nat} (h:i < w.length) (hb:p (w.getD i fd0)=false):w.all p=false:=by
 rw [Bool.eq_false_iff]
 intro ha
 have:=List.all_eq_true.1 ha _ (getD_fd_mem h)
 rw [hb] at this; cases this
theorem all_fd_succ {p:Fd→Bool} {w:List Fd} {i:Nat} (h:i < w.length) (h1:(w.take i).all p=true) (h2:p (w.getD i fd0)=true):(w.take (i+1)).all p=true:=by
 rw [take_fd h,List.all_append,h1]
 simpa using h2
theorem sTableOk_ok (l:List Fd) (max:Int) (hl:FdsB l) (S:List Blk):VCall Try.prog 15 [.agg [.rows none (l.map fV),.int .i64 max]] S fun r S'=>r=.bool (tableOk l max)∧S'=S:=by
 have hl':=hl
 obtain ⟨hlen,hb⟩:=hl
 refine VCall.ex hD (fun _=>false) (fun id=>if id=6 then [2,2,6,6,6,6,12,12,12,12,12,12] else []) Try.func15 Try.ntmps15 Try.results15 ?_
 simp -implicitDefEqProofs (disch:=omega) only [push_cast,simprocAttr,↓gd]
 refine wpV_loop (fun m t S'=>∃i:Nat,m=l.length - i∧i≤l.length∧(l.take i).all (fun f=>fieldOk f && !f.never)=true∧t 1=.ptr S.length 0∧t 3=.int .i64 i∧S'=S++[.cells 0 [.rows none (l.map fV),.int .i64 max]]) l.length ⟨0,by omega,by omega,by simp,rfl,rfl,rfl⟩ ?_
 rintro m t S' ⟨i,rfl,hi,hno,h1,h3,rfl⟩
 refine wpV_of hD (fun _=>false) (fun id=>if id=6 then [2,2,6,6,6,6,12,12,12,12,12,12] else []) (by kernel_rfl) ?_
 simp -implicitDefEqProofs (disch:=omega) only [push_cast,simprocAttr,h1,h3,↓gd]
 refine ⟨fun h=>⟨by omega,by omega,?_⟩,fun h=>?_⟩
 ·have hil:i < l.length:=by omega
  have hfb:=hb _ (getD_fd_mem hil)
  have hgd:=getD_fV hil
  generalize hf:l.getD i fd0=f at hfb hgd
  simp -implicitDefEqProofs (disch:=omega) only [push_cast,simprocAttr,h1,h3,hgd,↓gd]
  refine (sFieldOk_ok f hfb _).to ?_
  cases hok:fieldOk f
  ·simp -implicitDefEqProofs (disch:=omega) only [push_cast,simprocAttr,h1,h3,↓gd]
   exact fin1 (.bool _) (by rw [tableOk,all_fd_bad hil (by rw [hf,hok]; rfl)]; rfl)
  ·cases hne:f.never
   ·simp -implicitDefEqProofs (disch:=omega) only [push_cast,simprocAttr,h1,h3,hgd,hne,↓gd]
    exact ⟨by omega,by omega,l.length - (i+1),by omega,i+1,rfl,by omega,all_fd_succ hil hno (by rw [hf,hok,hne]; rfl),by simp⟩
   ·simp -implicitDefEqProofs (disch:=omega) only [push_cast,simprocAttr,h1,h3,hgd,hne,↓gd]
    exact ⟨by omega,by omega,fin1 (.bool _) (by rw [tableOk,all_fd_bad hil (by rw [hf,hok,hne]; rfl)]; rfl)⟩
 ·have:i=l.length:=by omega
  subst this
  rw [List.take_length] at hno
  refine (l6In_ok max 0 64 _).to ?_
  cases hin:(decide ((0:Int)≤max) && decide (max≤64))
  ·simp -implicitDefEqProofs (disch:=omega) only [push_cast,simprocAttr,h1,h3,↓gd]
   exact fin1 (.bool _) (by rw [tableOk,hin]; simp)
  ·simp -implicitDefEqProofs (disch:=omega) only [push_cast,simprocAttr,h1,h3,↓gd]
   refine (l3Size_ok l hl' _).to ?_
   simp -implicitDefEqProofs (disch:=omega) only [push_cast,simprocAttr,h1,h3,↓gd]
   exact fin1 (.bool _) (by rw [tableOk,hin,hno]; simp)
theorem any_at {p:Fd→Bool} {l:List Fd} {i:Nat} (h:i < l.length) (h1:(l.take i).any p=false) (h2:p (l.getD i fd0)=true):l.any p=true :=
 List.any_eq_true.2 ⟨_,getD_fd_mem h,h2⟩
theorem findIdx_at {p:Fd→Bool} {l:List Fd} {i:Nat} (h:i < l.length) (h1:(l.take i).any p=false) (h2:p (l.getD i fd0)=true):l.findIdx p=i:=by
 rw [List.getD,List.getElem?_eq_getElem h,Option.getD_some] at h2
 rw [List.findIdx_eq h]
 refine ⟨h2,fun j hj=>?_⟩
 have:=List.any_eq_false.1 h1 l[j] (by rw [List.mem_take_iff_getElem]; exact ⟨j,by omega,rfl⟩)
 simpa using this
theorem IndexFunc_ok (l:List Fd) (fid:Nat) (caps:List V) (p:Fd→Bool) (hlen:l.length≤2000000) (S:List Blk) (hp:∀g ∈ l,VCall Try.prog fid (eraseArgs (fV g :: caps)) S fun r S'=>r=.bool (p g)∧S'=S) :
  VCall Try.prog 47 [.rows none (l.map fV),.fn fid caps] S fun r S'=>r=.int .i64 (if l.any p then (l.findIdx p:Int) else -1)∧S'=S:=by
 refine VCall.en hD Try.func47 Try.ntmps47 Try.results47 ?_
 simp -implicitDefEqProofs (disch:=omega) only [push_cast,simprocAttr,↓gd]
 refine wpV_loop (fun m t S'=>∃i:Nat,m=l.length - i∧i≤l.length∧(l.take i).any p=false∧t 0=.rows none (l.map fV)∧t 1=.fn fid caps∧t 7=.int .i64 l.length∧t 8=.int .i64 i∧S'=S) l.length ⟨0,by omega,by omega,by simp,rfl,rfl,rfl,rfl,rfl⟩ ?_
 rintro m t S' ⟨i,rfl,hi,hno,h0,h1,h7,h8,rfl⟩
 refine wpV_of0 hD ?_
 simp -implicitDefEqProofs (disch:=omega) only [push_cast,simprocAttr,h0,h1,h7,h8,↓gd]
 refine ⟨fun h=>?_,fun h=>?_⟩
 ·have hil:i < l.length:=by omega
  have hgd:=getD_fV hil
  have hpf:=hp _ (getD_fd_mem hil)
  generalize hf:l.getD i fd0=f at hgd hpf
  simp -implicitDefEqProofs (disch:=omega) only [push_cast,simprocAttr,h0,h1,h7,h8,hgd,↓gd]
  refine ⟨by omega,by omega,(hpf.as rfl).to ?_⟩
  cases hpv:p f
  ·simp -implicitDefEqProofs (disch:=omega) only [push_cast,simprocAttr,h0,h1,h7,h8,↓gd]
   refine ⟨l.length - (i+1),by omega,i+1,rfl,by omega,?_,by simp⟩
   rw [take_fd hil,List.any_append,hno,hf]; simp [hpv]
  ·simp -implicitDefEqProofs (disch:=omega) only [push_cast,simprocAttr,h0,h1,h7,h8,↓gd]
   refine fin0 ?_
   rw [any_at hil hno (by rw [hf,hpv]),findIdx_at hil hno (by rw [hf,hpv])]; rfl
 ·have:i=l.length:=by omega
  subst this
  rw [List.take_length] at hno
  refine fin0 ?_
  rw [hno]; rfl
theorem ContainsFunc_ok (l:List Fd) (fid:Nat) (caps:List V) (p:Fd→Bool) (hlen:l.length≤2000000) (S:List Blk) (hp:∀g ∈ l,VCall Try.prog fid (eraseArgs (fV g :: caps)) S fun r S'=>r=.bool (p g)∧S'=S) :
  VCall Try.prog 31 [.rows none (l.map fV),.fn fid caps] S fun r S'=>r=.bool (l.any p)∧S'=S:=by
 refine VCall.en hD Try.func31 Try.ntmps31 Try.results31 ?_
 simp -implicitDefEqProofs (disch:=omega) only [push_cast,simprocAttr,↓gd]
 refine (IndexFunc_ok l fid caps p hlen S hp).to ?_
 cases h:l.any p
 ·simp -implicitDefEqProofs (disch:=omega) only [push_cast,simprocAttr,↓gd]
  exact fin0 rfl
 ·simp -implicitDefEqProofs (disch:=omega) only [push_cast,simprocAttr,↓gd]
  exact fin0 (by simp)
theorem tableOk1_ok (f:Fd) (hf:FdB f) (S:List Blk):VCall Try.prog 32 [fV f] S fun r S'=>r=.bool (!fieldOk f || f.never)∧S'=S:=by
 refine VCall.en hD Try.func32 Try.ntmps32 Try.results32 ?_
 simp -implicitDefEqProofs (disch:=omega) only [push_cast,simprocAttr,↓gd]
 refine (FieldOk_ok f hf _).to ?_
 cases hok:fieldOk f
 ·simp -implicitDefEqProofs (disch:=omega) only [push_cast,simprocAttr,↓gd]
  exact fin1 (.bool _) rfl
 ·simp -implicitDefEqProofs (disch:=omega) only [push_cast,simprocAttr,↓gd]
  exact fin1 (.bool _) (by simp)
theorem any_not_all (l:List Fd):l.any (fun f=>!fieldOk f || f.never)=!l.all (fun f=>fieldOk f && !f.never):=by
 induction l with
 | nil=>rfl
 | cons f l ih=>simp only [List.any_cons,List.all_cons,ih,Bool.not_and,Bool.not_not]
theorem TableOk_ok (l:List Fd) (max:Int) (hl:FdsB l) (S:List Blk):VCall Try.prog 18 [.agg [.rows none (l.map fV),.int .i64 max]] S fun r S'=>r=.bool (tableOk l max)∧S'=S:=by
 have hl':=hl
 obtain ⟨hlen,hb⟩:=hl
 refine VCall.ex hD (fun _=>false) (fun id=>if id=1 then [2,2,6,6,6,6,11,11,11,11,11,17,17,17,17,17,17] else []) Try.func18 Try.ntmps18 Try.results18 ?_
 simp -implicitDefEqProofs (disch:=omega) only [push_cast,simprocAttr,↓gd]
 refine (in_ok max 0 64 _).to ?_
 cases hin:(decide ((0:Int)≤max) && decide (max≤64))
 ·simp -implicitDefEqProofs (disch:=omega) only [push_cast,simprocAttr,↓gd]
  exact fin1 (.bool _) (by rw [tableOk,hin]; simp)
 ·simp -implicitDefEqProofs (disch:=omega) only [push_cast,simprocAttr,↓gd]
  refine (ContainsFunc_ok l _ [] _ hlen _ (fun g hg=>(tableOk1_ok g (hb g hg) _).as rfl)).to ?_
  rw [any_not_all]
  cases hall:l.all (fun f=>fieldOk f && !f.never)
  ·simp -implicitDefEqProofs (disch:=omega) only [push_cast,simprocAttr,↓gd]
   exact fin1 (.bool _) (by rw [tableOk,hall]; simp)
  ·simp -implicitDefEqProofs (disch:=omega) only [push_cast,simprocAttr,↓gd]
   refine (size_ok l max hl' _).to ?_
   simp -implicitDefEqProofs (disch:=omega) only [push_cast,simprocAttr,↓gd]
   exact fin1 (.bool _) (by rw [tableOk,hin,hall]; simp)
end
section
open Go
def growRen:Go.Shelf.Ren:=⟨fun _=>52,fun t=>if t=0 then 0 else if t=3 then 3 else if t=4 then 4 else if t=9 then 9 else if t=20 then 20 else if t=22 then 26 else 41,fun g=>g⟩
theorem growLay:Lays8.n4 Try.prog growRen where
 mixed:=by kernel_rfl
 f4:=⟨Try.f52.name,by decide,by kernel_rfl⟩
 t0:=by kernel_rfl
 a0:=Try.isAgg0
 z0:=Try.sizeOf0
 v0:=Try.zeroValue0
 t3:=by kernel_rfl
 a3:=Try.isAgg3
 z3:=Try.sizeOf3
 v3:=Try.zeroValue3
 t4:=by kernel_rfl
 a4:=Try.isAgg4
 z4:=Try.sizeOf4
 v4:=Try.zeroValue4
 t9:=by kernel_rfl
 a9:=Try.isAgg9
 z9:=Try.sizeOf9
 v9:=Try.zeroValue9
 t20:=by kernel_rfl
 a20:=Try.isAgg20
 z20:=Try.sizeOf20
 v20:=Try.zeroValue20
 t22:=by kernel_rfl
 a22:=Try.isAgg26
 z22:=Try.sizeOf26
 v22:=Try.zeroValue26
theorem zeroCells_add (a:Array Value) (n m:Nat):Builtin.zeroCells a n++Builtin.zeroCells a m=Builtin.zeroCells a (n+m):=by
 apply Array.ext
 ·simp [Builtin.zeroCells,Nat.add_mul]
 ·intro i h1 h2
  rw [Array.getElem_append]
  split
  ·simp [Builtin.zeroCells]
  ·rename_i h
   simp only [Builtin.zeroCells,Array.size_map,Array.size_range,Nat.not_lt,Array.getElem_map,Array.getElem_range] at h ⊢
   congr 1
   rw [←Nat.sub_add_cancel h,Nat.add_sub_cancel,Nat.add_mul_mod_self_right]
theorem Grow_ok (n:Nat) (hn:0 < n) (hn2:n≤4194304) (S:List Blk):VCall Try.prog 52 [.nils,.int .i64 n] S fun r S'=>r=.rows (some S.length) []∧S'=S++[.right 3]:=by
 refine .inl ⟨⟨_,Try.func52,rfl,rfl⟩,_,_,⟨rfl,rfl⟩,?_⟩
 intro G w cargs hall hR
 obtain ⟨i,z,hi,hisz,hiby,hz,_,_,hzs⟩:=ty_info hD (t:=41) rfl
 have hc:cargs=#[.slice none 0 0,.int .i64 n]:=by
  obtain ⟨hl,hv⟩:=hall
  obtain ⟨l⟩:=cargs
  match l,hl with
  | [a,b],_ =>
   have h0:=hv 0 .nils a rfl rfl
   have h1:=hv 1 (.int .i64 n) b rfl rfl
   cases h0; cases h1; rfl
 subst hc
 have hcall:=Any8.slices_Grow_grow growLay i z hi hz (by rw [hisz]; decide) none 0 0 n [] w (Nat.le_refl _) (by omega) (by rw [hiby]; show (0+n) * 40≤_; omega) (by omega) (by simp) (fun _=>rfl) (fun a h=>by cases h)
 refine Calls.mono hcall ?_
 rintro e w' ⟨rfl,rfl⟩
 obtain ⟨G',h1,h2,h3⟩:=grow_row hD (e:=41) rfl hR (zs:=[]) (fun v hv=>by cases hv) (c:=#[]) ⟨rfl,by simp,by simp⟩ hzs (cap:=grownCap w (0+n) 0 41) (Nat.zero_le _)
 have hG:=grownCap_ge w (0+n) 0 41
 have e:(#[]:Array Value)++Builtin.zeroCells z.cells (grownCap w (0+n) 0 41 - ([]:List V).length)=([]:List Value).toArray++Builtin.zeroCells z.cells (0+n - 0)++Builtin.zeroCells z.cells (grownCap w (0+n) 0 41 - (0+n)):=by
  rw [Array.append_assoc,zeroCells_add]
  congr 2
  simp only [List.length_nil]
  omega
 rw [e] at h1 h2 h3
 exact ⟨_,G',rfl,h1,h2,h3⟩
end
section
open Go
def headOk (h:List Fd):Bool:=h.all fieldOk && decide (h.length≤6)
theorem cl_fds (n:Nat) (l:List Fd):Cl n (.rows none (l.map fV)):=by
 refine Cl.rows' (fun x hx=>?_)
 obtain ⟨y,_,rfl⟩:=List.mem_map.1 hx
 refine .agg ?_
 simp only [List.mem_cons,List.not_mem_nil,or_false,forall_eq_or_imp,forall_eq]
 exact ⟨.str _,.str _,.bool _⟩
def tV (l:List Fd) (max:Int):V:=.agg [.rows none (l.map fV),.int .i64 max]
theorem Cl.two {n:Nat} {a b:V} (h1:Cl n a) (h2:Cl n b):Cl n (.tup [a,b]):=by
 refine .tup ?_
 simp only [List.mem_cons,List.not_mem_nil,or_false,forall_eq_or_imp,forall_eq]
 exact ⟨h1,h2⟩
theorem Cl.three {n:Nat} {a b c:V} (h1:Cl n a) (h2:Cl n b) (h3:Cl n c):Cl n (.tup [a,b,c]):=by
 refine .tup ?_
 simp only [List.mem_cons,List.not_mem_nil,or_false,forall_eq_or_imp,forall_eq]
 exact ⟨h1,h2,h3⟩
theorem Cl.four {n:Nat} {a b c d:V} (h1:Cl n a) (h2:Cl n b) (h3:Cl n c) (h4:Cl n d):Cl n (.tup [a,b,c,d]):=by
 refine .tup ?_
 simp only [List.mem_cons,List.not_mem_nil,or_false,forall_eq_or_imp,forall_eq]
 exact ⟨h1,h2,h3,h4⟩
theorem cl_fds2 (n:Nat) (l k:List Fd):Cl n (.rows none (l.map fV++k.map fV)):=by
 rw [←List.map_append]; exact cl_fds _ _
theorem tV_eq (l:List Fd) (max:Int):tV l max=.agg [.rows none (l.map fV),.int .i64 max]:=rfl
attribute [push_cast] tV_eq
theorem cl_tab (n:Nat) (l:List Fd) (max:Int):Cl n (tV l max):=by
 refine .agg ?_
 simp only [List.mem_cons,List.not_mem_nil,or_false,forall_eq_or_imp,forall_eq]
 exact ⟨cl_fds _ _,.int _ _⟩
theorem cloneFields_ok (l:List Fd) (hl:l.length≤4000000) (S:List Blk):VCall Try.prog 40 [.rows none (l.map fV)] S fun r S'=>r=.rows none (l.map fV)∧S'=S:=by
 refine VCall.en hD Try.func40 Try.ntmps40 Try.results40 ?_
 simp -implicitDefEqProofs (disch:=omega) only [push_cast,simprocAttr,↓gd]
 exact ⟨by omega,finE (cl_fds _ _) rfl⟩
theorem clone_ok (l:List Fd) (max:Int) (hl:l.length≤4000000) (S:List Blk):VCall Try.prog 21 [tV l max] S fun r S'=>r=tV l max∧S'=S:=by
 refine VCall.ex hD (fun _=>false) (fun id=>if id=1 then [2,2,6,6,6,6,7] else []) Try.func21 Try.ntmps21 Try.results21 ?_
 simp -implicitDefEqProofs (disch:=omega) only [push_cast,simprocAttr,↓gd]
 refine (cloneFields_ok l hl _).to ?_
 simp -implicitDefEqProofs (disch:=omega) only [push_cast,simprocAttr,↓gd]
 exact fin1 (cl_tab _ _ _) rfl
theorem Concat_ok (a b:List Fd) (ha:a.length≤2000000) (hb:b.length≤2000000) (h0:0 < a.length) (S:List Blk) :
  VCall Try.prog 38 [.rows none [.rows none (a.map fV),.rows none (b.map fV)]] S fun r S'=>r=.rows none ((a++b).map fV)∧S'=S:=by
 refine VCall.en hD Try.func38 Try.ntmps38 Try.results38 ?_
 simp -implicitDefEqProofs (disch:=omega) only [push_cast,simprocAttr,↓gd]
 refine wpV_loop (fun m t S'=>∃i:Nat,m=2 - i∧i≤2∧t 0=.rows none [.rows none (a.map fV),.rows none (b.map fV)]∧t 3=.int .i64 (if i=0 then 0 else if i=1 then a.length else a.length+b.length)∧t 9=.rows none [.rows none (a.map fV),.rows none (b.map fV)]∧t 10=.int .i64 2∧t 11=.int .i64 i∧S'=S) 2 ⟨0,by omega,by omega,rfl,rfl,rfl,rfl,rfl,rfl⟩ ?_
 rintro m t S' ⟨i,rfl,hi,h0,h3,h9,h10,h11,rfl⟩
 refine wpV_of0 hD ?_
 have g0:[V.rows none (a.map fV),.rows none (b.map fV)].getD 0 .junk=.rows none (a.map fV):=rfl
 have g1:[V.rows none (a.map fV),.rows none (b.map fV)].getD 1 .junk=.rows none (b.map fV):=rfl
 rcases (by omega:i=0∨i=1∨i=2) with rfl | rfl | rfl
 ·simp -implicitDefEqProofs (disch:=omega) only [push_cast,simprocAttr,h0,h3,h9,h10,h11,g0,↓gd]
  refine ⟨fun h=>by omega,fun h=>?_⟩
  exact ⟨1,by omega,1,rfl,by omega,by simp,rfl⟩
 ·simp -implicitDefEqProofs (disch:=omega) only [push_cast,simprocAttr,h0,h3,h9,h10,h11,g1,↓gd]
  exact ⟨fun h=>by omega,fun h=>⟨0,by omega,2,rfl,by omega,by simp,rfl⟩⟩
 ·simp -implicitDefEqProofs (disch:=omega) only [push_cast,simprocAttr,h0,h3,h9,h10,h11,↓gd]
  refine ((Grow_ok (a.length+b.length) (by omega) (by omega) S').as (by simp)).to ?_
  simp -implicitDefEqProofs (disch:=omega) only [push_cast,simprocAttr,h0,h3,h9,h10,h11,↓gd]
  refine wpV_loop (fun m t S2=>∃(i τ:Nat),m=2 - i∧i≤2∧t 6=.rows (some τ) ((if i=0 then [] else if i=1 then a else a++b).map fV)∧t 25=.rows none [.rows none (a.map fV),.rows none (b.map fV)]∧t 26=.int .i64 2∧t 27=.int .i64 i∧Tok S' S2 τ 3) 2 ⟨0,_,by omega,by omega,rfl,rfl,rfl,rfl,Tok.new _ _⟩ ?_
  clear h0 h3 h9 h10 h11
  rintro m t S2 ⟨i,τ,rfl,hi,h6,h25,h26,h27,hT⟩
  have hat:=hT.at
  refine wpV_of0 hD ?_
  rcases (by omega:i=0∨i=1∨i=2) with rfl | rfl | rfl
  ·simp -implicitDefEqProofs (disch:=omega) only [push_cast,simprocAttr,h6,h25,h26,h27,g0,hat,↓gd]
   exact ⟨by omega,1,by omega,1,_,rfl,by omega,rfl,by simp,hT.step⟩
  ·simp -implicitDefEqProofs (disch:=omega) only [push_cast,simprocAttr,h6,h25,h26,h27,g1,hat,↓gd]
   refine ⟨by omega,by omega,0,by omega,2,_,rfl,by omega,by simp,by simp,hT.step⟩
  ·simp -implicitDefEqProofs (disch:=omega) only [push_cast,simprocAttr,h6,h25,h26,h27,↓gd]
   exact hT.finE (cl_fds2 _ _ _) rfl
theorem all_ok (l:List Fd) (max:Int) (hl:l.length≤2000000) (S:List Blk):VCall Try.prog 50 [tV l max] S fun r S'=>r=.rows none ((fixedFds++l).map fV)∧S'=S:=by
 refine VCall.ex hD (fun _=>false) (fun id=>if id=1 then [3,3,3,4,6,6] else []) Try.func50 Try.ntmps50 Try.results50 ?_
 simp -implicitDefEqProofs (disch:=omega) only [push_cast,simprocAttr,↓gd]
 refine (TableFixed_ok _).to ?_
 simp -implicitDefEqProofs (disch:=omega) only [push_cast,simprocAttr,↓gd]
 refine (Concat_ok fixedFds l (by decide) hl (by decide) _).to ?_
 simp -implicitDefEqProofs (disch:=omega) only [push_cast,simprocAttr,↓gd]
 exact fin1 (cl_fds2 _ _ _) rfl
theorem l3All_ok (l:List Fd) (max:Int) (hl:l.length≤2000000) (S:List Blk):VCall Try.prog 55 [tV l max] S fun r S'=>r=.rows none ((fixedFds++l).map fV)∧S'=S:=by
 refine VCall.ex hD (fun _=>false) (fun id=>if id=1 then [3,3,3,5,5] else []) Try.func55 Try.ntmps55 Try.results55 ?_
 simp -implicitDefEqProofs (disch:=omega) only [push_cast,simprocAttr,↓gd]
 refine (sTableFixed_ok _).to ?_
 simp -implicitDefEqProofs (disch:=omega) only [push_cast,simprocAttr,↓gd]
 exact ⟨by omega,by decide,finE (cl_fds2 _ _ _) rfl⟩
theorem drop_fd {l:List Fd} {i:Nat} (h:i < l.length):l.drop i=l.getD i fd0 :: l.drop (i+1):=by
 rw [List.drop_eq_getElem_cons h,List.getD,List.getElem?_eq_getElem h]; rfl
end
section
open Go
theorem hDf:TypesOk Try.prog (wrOf D [41]):=wrOk hD _
def fcs (l:List Fd):List V:=l.flatMap fun f=>[.str f.name,.str f.val,.bool f.never]
theorem fcs_len (l:List Fd):(fcs l).length=l.length * 3:=by
 induction l with
 | nil=>rfl
 | cons a l ih=>simp only [fcs,List.flatMap_cons,List.length_append,List.length_cons] at ih ⊢; simp only [List.length_nil] at ih ⊢; omega
theorem fcs_app (l k:List Fd):fcs (l++k)=fcs l++fcs k:=by simp [fcs]
theorem fcs_at {l:List Fd} {i:Nat} (h:i < l.length) (Y:List V):((fcs l++Y).drop (i * 3)).take 3=[.str (l.getD i fd0).name,.str (l.getD i fd0).val,.bool (l.getD i fd0).never]:=by
 obtain ⟨a,b,hab,ha⟩:∃a b,l=a++l.getD i fd0 :: b∧a.length=i:=⟨l.take i,l.drop (i+1),by rw [←drop_fd h,List.take_append_drop],by simp; omega⟩
 have e:fcs l=fcs a++([V.str (l.getD i fd0).name,V.str (l.getD i fd0).val,V.bool (l.getD i fd0).never]++fcs b):=by
  conv=>lhs; rw [hab]
  rw [fcs_app]; rfl
 rw [e,←ha,←fcs_len,List.append_assoc,List.drop_left]
 rfl
theorem fcs_of (l:List Fd):List.map eraseC (List.flatMap V.cells (List.map fV l))=fcs l:=by
 induction l with
 | nil=>rfl
 | cons a l ih=>simp only [List.map_cons,List.flatMap_cons,List.map_append,ih]; rfl
theorem keep_tab (w:List Fd) (max:Int) (S A:List Blk):∃r S2,Wk S (.agg [.rows (some (S.length+A.length)) (w.map fV),.int .i64 max]) (S++(A++[.right 3])) r S2∧r=.agg [.rows (some S.length) (w.map fV),.int .i64 max]∧S2=S++[.right 3]:=by
 refine ⟨_,_,Wk.keep (fun j=>if j < S.length then j else S.length+A.length) (by simp) (fun j hj=>if_pos hj) ?_ (r':=.agg [.rows (some S.length) (w.map fV),.int .i64 max]) ?_ ?_ ?_,rfl,rfl⟩
 ·intro i j hi hj he
  simp only [List.length_append,List.length_cons,List.length_nil] at hi hj
  by_cases h:i < S.length <;> by_cases h':j < S.length <;> simp [h,h'] at he <;> omega
 ·simp [renT,ren1,renC]
 ·intro u hu
  simp only [V.cells,List.mem_cons,List.not_mem_nil,or_false] at hu
  rcases hu with rfl | rfl
  ·refine .rows (fun τ hτ=>by cases hτ; simp) (fun v hv=>?_)
   obtain ⟨x,hx,hvx⟩:=List.mem_flatMap.1 hv
   obtain ⟨f,_,rfl⟩:=List.mem_map.1 hx
   simp only [fV,V.cells,List.mem_cons,List.not_mem_nil,or_false] at hvx
   rcases hvx with rfl | rfl | rfl
   ·exact .str _
   ·exact .str _
   ·exact .bool _
  ·exact .cl (.int _ _)
 ·intro j B' hj
  rcases Nat.lt_or_ge j S.length with g | g
  ·rw [List.getElem?_append_left g] at hj
   refine .inl ⟨g,hj,?_⟩
   rw [List.getElem?_append_left g]
   exact hj
  ·have:j=S.length:=by
    rcases Nat.lt_or_ge j (S.length+1) with q | q
    ·omega
    ·rw [List.getElem?_eq_none (by simpa using q)] at hj; cases hj
   subst this
   rw [List.getElem?_append_right (Nat.le_refl _),Nat.sub_self] at hj
   cases hj
   refine .inr ⟨.right 3,?_,.right⟩
   simp only [Nat.lt_irrefl,if_false]
   rw [List.getElem?_append_right (by omega),List.getElem?_append_right (by omega)]
   rw [show S.length+A.length - S.length - A.length=0 by omega]
   rfl
theorem fit_end (w:List Fd) (max:Int) (S A:List Blk) (Y:List V):∃r S2,Wk S (.agg [.heap (S.length+A.length) w.length,.int .i64 max]) (S++(A++[.cells 3 (fcs w++Y)])) r S2∧r=.agg [.rows (some S.length) (w.map fV),.int .i64 max]∧S2=S++[.right 3]:=by
 have hfl:=fcs_len w
 have h1:=Wk.freeze (S0:=S) (S:=S++(A++[.cells 3 (fcs w++Y)])) (r:=.agg [.heap (S.length+A.length) w.length,.int .i64 max]) (b:=S.length+A.length) (m:=w.length) (sz:=3) (cs:=fcs w++Y) (w.map fV) (by decide)
  (by rw [List.getElem?_append_right (by omega),List.getElem?_append_right (by omega)]; simp) (by simp; omega) (by simp) (by
   rw [←hfl,List.take_left]
   induction w with
   | nil=>rfl
   | cons a l ih=>simp only [List.map_cons,List.flatMap_cons,ih (fcs_len l)]; rfl)
 simp only [fr1,frC,List.map_cons,List.map_nil,and_self,if_true] at h1
 obtain ⟨r,S2,h2,h3⟩:=keep_tab w max S (A++[.dead])
 refine ⟨r,S2,h1.trans ?_,h3⟩
 have e1:(S++(A++[Blk.cells 3 (fcs w++Y)])).length=S.length+(A++[Blk.dead]).length:=by simp
 have e2:(S++(A++[Blk.cells 3 (fcs w++Y)])).set (S.length+A.length) Blk.dead++[Blk.right 3]=S++(A++[Blk.dead]++[.right 3]):=by
  rw [List.set_append_right _ _ (by omega),Nat.add_sub_cancel_left,List.set_append_right _ _ (by omega),Nat.sub_self]; simp
 rw [e1,e2]
 exact h2
theorem l3SizeH_ok (l:List Fd) (hl:FdsB l) (b:Nat) (Y:List V) (S:List Blk) (hS:S[b]?=some (.cells 3 (fcs l++Y))):VCall Try.prog 27 [.heap b l.length] S fun r S'=>r=.int .i64 (fdsSize l)∧S'=S:=by
 obtain ⟨hlen,hb⟩:=hl
 refine VCall.en hDf Try.func27 Try.ntmps27 Try.results27 ?_
 simp -implicitDefEqProofs (disch:=omega) only [push_cast,simprocAttr,↓gd]
 refine wpV_loop (fun m t S'=>∃i:Nat,m=l.length - i∧i≤l.length∧t 0=.heap b l.length∧t 3=.int .i64 (fdsSize (l.take i))∧t 4=.int .i64 i∧S'=S) l.length ⟨0,by omega,by omega,rfl,rfl,rfl,rfl⟩ ?_
 rintro m t S' ⟨i,rfl,hi,h0,h3,h4,rfl⟩
 refine wpV_of0 hDf ?_
 have hsz:=fdsSize_le (l.take i) (fun f hf=>hb f (List.mem_of_mem_take hf))
 have hti:(l.take i).length≤2000000:=by simp; omega
 simp -implicitDefEqProofs (disch:=omega) only [push_cast,simprocAttr,h0,h3,h4,hS,↓gd]
 refine ⟨fun h=>?_,fun h=>fin0 ?_⟩
 ·have hil:i < l.length:=by omega
  have hfb:=hb _ (getD_fd_mem hil)
  have hat:=fcs_at hil Y
  generalize hg:l.getD i fd0=g at hat hfb
  have hfl:=fcs_len l
  refine ⟨by omega,by omega,by omega,((l3One_ok g hfb S').as (by rw [hat]; rfl)).to ?_⟩
  have hone:fdSize g≤4000004:=by obtain ⟨a,b⟩:=hfb; unfold fdSize; omega
  simp -implicitDefEqProofs (disch:=omega) only [push_cast,simprocAttr,h0,h3,h4,↓gd]
  refine ⟨l.length - (i+1),by omega,i+1,rfl,by omega,?_,by simp⟩
  rw [take_fd hil,fdsSize_append,hg]
  simp
 ·have:i=l.length:=by omega
  subst this
  rw [List.take_length]
def fitN (l:List Fd) (max:Int):Nat→List Fd
 | 0=>l
 | n+1=>if max < fdsSize l then fitN l.dropLast max n else l
def fitL (l:List Fd) (max:Int):List Fd:=fitN l max l.length
theorem l3Fit_ok (l:List Fd) (max:Int) (hl:FdsB l) (hm:0≤max) (S:List Blk):VCall Try.prog 57 [tV l max] S fun r S'=>r=.agg [.rows (some S.length) ((fitL l max).map fV),.int .i64 max]∧S'=S++[.right 3]:=by
 refine VCall.ex hDf (fun _=>false) (fun id=>if id=2 then [1,5,5,5,5] else []) Try.func57 Try.ntmps57 Try.results57 ?_
 obtain ⟨hlen,hb⟩:=hl
 simp -implicitDefEqProofs (disch:=omega) only [push_cast,simprocAttr,↓gd]
 refine ⟨by omega,?_⟩
 refine wpV_loop (fun m t S'=>∃w y:List Fd,m=w.length∧w++y=l∧fitL w max=fitL l max∧t 1=.ptr S.length 0∧t 2=.ptr (S.length+1) 0∧t 3=.heap (S.length+3) w.length∧S'=S++[.cells 0 [.rows none (l.map fV),.int .i64 max],.cells 0 [.nils,.int .i64 0],.dead,.cells 3 (fcs w++fcs y)]) l.length ⟨l,[],rfl,by simp,rfl,rfl,rfl,rfl,by rw [fcs_of]; simp [fcs]⟩ ?_
 rintro m t S' ⟨w,y,rfl,hwy,hfit,h1,h2,h3,rfl⟩
 have hww:FdsB w:=⟨by have:=congrArg List.length hwy; simp at this; omega,fun f hf=>hb f (by rw [←hwy]; simp [hf])⟩
 have hwl:=hww.1
 refine wpV_of hDf (fun _=>false) (fun id=>if id=2 then [1,5,5,5,5] else []) (by kernel_rfl) ?_
 simp -implicitDefEqProofs (disch:=omega) only [push_cast,simprocAttr,h1,h2,h3,↓gd]
 refine (l3SizeH_ok w hww (S.length+3) (fcs y) _ (by simp)).to ?_
 simp -implicitDefEqProofs (disch:=omega) only [push_cast,simprocAttr,h1,h2,h3,↓gd]
 refine ⟨fun h=>?_,fun h=>?_⟩
 ·have hne:w≠[]:=fun e=>by subst e; simp [fdsSize] at h; omega
  have hpos:0 < w.length:=List.length_pos_iff.2 hne
  have hdl:w.dropLast++[w.getLast hne]=w:=List.dropLast_concat_getLast hne
  have hwy2:w.dropLast++(w.getLast hne :: y)=l:=by rw [←hwy]; conv=>{ rhs; rw [←hdl] }; rw [List.append_assoc]; rfl
  refine ⟨by omega,by omega,w.length - 1,by omega,w.dropLast,w.getLast hne :: y,by simp,hwy2,?_,?_,?_⟩
  ·rw [←hfit]
   unfold fitL
   obtain ⟨n,hn⟩:∃n,w.length=n+1:=⟨w.length - 1,by omega⟩
   rw [hn,List.length_dropLast,hn,Nat.add_sub_cancel]
   rw [fitN,if_pos (by omega)]
  ·simp
  ·conv=>{ rhs; rw [show w.getLast hne :: y=[w.getLast hne]++y from rfl,fcs_app,←List.append_assoc,←fcs_app,hdl] }
 ·have e:fitL l max=w:=by
   rw [←hfit]
   unfold fitL
   cases hn:w.length with
   | zero=>rfl
   | succ n=>rw [fitN,if_neg (by omega)]
  rw [e]
  exact fit_end w max S [_,_,_] (fcs y)
theorem fitN_sub (l:List Fd) (max:Int) (n:Nat):(∀f ∈ fitN l max n,f ∈ l)∧(fitN l max n).length≤l.length:=by
 induction n generalizing l with
 | zero=>exact ⟨fun f h=>h,Nat.le_refl _⟩
 | succ n ih =>
  rw [fitN]
  split
  ·obtain ⟨h1,h2⟩:=ih l.dropLast
   exact ⟨fun f h=>List.dropLast_subset _ (h1 f h),by simp at h2; omega⟩
  ·exact ⟨fun f h=>h,Nat.le_refl _⟩
theorem fitL_sub (l:List Fd) (max:Int):(∀f ∈ fitL l max,f ∈ l)∧(fitL l max).length≤l.length:=fitN_sub _ _ _
theorem FdsB.fit {l:List Fd} (h:FdsB l) (max:Int):FdsB (fitL l max):=by
 obtain ⟨h1,h2⟩:=fitL_sub l max
 exact ⟨Nat.le_trans h2 h.1,fun f hf=>h.2 f (h1 f hf)⟩
theorem fit_step {w:List Fd} {max:Int} (hm:0≤max) (h:max < fdsSize w):w≠[]∧fitL w.dropLast max=fitL w max:=by
 have hne:w≠[]:=fun e=>by subst e; simp [fdsSize] at h; omega
 refine ⟨hne,?_⟩
 have hpos:0 < w.length:=List.length_pos_iff.2 hne
 unfold fitL
 obtain ⟨n,hn⟩:∃n,w.length=n+1:=⟨w.length - 1,by omega⟩
 rw [hn,List.length_dropLast,hn,Nat.add_sub_cancel]
 rw [fitN,if_pos h]
theorem fit_done {w:List Fd} {max:Int} (h:¬max < fdsSize w):fitL w max=w:=by
 unfold fitL
 cases hn:w.length with
 | zero=>rfl
 | succ n=>rw [fitN,if_neg h]
theorem fit_ok (l:List Fd) (max:Int) (hl:FdsB l) (hm:0≤max) (S:List Blk):VCall Try.prog 39 [tV l max] S fun r S'=>r=tV (fitL l max) max∧S'=S:=by
 obtain ⟨hlen,hb⟩:=hl
 refine VCall.ex hD (fun _=>false) (fun id=>if id=2 then [1,5,5,5,5] else []) Try.func39 Try.ntmps39 Try.results39 ?_
 simp -implicitDefEqProofs (disch:=omega) only [push_cast,simprocAttr,↓gd]
 refine (clone_ok l max (by omega) _).to ?_
 simp -implicitDefEqProofs (disch:=omega) only [push_cast,simprocAttr,↓gd]
 refine wpV_loop (fun m t S'=>∃w y:List Fd,m=w.length∧w++y=l∧fitL w max=fitL l max∧t 2=.ptr (S.length+1) 0∧t 3=.ptr (S.length+2) 0∧S'=S++[.cells 0 [.rows none (l.map fV),.int .i64 max],.cells 0 [.nils,.int .i64 0],.cells 0 [.rows none (w.map fV),.int .i64 max]]) l.length ⟨l,[],rfl,by simp,rfl,rfl,rfl,by simp⟩ ?_
 rintro m t S' ⟨w,y,rfl,hwy,hfit,h2,h3,rfl⟩
 have hww:FdsB w:=⟨by have:=congrArg List.length hwy; simp at this; omega,fun f hf=>hb f (by rw [←hwy]; simp [hf])⟩
 have hwl:=hww.1
 refine wpV_of hD (fun _=>false) (fun id=>if id=2 then [1,5,5,5,5] else []) (by kernel_rfl) ?_
 simp -implicitDefEqProofs (disch:=omega) only [push_cast,simprocAttr,h2,h3,↓gd]
 refine (size_ok w max hww _).to ?_
 simp -implicitDefEqProofs (disch:=omega) only [push_cast,simprocAttr,h2,h3,↓gd]
 refine ⟨fun h=>?_,fun h=>?_⟩
 ·obtain ⟨hne,hst⟩:=fit_step hm h
  have hpos:0 < w.length:=List.length_pos_iff.2 hne
  have hdl:w.dropLast++[w.getLast hne]=w:=List.dropLast_concat_getLast hne
  have hwy2:w.dropLast++(w.getLast hne :: y)=l:=by rw [←hwy]; conv=>{ rhs; rw [←hdl] }; rw [List.append_assoc]; rfl
  refine ⟨by omega,by omega,w.length - 1,by omega,w.dropLast,w.getLast hne :: y,by simp,hwy2,hst.trans hfit,?_⟩
  rw [←List.map_take,show ((w.length:Int) - 1).toNat=w.length - 1 by omega,List.dropLast_eq_take]
 ·refine (clone_ok w max (by omega) _).to ?_
  simp -implicitDefEqProofs (disch:=omega) only [push_cast,simprocAttr,h2,h3,↓gd]
  refine fin1 (cl_tab _ _ _) ?_
  rw [←hfit,fit_done h]
theorem l3Add_ok (l:List Fd) (max:Int) (f:Fd) (hl:FdsB l) (hf:FdB f) (hl1:l.length≤1000000) (hm:0≤max) (S:List Blk):VCall Try.prog 46 [tV l max,fV f] S fun r S'=>r=.agg [.rows (some S.length) ((fitL (⟨f.name,f.val,false⟩ :: l) max).map fV),.int .i64 max]∧S'=S++[.right 3]:=by
 have hb:FdsB (⟨f.name,f.val,false⟩ :: l):=⟨by simp; omega,fun g hg=>by
  rcases List.mem_cons.1 hg with rfl | hg
  ·exact hf
  ·exact hl.2 g hg⟩
 refine VCall.ex hD (fun _=>false) (fun id=>if id=2 then [1,4,4,4,8,8,8,8,9,10] else []) Try.func46 Try.ntmps46 Try.results46 ?_
 simp -implicitDefEqProofs (disch:=omega) only [push_cast,simprocAttr,↓gd]
 refine ⟨by omega,((l3Fit_ok (⟨f.name,f.val,false⟩ :: l) max hb hm _).as rfl).to ?_⟩
 simp -implicitDefEqProofs (disch:=omega) only [push_cast,simprocAttr,↓gd]
 exact keep_tab _ max S [_,_,_,_,_]
theorem add_ok' (l:List Fd) (max:Int) (f:Fd) (hl:FdsB l) (hf:FdB f) (hl1:l.length≤1000000) (hm:0≤max) (S:List Blk):VCall Try.prog 20 [tV l max,fV f] S fun r S'=>r=tV (fitL (f :: l) max) max∧S'=S:=by
 have hb:FdsB (f :: l):=⟨by simp; omega,fun g hg=>by
  rcases List.mem_cons.1 hg with rfl | hg
  ·exact hf
  ·exact hl.2 g hg⟩
 refine VCall.ex hD (fun _=>false) (fun id=>if id=1 then [1,4,4,4,5,9,9,9,9,10,11] else []) Try.func20 Try.ntmps20 Try.results20 ?_
 simp -implicitDefEqProofs (disch:=omega) only [push_cast,simprocAttr,↓gd]
 refine ((Concat_ok [f] l (by simp) (by omega) (by simp) _).as rfl).to ?_
 simp -implicitDefEqProofs (disch:=omega) only [push_cast,simprocAttr,↓gd]
 refine ((fit_ok (f :: l) max hb hm _).as rfl).to ?_
 simp -implicitDefEqProofs (disch:=omega) only [push_cast,simprocAttr,↓gd]
 exact fin1 (cl_tab _ _ _) rfl
end
section
open Go
theorem fieldOk_parts {f:Fd} (h:fieldOk f=true):wordOk f.name=true∧wordOk f.val=true∧f.name≠[]∧f.name.length≤16∧f.val.length≤16:=by
 simp only [fieldOk,Bool.and_eq_true,decide_eq_true_eq] at h
 obtain ⟨⟨h1,h2⟩,h3⟩:=h
 exact ⟨h1,h2,h3,(wordOk_signs h1).2,(wordOk_signs h2).2⟩
theorem tableOk_parts {l:List Fd} {max:Int} (h:tableOk l max=true):l.length≤16∧0≤max∧max≤64∧(∀f ∈ l,fieldOk f=true∧f.never=false)∧(fdsSize l:Int)≤max:=by
 simp only [tableOk,Bool.and_eq_true,List.all_eq_true,decide_eq_true_eq,Bool.not_eq_true'] at h
 obtain ⟨⟨h1,h2,h3⟩,h4⟩:=h
 have h5:∀l:List Fd,4 * l.length≤fdsSize l:=by
  intro l
  induction l with
  | nil=>simp
  | cons f l ih=>simp only [fdsSize,List.map_cons,List.sum_cons,List.length_cons,fdSize] at ih ⊢; omega
 have:=h5 l
 exact ⟨by omega,h2,h3,h1,h4⟩
theorem headOk_parts {h:List Fd} (hk:headOk h=true):(∀f ∈ h,fieldOk f=true)∧h.length≤6:=by
 simpa [headOk,List.all_eq_true] using hk
end
section
open Go
@[push_cast] theorem set_setB (S:List Blk) (b:Nat) (B C:Blk):(S.set b B).set b C=S.set b C:=List.set_set ..
def sV (s:List UInt8):V:=.str s
theorem sV_eq (s:List UInt8):sV s=.str s:=rfl
attribute [push_cast] sV_eq
@[push_cast] theorem all_sV_len (l:List (List UInt8)):(l.map sV).all (lenIs 1)=true:=by induction l <;> simp_all [lenIs,sV,V.cells]
end
section
open Go
section
variable {S:List Blk} {b:Nat}
@[push_cast] theorem stD (B1:Blk) (l:List Blk) (B:Blk):(S.set b B1++l).set S.length B=S.set b B1++l.set 0 B:=by
 rw [List.set_append_right _ _ (by simp)]; simp
@[push_cast] theorem stE (B1:Blk) (l:List Blk) (n:Nat) (B:Blk):(S.set b B1++l).set (S.length+n) B=S.set b B1++l.set n B:=by
 rw [List.set_append_right _ _ (by simp)]; simp
@[push_cast] theorem stF (B1:Blk) (l:List Blk):(S.set b B1++l)[S.length]?=l[0]?:=by
 rw [List.getElem?_append_right (by simp)]; simp
@[push_cast] theorem stG (B1:Blk) (l:List Blk) (n:Nat):(S.set b B1++l)[S.length+n]?=l[n]?:=by
 rw [List.getElem?_append_right (by simp)]; simp
@[push_cast] theorem stH (B1:Blk):(S.set b B1).length=S.length:=List.length_set ..
end
theorem rd_lt {S:List Blk} {b:Nat} {B:Blk} (h:S[b]?=some B):b < S.length:=by
 rcases Nat.lt_or_ge b S.length with g | g
 ·exact g
 ·rw [List.getElem?_eq_none g] at h; cases h
theorem cl_fV (n:Nat) (f:Fd):Cl n (fV f):=by
 refine .agg ?_
 simp only [List.mem_cons,List.not_mem_nil,or_false,forall_eq_or_imp,forall_eq]
 exact ⟨.str _,.str _,.bool _⟩
def FdS (f:Fd):Prop:=f.name.length≤100∧f.val.length≤100
theorem FdS.b {f:Fd} (h:FdS f):FdB f:=⟨by have:=h.1; omega,by have:=h.2; omega⟩
section
variable {Z:List Blk} {c:Blk}
end
end
section
open Go
theorem fd_ext {a c:Fd}:(a.name=c.name∧a.val=c.val∧a.never=c.never)↔a=c:=by
 cases a; cases c; simp
instance:DecidableEq Fd:=fun _ _=>decidable_of_iff _ fd_ext
end
end Go.Proofs.Ytldogccmhncnoaa
