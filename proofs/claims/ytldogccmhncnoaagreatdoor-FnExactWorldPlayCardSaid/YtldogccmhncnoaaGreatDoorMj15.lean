/- A part of the proof: contracts of functions, or plain facts on which these lean. -/
import Derived.Shelf.Spec.SlicesGrow
import Derived.Test.YtldogccmhncnoaaGreatDoorMj14
namespace Go.Proofs.YtldogccmhncnoaaGreatDoor
open Go
set_option linter.unusedVariables false
set_option linter.unusedSimpArgs false
set_option maxRecDepth 100000
set_option maxHeartbeats 16000000

section
open Go
def fixedFds:List Fd:=[⟨[58,112,97,116,104],[],false⟩,⟨[58,115,116,97,116,117,115],[48],false⟩,⟨[58,115,116,97,116,117,115],[49,50],false⟩,⟨[107,105,110,100],[116,101,120,116],false⟩,⟨[115,105,122,101],[],false⟩,⟨[116,101],[116,114,97,105,108,101,114,115],false⟩]
theorem sTableFixed_ok (S:List Blk):VCall Tryz.prog 213 [] S fun r S'=>r=.rows (some S.length) (fixedFds.map fV)∧S'=S++[.right 3]:=by
 refine VCall.en hD Tryz.func213 Tryz.ntmps213 Tryz.results213 ?_
 simp -implicitDefEqProofs (disch:=omega) only [push_cast,simprocAttr,↓gd]
 exact ⟨_,_,Wk.refl _ _ _,rfl,rfl⟩
theorem TableFixed_ok (S:List Blk):VCall Tryz.prog 200 [] S fun r S'=>r=.rows (some S.length) (fixedFds.map fV)∧S'=S++[.right 3]:=by
 refine VCall.en hD Tryz.func200 Tryz.ntmps200 Tryz.results200 ?_
 simp -implicitDefEqProofs (disch:=omega) only [push_cast,simprocAttr,↓gd]
 exact ⟨_,_,Wk.refl _ _ _,rfl,rfl⟩
def fdSize (f:Fd):Nat:=f.name.length+f.val.length+4
def fdsSize (l:List Fd):Nat:=(l.map fdSize).sum
theorem fdsSize_append (l:List Fd) (f:Fd):fdsSize (l++[f])=fdsSize l+fdSize f:=by simp [fdsSize]
theorem take_fd {l:List Fd} {i:Nat} (h:i < l.length):l.take (i+1)=l.take i++[l.getD i fd0]:=by
 rw [List.take_succ_eq_append_getElem h,List.getD,List.getElem?_eq_getElem h]; rfl
theorem fdsSize_le (l:List Fd) (h:∀f ∈ l,FdB f):fdsSize l≤l.length * 4000004:=by
 induction l with
 | nil=>simp [fdsSize]
 | cons f l ih =>
  obtain ⟨h1,h2⟩:=h f (by simp)
  have:=ih (fun g hg=>h g (by simp [hg]))
  simp only [fdsSize,List.map_cons,List.sum_cons,List.length_cons,fdSize] at this ⊢
  omega
theorem getD_fd_mem {l:List Fd} {i:Nat} (h:i < l.length):l.getD i fd0 ∈ l:=by
 rw [List.getD,List.getElem?_eq_getElem h]; exact List.getElem_mem h
theorem l3One_ok (f:Fd) (hf:FdB f) (S:List Blk):VCall Tryz.prog 142 [fV f] S fun r S'=>r=.int .i64 (fdSize f)∧S'=S:=by
 obtain ⟨h1,h2⟩:=hf
 refine VCall.en hD Tryz.func142 Tryz.ntmps142 Tryz.results142 ?_
 simp -implicitDefEqProofs (disch:=omega) only [push_cast,simprocAttr,↓gd]
 exact fin1 (.int _ _) (by simp [fdSize])
theorem size_ok (l:List Fd) (max:Int) (hl:FdsB l) (S:List Blk):VCall Tryz.prog 127 [.agg [.rows none (l.map fV),.int .i64 max]] S fun r S'=>r=.int .i64 (fdsSize l)∧S'=S:=by
 obtain ⟨hlen,hb⟩:=hl
 refine VCall.en hD Tryz.func127 Tryz.ntmps127 Tryz.results127 ?_
 simp -implicitDefEqProofs (disch:=omega) only [push_cast,simprocAttr,↓gd]
 refine wpV_loop (fun m t S'=>∃i:Nat,m=l.length - i∧i≤l.length∧t 7=.rows none (l.map fV)∧t 3=.int .i64 (fdsSize (l.take i))∧t 8=.int .i64 l.length∧t 9=.int .i64 i∧∃X,S'=S++X) l.length ⟨0,by omega,by omega,rfl,rfl,rfl,rfl,_,rfl⟩ ?_
 rintro m t S' ⟨i,rfl,hi,h7,h3,h8,h9,X,rfl⟩
 refine wpV_of0 hD ?_
 have hsz:=fdsSize_le (l.take i) (fun f hf=>hb f (List.mem_of_mem_take hf))
 have hti:(l.take i).length≤2000000:=by simp; omega
 simp -implicitDefEqProofs (disch:=omega) only [push_cast,simprocAttr,h7,h3,h8,h9,↓gd]
 refine ⟨fun h=>?_,fun h=>fin1 (.int _ _) ?_⟩
 ·have hil:i < l.length:=by omega
  have hfb:=hb _ (getD_fd_mem hil)
  have hone:fdSize (l.getD i fd0)≤4000004:=by obtain ⟨a,b⟩:=hfb; unfold fdSize; omega
  obtain ⟨hna,hva⟩:=hfb
  rw [getD_fV hil]
  simp -implicitDefEqProofs (disch:=omega) only [push_cast,simprocAttr,h7,h3,h8,h9,↓gd]
  refine ⟨by omega,by omega,l.length - (i+1),by omega,i+1,rfl,by omega,?_,by simp,_,rfl⟩
  rw [take_fd hil,fdsSize_append]
  simp [fdSize]
 ·have:i=l.length:=by omega
  subst this
  rw [List.take_length]
def tableOk (l:List Fd) (max:Int):Bool:=l.all (fun f=>fieldOk f && !f.never) && (decide (0≤max) && decide (max≤64)) && decide ((fdsSize l:Int)≤max)
theorem all_fd_bad {p:Fd→Bool} {w:List Fd} {i:Nat} (h:i < w.length) (hb:p (w.getD i fd0)=false):w.all p=false:=by
 rw [Bool.eq_false_iff]
 intro ha
 have:=List.all_eq_true.1 ha _ (getD_fd_mem h)
 rw [hb] at this; cases this
theorem all_fd_succ {p:Fd→Bool} {w:List Fd} {i:Nat} (h:i < w.length) (h1:(w.take i).all p=true) (h2:p (w.getD i fd0)=true):(w.take (i+1)).all p=true:=by
 rw [take_fd h,List.all_append,h1]
 simpa using h2
theorem any_at {p:Fd→Bool} {l:List Fd} {i:Nat} (h:i < l.length) (h1:(l.take i).any p=false) (h2:p (l.getD i fd0)=true):l.any p=true :=
 List.any_eq_true.2 ⟨_,getD_fd_mem h,h2⟩
theorem findIdx_at {p:Fd→Bool} {l:List Fd} {i:Nat} (h:i < l.length) (h1:(l.take i).any p=false) (h2:p (l.getD i fd0)=true):l.findIdx p=i:=by
 rw [List.getD,List.getElem?_eq_getElem h,Option.getD_some] at h2
 rw [List.findIdx_eq h]
 refine ⟨h2,fun j hj=>?_⟩
 have:=List.any_eq_false.1 h1 l[j] (by rw [List.mem_take_iff_getElem]; exact ⟨j,by omega,rfl⟩)
 simpa using this
theorem IndexFunc_ok (l:List Fd) (fid:Nat) (caps:List V) (p:Fd→Bool) (hlen:l.length≤2000000) (S:List Blk) (hp:∀g ∈ l,VCall Tryz.prog fid (eraseArgs (fV g :: caps)) S fun r S'=>r=.bool (p g)∧S'=S) :
  VCall Tryz.prog 148 [.rows none (l.map fV),.fn fid caps] S fun r S'=>r=.int .i64 (if l.any p then (l.findIdx p:Int) else -1)∧S'=S:=by
 refine VCall.en hD Tryz.func148 Tryz.ntmps148 Tryz.results148 ?_
 simp -implicitDefEqProofs (disch:=omega) only [push_cast,simprocAttr,↓gd]
 refine wpV_loop (fun m t S'=>∃i:Nat,m=l.length - i∧i≤l.length∧(l.take i).any p=false∧t 0=.rows none (l.map fV)∧t 1=.fn fid caps∧t 7=.int .i64 l.length∧t 8=.int .i64 i∧S'=S) l.length ⟨0,by omega,by omega,by simp,rfl,rfl,rfl,rfl,rfl⟩ ?_
 rintro m t S' ⟨i,rfl,hi,hno,h0,h1,h7,h8,rfl⟩
 refine wpV_of0 hD ?_
 simp -implicitDefEqProofs (disch:=omega) only [push_cast,simprocAttr,h0,h1,h7,h8,↓gd]
 refine ⟨fun h=>?_,fun h=>?_⟩
 ·have hil:i < l.length:=by omega
  have hgd:=getD_fV hil
  have hpf:=hp _ (getD_fd_mem hil)
  generalize hf:l.getD i fd0=f at hgd hpf
  simp -implicitDefEqProofs (disch:=omega) only [push_cast,simprocAttr,h0,h1,h7,h8,hgd,↓gd]
  refine ⟨by omega,by omega,(hpf.as rfl).to ?_⟩
  cases hpv:p f
  ·simp -implicitDefEqProofs (disch:=omega) only [push_cast,simprocAttr,h0,h1,h7,h8,↓gd]
   refine ⟨l.length - (i+1),by omega,i+1,rfl,by omega,?_,by simp⟩
   rw [take_fd hil,List.any_append,hno,hf]; simp [hpv]
  ·simp -implicitDefEqProofs (disch:=omega) only [push_cast,simprocAttr,h0,h1,h7,h8,↓gd]
   refine fin0 ?_
   rw [any_at hil hno (by rw [hf,hpv]),findIdx_at hil hno (by rw [hf,hpv])]; rfl
 ·have:i=l.length:=by omega
  subst this
  rw [List.take_length] at hno
  refine fin0 ?_
  rw [hno]; rfl
theorem ContainsFunc_ok (l:List Fd) (fid:Nat) (caps:List V) (p:Fd→Bool) (hlen:l.length≤2000000) (S:List Blk) (hp:∀g ∈ l,VCall Tryz.prog fid (eraseArgs (fV g :: caps)) S fun r S'=>r=.bool (p g)∧S'=S) :
  VCall Tryz.prog 124 [.rows none (l.map fV),.fn fid caps] S fun r S'=>r=.bool (l.any p)∧S'=S:=by
 refine VCall.en hD Tryz.func124 Tryz.ntmps124 Tryz.results124 ?_
 simp -implicitDefEqProofs (disch:=omega) only [push_cast,simprocAttr,↓gd]
 refine (IndexFunc_ok l fid caps p hlen S hp).to ?_
 cases h:l.any p
 ·simp -implicitDefEqProofs (disch:=omega) only [push_cast,simprocAttr,↓gd]
  exact fin0 rfl
 ·simp -implicitDefEqProofs (disch:=omega) only [push_cast,simprocAttr,↓gd]
  exact fin0 (by simp)
theorem tableOk1_ok (f:Fd) (hf:FdB f) (S:List Blk):VCall Tryz.prog 125 [fV f] S fun r S'=>r=.bool (!fieldOk f || f.never)∧S'=S:=by
 refine VCall.en hD Tryz.func125 Tryz.ntmps125 Tryz.results125 ?_
 simp -implicitDefEqProofs (disch:=omega) only [push_cast,simprocAttr,↓gd]
 refine (FieldOk_ok f hf _).to ?_
 cases hok:fieldOk f
 ·simp -implicitDefEqProofs (disch:=omega) only [push_cast,simprocAttr,↓gd]
  exact fin1 (.bool _) rfl
 ·simp -implicitDefEqProofs (disch:=omega) only [push_cast,simprocAttr,↓gd]
  exact fin1 (.bool _) (by simp)
theorem headOk1_ok (f:Fd) (hf:FdB f) (S:List Blk):VCall Tryz.prog 146 [fV f] S fun r S'=>r=.bool (!fieldOk f)∧S'=S:=by
 refine VCall.en hD Tryz.func146 Tryz.ntmps146 Tryz.results146 ?_
 simp -implicitDefEqProofs (disch:=omega) only [push_cast,simprocAttr,↓gd]
 refine (FieldOk_ok f hf _).to ?_
 simp -implicitDefEqProofs (disch:=omega) only [push_cast,simprocAttr,↓gd]
 exact fin1 (.bool _) rfl
theorem any_not_all (l:List Fd):l.any (fun f=>!fieldOk f || f.never)=!l.all (fun f=>fieldOk f && !f.never):=by
 induction l with
 | nil=>rfl
 | cons f l ih=>simp only [List.any_cons,List.all_cons,ih,Bool.not_and,Bool.not_not]
theorem TableOk_ok (l:List Fd) (max:Int) (hl:FdsB l) (S:List Blk):VCall Tryz.prog 87 [.agg [.rows none (l.map fV),.int .i64 max]] S fun r S'=>r=.bool (tableOk l max)∧S'=S:=by
 have hl':=hl
 obtain ⟨hlen,hb⟩:=hl
 refine VCall.ex hD (fun _=>false) (fun id=>if id=1 then [2,2,6,6,6,6,11,11,11,11,11,17,17,17,17,17,17] else []) Tryz.func87 Tryz.ntmps87 Tryz.results87 ?_
 simp -implicitDefEqProofs (disch:=omega) only [push_cast,simprocAttr,↓gd]
 refine (in_ok max 0 64 _).to ?_
 cases hin:(decide ((0:Int)≤max) && decide (max≤64))
 ·simp -implicitDefEqProofs (disch:=omega) only [push_cast,simprocAttr,↓gd]
  exact fin1 (.bool _) (by rw [tableOk,hin]; simp)
 ·simp -implicitDefEqProofs (disch:=omega) only [push_cast,simprocAttr,↓gd]
  refine (ContainsFunc_ok l _ [] _ hlen _ (fun g hg=>(tableOk1_ok g (hb g hg) _).as rfl)).to ?_
  rw [any_not_all]
  cases hall:l.all (fun f=>fieldOk f && !f.never)
  ·simp -implicitDefEqProofs (disch:=omega) only [push_cast,simprocAttr,↓gd]
   exact fin1 (.bool _) (by rw [tableOk,hall]; simp)
  ·simp -implicitDefEqProofs (disch:=omega) only [push_cast,simprocAttr,↓gd]
   refine (size_ok l max hl' _).to ?_
   simp -implicitDefEqProofs (disch:=omega) only [push_cast,simprocAttr,↓gd]
   exact fin1 (.bool _) (by rw [tableOk,hin,hall]; simp)
end
section
open Go
def growRen:Go.Shelf.Ren:=⟨fun _=>183,fun t=>if t=0 then 0 else if t=3 then 3 else if t=4 then 4 else if t=9 then 9 else if t=20 then 20 else if t=22 then 32 else 143,fun g=>g⟩
theorem growLay:Lays8.n4 Tryz.prog growRen where
 mixed:=by kernel_rfl
 f4:=⟨Tryz.f183.name,by decide,by kernel_rfl⟩
 t0:=by kernel_rfl
 a0:=Tryz.isAgg0
 z0:=Tryz.sizeOf0
 v0:=Tryz.zeroValue0
 t3:=by kernel_rfl
 a3:=Tryz.isAgg3
 z3:=Tryz.sizeOf3
 v3:=Tryz.zeroValue3
 t4:=by kernel_rfl
 a4:=Tryz.isAgg4
 z4:=Tryz.sizeOf4
 v4:=Tryz.zeroValue4
 t9:=by kernel_rfl
 a9:=Tryz.isAgg9
 z9:=Tryz.sizeOf9
 v9:=Tryz.zeroValue9
 t20:=by kernel_rfl
 a20:=Tryz.isAgg20
 z20:=Tryz.sizeOf20
 v20:=Tryz.zeroValue20
 t22:=by kernel_rfl
 a22:=Tryz.isAgg32
 z22:=Tryz.sizeOf32
 v22:=Tryz.zeroValue32
theorem zeroCells_add (a:Array Value) (n m:Nat):Builtin.zeroCells a n++Builtin.zeroCells a m=Builtin.zeroCells a (n+m):=by
 apply Array.ext
 ·simp [Builtin.zeroCells,Nat.add_mul]
 ·intro i h1 h2
  rw [Array.getElem_append]
  split
  ·simp [Builtin.zeroCells]
  ·rename_i h
   simp only [Builtin.zeroCells,Array.size_map,Array.size_range,Nat.not_lt,Array.getElem_map,Array.getElem_range] at h ⊢
   congr 1
   rw [←Nat.sub_add_cancel h,Nat.add_sub_cancel,Nat.add_mul_mod_self_right]
theorem Grow_ok (n:Nat) (hn:0 < n) (hn2:n≤4194304) (S:List Blk):VCall Tryz.prog 183 [.nils,.int .i64 n] S fun r S'=>r=.rows (some S.length) []∧S'=S++[.right 3]:=by
 refine .inl ⟨⟨_,Tryz.func183,rfl,rfl⟩,_,_,⟨rfl,rfl⟩,?_⟩
 intro G w cargs hall hR
 obtain ⟨i,z,hi,hisz,hiby,hz,_,_,hzs⟩:=ty_info hD (t:=143) rfl
 have hc:cargs=#[.slice none 0 0,.int .i64 n]:=by
  obtain ⟨hl,hv⟩:=hall
  obtain ⟨l⟩:=cargs
  match l,hl with
  | [a,b],_ =>
   have h0:=hv 0 .nils a rfl rfl
   have h1:=hv 1 (.int .i64 n) b rfl rfl
   cases h0; cases h1; rfl
 subst hc
 have hcall:=Any8.slices_Grow_grow growLay i z hi hz (by rw [hisz]; decide) none 0 0 n [] w (Nat.le_refl _) (by omega) (by rw [hiby]; show (0+n) * 40≤_; omega) (by omega) (by simp) (fun _=>rfl) (fun a h=>by cases h)
 refine Calls.mono hcall ?_
 rintro e w' ⟨rfl,rfl⟩
 obtain ⟨G',h1,h2,h3⟩:=grow_row hD (e:=143) rfl hR (zs:=[]) (fun v hv=>by cases hv) (c:=#[]) ⟨rfl,by simp,by simp⟩ hzs (cap:=grownCap w (0+n) 0 143) (Nat.zero_le _)
 have hG:=grownCap_ge w (0+n) 0 143
 have e:(#[]:Array Value)++Builtin.zeroCells z.cells (grownCap w (0+n) 0 143 - ([]:List V).length)=([]:List Value).toArray++Builtin.zeroCells z.cells (0+n - 0)++Builtin.zeroCells z.cells (grownCap w (0+n) 0 143 - (0+n)):=by
  rw [Array.append_assoc,zeroCells_add]
  congr 2
  simp only [List.length_nil]
  omega
 rw [e] at h1 h2 h3
 exact ⟨_,G',rfl,h1,h2,h3⟩
end
section
open Go
def headOk (h:List Fd):Bool:=h.all fieldOk && decide (h.length≤6)
theorem sHeadOk_ok (l:List Fd) (hl:FdsB l) (S:List Blk):VCall Tryz.prog 112 [.rows none (l.map fV)] S fun r S'=>r=.bool (headOk l)∧S'=S:=by
 obtain ⟨hlen,hb⟩:=hl
 refine VCall.en hD Tryz.func112 Tryz.ntmps112 Tryz.results112 ?_
 simp -implicitDefEqProofs (disch:=omega) only [push_cast,simprocAttr,↓gd]
 refine wpV_loop (fun m t S'=>∃i:Nat,m=l.length - i∧i≤l.length∧(l.take i).all fieldOk=true∧t 0=.rows none (l.map fV)∧t 3=.int .i64 i∧S'=S) l.length ⟨0,by omega,by omega,by simp,rfl,rfl,rfl⟩ ?_
 rintro m t S' ⟨i,rfl,hi,hno,h0,h3,rfl⟩
 refine wpV_of0 hD ?_
 simp -implicitDefEqProofs (disch:=omega) only [push_cast,simprocAttr,h0,h3,↓gd]
 refine ⟨fun h=>⟨by omega,by omega,?_⟩,fun h=>?_⟩
 ·have hil:i < l.length:=by omega
  have hfb:=hb _ (getD_fd_mem hil)
  have hgd:=getD_fV hil
  generalize hf:l.getD i fd0=f at hfb hgd
  simp -implicitDefEqProofs (disch:=omega) only [push_cast,simprocAttr,h0,h3,hgd,↓gd]
  refine (sFieldOk_ok f hfb _).to ?_
  cases hok:fieldOk f
  ·simp -implicitDefEqProofs (disch:=omega) only [push_cast,simprocAttr,h0,h3,↓gd]
   exact fin0 (by rw [headOk,all_fd_bad hil (by rw [hf,hok])]; rfl)
  ·simp -implicitDefEqProofs (disch:=omega) only [push_cast,simprocAttr,h0,h3,↓gd]
   exact ⟨l.length - (i+1),by omega,i+1,rfl,by omega,all_fd_succ hil hno (by rw [hf,hok]),by simp⟩
 ·have:i=l.length:=by omega
  subst this
  rw [List.take_length] at hno
  refine fin0 ?_
  rw [headOk,hno]
  simp
  omega
theorem HeadOk_ok (l:List Fd) (hl:FdsB l) (S:List Blk):VCall Tryz.prog 121 [.rows none (l.map fV)] S fun r S'=>r=.bool (headOk l)∧S'=S:=by
 obtain ⟨hlen,hb⟩:=hl
 refine VCall.en hD Tryz.func121 Tryz.ntmps121 Tryz.results121 ?_
 by_cases h6:l.length≤6
 ·have h6':(l.length:Int)≤6:=by omega
  simp -implicitDefEqProofs (disch:=omega) only [push_cast,simprocAttr,h6',↓gd]
  refine (ContainsFunc_ok l _ [] _ hlen _ (fun g hg=>(headOk1_ok g (hb g hg) _).as rfl)).to ?_
  simp -implicitDefEqProofs (disch:=omega) only [push_cast,simprocAttr,↓gd]
  refine fin0 ?_
  rw [headOk,decide_eq_true h6,List.not_any_eq_all_not]
  simp
 ·have h6':¬(l.length:Int)≤6:=by omega
  simp -implicitDefEqProofs (disch:=omega) only [push_cast,simprocAttr,h6',↓gd]
  exact fin0 (by rw [headOk,decide_eq_false h6]; simp)
theorem cl_fds (n:Nat) (l:List Fd):Cl n (.rows none (l.map fV)):=by
 refine Cl.rows' (fun x hx=>?_)
 obtain ⟨y,_,rfl⟩:=List.mem_map.1 hx
 refine .agg ?_
 simp only [List.mem_cons,List.not_mem_nil,or_false,forall_eq_or_imp,forall_eq]
 exact ⟨.str _,.str _,.bool _⟩
def tV (l:List Fd) (max:Int):V:=.agg [.rows none (l.map fV),.int .i64 max]
theorem Cl.two {n:Nat} {a b:V} (h1:Cl n a) (h2:Cl n b):Cl n (.tup [a,b]):=by
 refine .tup ?_
 simp only [List.mem_cons,List.not_mem_nil,or_false,forall_eq_or_imp,forall_eq]
 exact ⟨h1,h2⟩
theorem Cl.three {n:Nat} {a b c:V} (h1:Cl n a) (h2:Cl n b) (h3:Cl n c):Cl n (.tup [a,b,c]):=by
 refine .tup ?_
 simp only [List.mem_cons,List.not_mem_nil,or_false,forall_eq_or_imp,forall_eq]
 exact ⟨h1,h2,h3⟩
theorem Cl.four {n:Nat} {a b c d:V} (h1:Cl n a) (h2:Cl n b) (h3:Cl n c) (h4:Cl n d):Cl n (.tup [a,b,c,d]):=by
 refine .tup ?_
 simp only [List.mem_cons,List.not_mem_nil,or_false,forall_eq_or_imp,forall_eq]
 exact ⟨h1,h2,h3,h4⟩
theorem cl_fds2 (n:Nat) (l k:List Fd):Cl n (.rows none (l.map fV++k.map fV)):=by
 rw [←List.map_append]; exact cl_fds _ _
theorem tV_eq (l:List Fd) (max:Int):tV l max=.agg [.rows none (l.map fV),.int .i64 max]:=rfl
attribute [push_cast] tV_eq
theorem cl_tab (n:Nat) (l:List Fd) (max:Int):Cl n (tV l max):=by
 refine .agg ?_
 simp only [List.mem_cons,List.not_mem_nil,or_false,forall_eq_or_imp,forall_eq]
 exact ⟨cl_fds _ _,.int _ _⟩
theorem cloneFields_ok (l:List Fd) (hl:l.length≤4000000) (S:List Blk):VCall Tryz.prog 90 [.rows none (l.map fV)] S fun r S'=>r=.rows none (l.map fV)∧S'=S:=by
 refine VCall.en hD Tryz.func90 Tryz.ntmps90 Tryz.results90 ?_
 simp -implicitDefEqProofs (disch:=omega) only [push_cast,simprocAttr,↓gd]
 exact ⟨by omega,finE (cl_fds _ _) rfl⟩
theorem clone_ok (l:List Fd) (max:Int) (hl:l.length≤4000000) (S:List Blk):VCall Tryz.prog 89 [tV l max] S fun r S'=>r=tV l max∧S'=S:=by
 refine VCall.ex hD (fun _=>false) (fun id=>if id=1 then [2,2,6,6,6,6,7] else []) Tryz.func89 Tryz.ntmps89 Tryz.results89 ?_
 simp -implicitDefEqProofs (disch:=omega) only [push_cast,simprocAttr,↓gd]
 refine (cloneFields_ok l hl _).to ?_
 simp -implicitDefEqProofs (disch:=omega) only [push_cast,simprocAttr,↓gd]
 exact fin1 (cl_tab _ _ _) rfl
theorem Concat_ok (a b:List Fd) (ha:a.length≤2000000) (hb:b.length≤2000000) (h0:0 < a.length) (S:List Blk) :
  VCall Tryz.prog 166 [.rows none [.rows none (a.map fV),.rows none (b.map fV)]] S fun r S'=>r=.rows none ((a++b).map fV)∧S'=S:=by
 refine VCall.en hD Tryz.func166 Tryz.ntmps166 Tryz.results166 ?_
 simp -implicitDefEqProofs (disch:=omega) only [push_cast,simprocAttr,↓gd]
 refine wpV_loop (fun m t S'=>∃i:Nat,m=2 - i∧i≤2∧t 0=.rows none [.rows none (a.map fV),.rows none (b.map fV)]∧t 3=.int .i64 (if i=0 then 0 else if i=1 then a.length else a.length+b.length)∧t 9=.rows none [.rows none (a.map fV),.rows none (b.map fV)]∧t 10=.int .i64 2∧t 11=.int .i64 i∧S'=S) 2 ⟨0,by omega,by omega,rfl,rfl,rfl,rfl,rfl,rfl⟩ ?_
 rintro m t S' ⟨i,rfl,hi,h0,h3,h9,h10,h11,rfl⟩
 refine wpV_of0 hD ?_
 have g0:[V.rows none (a.map fV),.rows none (b.map fV)].getD 0 .junk=.rows none (a.map fV):=rfl
 have g1:[V.rows none (a.map fV),.rows none (b.map fV)].getD 1 .junk=.rows none (b.map fV):=rfl
 rcases (by omega:i=0∨i=1∨i=2) with rfl | rfl | rfl
 ·simp -implicitDefEqProofs (disch:=omega) only [push_cast,simprocAttr,h0,h3,h9,h10,h11,g0,↓gd]
  refine ⟨fun h=>by omega,fun h=>?_⟩
  exact ⟨1,by omega,1,rfl,by omega,by simp,rfl⟩
 ·simp -implicitDefEqProofs (disch:=omega) only [push_cast,simprocAttr,h0,h3,h9,h10,h11,g1,↓gd]
  exact ⟨fun h=>by omega,fun h=>⟨0,by omega,2,rfl,by omega,by simp,rfl⟩⟩
 ·simp -implicitDefEqProofs (disch:=omega) only [push_cast,simprocAttr,h0,h3,h9,h10,h11,↓gd]
  refine ((Grow_ok (a.length+b.length) (by omega) (by omega) S').as (by simp)).to ?_
  simp -implicitDefEqProofs (disch:=omega) only [push_cast,simprocAttr,h0,h3,h9,h10,h11,↓gd]
  refine wpV_loop (fun m t S2=>∃(i τ:Nat),m=2 - i∧i≤2∧t 6=.rows (some τ) ((if i=0 then [] else if i=1 then a else a++b).map fV)∧t 25=.rows none [.rows none (a.map fV),.rows none (b.map fV)]∧t 26=.int .i64 2∧t 27=.int .i64 i∧Tok S' S2 τ 3) 2 ⟨0,_,by omega,by omega,rfl,rfl,rfl,rfl,Tok.new _ _⟩ ?_
  clear h0 h3 h9 h10 h11
  rintro m t S2 ⟨i,τ,rfl,hi,h6,h25,h26,h27,hT⟩
  have hat:=hT.at
  refine wpV_of0 hD ?_
  rcases (by omega:i=0∨i=1∨i=2) with rfl | rfl | rfl
  ·simp -implicitDefEqProofs (disch:=omega) only [push_cast,simprocAttr,h6,h25,h26,h27,g0,hat,↓gd]
   exact ⟨by omega,1,by omega,1,_,rfl,by omega,rfl,by simp,hT.step⟩
  ·simp -implicitDefEqProofs (disch:=omega) only [push_cast,simprocAttr,h6,h25,h26,h27,g1,hat,↓gd]
   refine ⟨by omega,by omega,0,by omega,2,_,rfl,by omega,by simp,by simp,hT.step⟩
  ·simp -implicitDefEqProofs (disch:=omega) only [push_cast,simprocAttr,h6,h25,h26,h27,↓gd]
   exact hT.finE (cl_fds2 _ _ _) rfl
theorem all_ok (l:List Fd) (max:Int) (hl:l.length≤2000000) (S:List Blk):VCall Tryz.prog 181 [tV l max] S fun r S'=>r=.rows none ((fixedFds++l).map fV)∧S'=S:=by
 refine VCall.ex hD (fun _=>false) (fun id=>if id=1 then [3,3,3,4,6,6] else []) Tryz.func181 Tryz.ntmps181 Tryz.results181 ?_
 simp -implicitDefEqProofs (disch:=omega) only [push_cast,simprocAttr,↓gd]
 refine (TableFixed_ok _).to ?_
 simp -implicitDefEqProofs (disch:=omega) only [push_cast,simprocAttr,↓gd]
 refine (Concat_ok fixedFds l (by decide) hl (by decide) _).to ?_
 simp -implicitDefEqProofs (disch:=omega) only [push_cast,simprocAttr,↓gd]
 exact fin1 (cl_fds2 _ _ _) rfl
theorem l3All_ok (l:List Fd) (max:Int) (hl:l.length≤2000000) (S:List Blk):VCall Tryz.prog 196 [tV l max] S fun r S'=>r=.rows none ((fixedFds++l).map fV)∧S'=S:=by
 refine VCall.ex hD (fun _=>false) (fun id=>if id=1 then [3,3,3,5,5] else []) Tryz.func196 Tryz.ntmps196 Tryz.results196 ?_
 simp -implicitDefEqProofs (disch:=omega) only [push_cast,simprocAttr,↓gd]
 refine (sTableFixed_ok _).to ?_
 simp -implicitDefEqProofs (disch:=omega) only [push_cast,simprocAttr,↓gd]
 exact ⟨by omega,by decide,finE (cl_fds2 _ _ _) rfl⟩
def nameP (f g:Fd):Bool:=decide (g.name=f.name)
def bothP (f g:Fd):Bool:=decide (g.name=f.name) && decide (g.val=f.val)
def placeOf (l:List Fd) (f:Fd):Nat:=if (fixedFds++l).any (bothP f) then (fixedFds++l).findIdx (bothP f)+1 else if (fixedFds++l).any (nameP f) then (fixedFds++l).findIdx (nameP f)+1 else 0
def foundIn (l:List Fd) (f:Fd):Bool:=(fixedFds++l).any (bothP f)
theorem find1_ok (f g:Fd) (b:Nat) (S:List Blk) (hS:S[b]?=some (.cells 0 [.str f.name,.str f.val,.bool f.never])):VCall Tryz.prog 209 [fV g,.ptr b 0] S fun r S'=>r=.bool (bothP f g)∧S'=S:=by
 have hbl:b < S.length:=by
  rcases Nat.lt_or_ge b S.length with g | g
  ·exact g
  ·rw [List.getElem?_eq_none g] at hS; cases hS
 have hS2:∀B,(S++[B])[b]?=some (.cells 0 [.str f.name,.str f.val,.bool f.never]):=fun B=>by rw [List.getElem?_append_left hbl]; exact hS
 refine VCall.en hD Tryz.func209 Tryz.ntmps209 Tryz.results209 ?_
 by_cases h:g.name=f.name
 ·simp -implicitDefEqProofs (disch:=omega) only [push_cast,simprocAttr,hS2,h,↓gd]
  exact fin1 (.bool _) (by simp [bothP,h])
 ·simp -implicitDefEqProofs (disch:=omega) only [push_cast,simprocAttr,hS2,h,↓gd]
  exact fin1 (.bool _) (by simp [bothP,h])
theorem find2_ok (f g:Fd) (b:Nat) (S:List Blk) (hS:S[b]?=some (.cells 0 [.str f.name,.str f.val,.bool f.never])):VCall Tryz.prog 210 [fV g,.ptr b 0] S fun r S'=>r=.bool (nameP f g)∧S'=S:=by
 have hbl:b < S.length:=by
  rcases Nat.lt_or_ge b S.length with g | g
  ·exact g
  ·rw [List.getElem?_eq_none g] at hS; cases hS
 have hS2:∀B,(S++[B])[b]?=some (.cells 0 [.str f.name,.str f.val,.bool f.never]):=fun B=>by rw [List.getElem?_append_left hbl]; exact hS
 refine VCall.en hD Tryz.func210 Tryz.ntmps210 Tryz.results210 ?_
 simp -implicitDefEqProofs (disch:=omega) only [push_cast,simprocAttr,hS2,↓gd]
 exact fin1 (.bool _) rfl
theorem find_ok (l:List Fd) (max:Int) (f:Fd) (hl:l.length≤1000000) (S:List Blk):VCall Tryz.prog 189 [tV l max,fV f] S fun r S'=>r=.tup [.int .i64 (placeOf l f),.bool (foundIn l f)]∧S'=S:=by
 refine VCall.en hD Tryz.func189 Tryz.ntmps189 Tryz.results189 ?_
 simp -implicitDefEqProofs (disch:=omega) only [push_cast,simprocAttr,↓gd]
 refine (all_ok l max (by omega) _).to ?_
 obtain ⟨w,hw⟩:∃w,w=fixedFds++l:=⟨_,rfl⟩
 have hwl:w.length≤2000000:=by rw [hw]; simp [fixedFds]; omega
 have hix:w.findIdx (nameP f)≤w.length:=List.findIdx_le_length
 have hix2:w.findIdx (bothP f)≤w.length:=List.findIdx_le_length
 rw [←hw]
 simp -implicitDefEqProofs (disch:=omega) only [push_cast,simprocAttr,↓gd]
 refine (IndexFunc_ok w _ [.ptr (S.length+1) 0] (bothP f) hwl _ (fun g hg=>(find1_ok f g (S.length+1) _ (by simp)).as rfl)).to ?_
 cases h:w.any (bothP f)
 ·simp -implicitDefEqProofs (disch:=omega) only [push_cast,simprocAttr,↓gd]
  refine (IndexFunc_ok w _ [.ptr (S.length+1) 0] (nameP f) hwl _ (fun g hg=>(find2_ok f g (S.length+1) _ (by simp)).as rfl)).to ?_
  cases h2:w.any (nameP f)
  ·simp -implicitDefEqProofs (disch:=omega) only [push_cast,simprocAttr,↓gd]
   exact fin1 (Cl.two (.int _ _) (.bool _)) (by simp [placeOf,foundIn,←hw,h,h2])
  ·simp -implicitDefEqProofs (disch:=omega) only [push_cast,simprocAttr,↓gd]
   exact fin1 (Cl.two (.int _ _) (.bool _)) (by simp [placeOf,foundIn,←hw,h,h2])
 ·simp -implicitDefEqProofs (disch:=omega) only [push_cast,simprocAttr,↓gd]
  exact ⟨fun _=>fin1 (Cl.two (.int _ _) (.bool _)) (by simp [placeOf,foundIn,←hw,h]),fun g=>absurd (by omega) g⟩
def firstAt (p:Fd→Bool) (l:List Fd) (i:Nat):Nat:=if (l.drop i).any p then i+(l.drop i).findIdx p+1 else 0
theorem drop_fd {l:List Fd} {i:Nat} (h:i < l.length):l.drop i=l.getD i fd0 :: l.drop (i+1):=by
 rw [List.drop_eq_getElem_cons h,List.getD,List.getElem?_eq_getElem h]; rfl
theorem firstAt_end (p:Fd→Bool) (l:List Fd):firstAt p l l.length=0:=by simp [firstAt]
theorem firstAt_yes {p:Fd→Bool} {l:List Fd} {i:Nat} (h:i < l.length) (hp:p (l.getD i fd0)=true):firstAt p l i=i+1:=by
 rw [firstAt,drop_fd h,List.any_cons,hp,List.findIdx_cons,hp]; simp
theorem firstAt_no {p:Fd→Bool} {l:List Fd} {i:Nat} (h:i < l.length) (hp:p (l.getD i fd0)=false):firstAt p l i=firstAt p l (i+1):=by
 rw [firstAt,firstAt,drop_fd h,List.any_cons,hp,List.findIdx_cons,hp]
 cases (l.drop (i+1)).any p
 ·rfl
 ·show i+((l.drop (i+1)).findIdx p+1)+1=i+1+(l.drop (i+1)).findIdx p+1
  omega
theorem firstAt_le (p:Fd→Bool) (l:List Fd) (i:Nat) (h:i≤l.length):firstAt p l i≤l.length+1:=by
 have:(l.drop i).findIdx p≤(l.drop i).length:=List.findIdx_le_length
 rw [List.length_drop] at this
 unfold firstAt; split <;> omega
theorem l3Find_ok (l:List Fd) (max:Int) (f:Fd) (hl:l.length≤1000000) (S:List Blk):VCall Tryz.prog 191 [tV l max,fV f] S fun r S'=>r=.tup [.int .i64 (placeOf l f),.bool (foundIn l f)]∧S'=S:=by
 obtain ⟨w,hw⟩:∃w,w=fixedFds++l:=⟨_,rfl⟩
 have hwl:w.length≤2000000:=by rw [hw]; simp [fixedFds]; omega
 obtain ⟨Sx,hSx⟩:∃Sx,Sx=S++[Blk.cells 0 [V.rows none (List.map fV l),V.int IntKind.i64 max],Blk.cells 0 [V.str f.name,V.str f.val,V.bool f.never]]:=⟨_,rfl⟩
 have hTb:Sx[S.length+1]?=some (Blk.cells 0 [V.str f.name,V.str f.val,V.bool f.never]):=by rw [hSx]; simp
 refine VCall.ex hD (fun _=>false) (fun id=>if id=6 then [8,8,8,8,8,8,8,8] else if id=11 then [18,18,18,18,18,18,18,18,18,18,18,18,18,18,18,18,18,18] else []) Tryz.func191 Tryz.ntmps191 Tryz.results191 ?_
 simp -implicitDefEqProofs (disch:=omega) only [push_cast,simprocAttr,↓gd]
 refine (l3All_ok l max (by omega) _).to ?_
 rw [←hw,←hSx]
 simp -implicitDefEqProofs (disch:=omega) only [push_cast,simprocAttr,↓gd]
 refine wpV_loop (fun m t S'=>m≤w.length∧t 3=.ptr (S.length+1) 0∧t 6=.rows none (w.map fV)∧t 7=.int .i64 (firstAt (nameP f) w m)∧t 8=.int .i64 ((m:Int) - 1)∧S'=Sx) w.length ⟨Nat.le_refl _,rfl,rfl,by rw [firstAt_end]; rfl,rfl,rfl⟩ ?_
 rintro m t S' ⟨hm,h3,h6,h7,h8,rfl⟩
 refine wpV_of hD (fun _=>false) (fun id=>if id=6 then [8,8,8,8,8,8,8,8] else if id=11 then [18,18,18,18,18,18,18,18,18,18,18,18,18,18,18,18,18,18] else []) (by kernel_rfl) ?_
 have hfa:=firstAt_le (nameP f) w m hm
 rcases m with _ | k
 ·have h8':t 8=.int .i64 (-1):=h8
  simp -implicitDefEqProofs (disch:=omega) only [push_cast,simprocAttr,h3,h6,h7,h8',↓gd]
  clear h8 h8' hm
  refine wpV_loop (fun m t S2=>∃i:Nat,m=w.length - i∧i≤w.length∧(w.take i).any (bothP f)=false∧t 3=.ptr (S.length+1) 0∧t 6=.rows none (w.map fV)∧t 7=.int .i64 (firstAt (nameP f) w 0)∧t 9=.int .i64 i∧S2=S') w.length ⟨0,by omega,by omega,by simp,h3,h6,h7,rfl,rfl⟩ ?_
  clear h3 h6 h7
  rintro m t S2 ⟨i,rfl,hi,hno,h3,h6,h7,h9,rfl⟩
  refine wpV_of hD (fun _=>false) (fun id=>if id=11 then [18,18,18,18,18,18,18,18,18,18,18,18,18,18,18,18,18,18] else []) (by kernel_rfl) ?_
  simp -implicitDefEqProofs (disch:=omega) only [push_cast,simprocAttr,h3,h6,h7,h9,↓gd]
  refine ⟨fun h=>⟨by omega,by omega,?_⟩,fun h=>?_⟩
  ·have hil:i < w.length:=by omega
   have hgd:=getD_fV hil
   generalize hg:w.getD i fd0=g at hgd
   by_cases hn:g.name=f.name
   ·by_cases hv:g.val=f.val
    ·simp -implicitDefEqProofs (disch:=omega) only [push_cast,simprocAttr,h3,h6,h7,h9,hgd,hTb,hn,hv,↓gd]
     refine ⟨by omega,by omega,?_⟩
     rw [hSx]
     refine fin1 (Cl.two (.int _ _) (.bool _)) ?_
     have hb:bothP f (w.getD i fd0)=true:=by rw [hg]; simp [bothP,hn,hv]
     simp [placeOf,foundIn,←hw,any_at hil hno hb,findIdx_at hil hno hb]
    ·simp -implicitDefEqProofs (disch:=omega) only [push_cast,simprocAttr,h3,h6,h7,h9,hgd,hTb,hn,hv,↓gd]
     exact ⟨by omega,by omega,w.length - (i+1),by omega,i+1,rfl,by omega,by rw [take_fd hil,List.any_append,hno,hg]; simp [bothP,hv],by simp⟩
   ·simp -implicitDefEqProofs (disch:=omega) only [push_cast,simprocAttr,h3,h6,h7,h9,hgd,hTb,hn,↓gd]
    exact ⟨w.length - (i+1),by omega,i+1,rfl,by omega,by rw [take_fd hil,List.any_append,hno,hg]; simp [bothP,hn],by simp⟩
  ·have:i=w.length:=by omega
   subst this
   rw [List.take_length] at hno
   rw [hSx]
   refine fin1 (Cl.two (.int _ _) (.bool _)) ?_
   simp [placeOf,foundIn,←hw,hno,firstAt]
 ·have h8':t 8=.int .i64 (k:Int):=by rw [h8]; congr 1; omega
  have hkl:k < w.length:=by omega
  have hgd:=getD_fV (l:=w) (i:=k) (by omega)
  generalize hg:w.getD k fd0=g at hgd
  simp -implicitDefEqProofs (disch:=omega) only [push_cast,simprocAttr,h3,h6,h7,h8',hgd,hTb,↓gd]
  refine ⟨fun _=>⟨by omega,by omega,fun hn=>⟨k,by omega,by omega,?_,rfl⟩,fun hn=>⟨k,by omega,by omega,?_,rfl⟩⟩,fun h=>absurd (by omega) h⟩
  ·rw [firstAt_yes hkl (by rw [hg]; simp [nameP,hn])]; rfl
  ·rw [firstAt_no hkl (by rw [hg]; simp [nameP,hn])]
end
end Go.Proofs.YtldogccmhncnoaaGreatDoor
