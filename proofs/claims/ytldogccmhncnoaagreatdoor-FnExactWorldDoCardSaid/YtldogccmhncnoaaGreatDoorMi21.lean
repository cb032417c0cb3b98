/- A part of the proof: contracts of functions, or plain facts on which these lean. -/
import Derived.Test.YtldogccmhncnoaaGreatDoorMi20
namespace Go.Proofs.YtldogccmhncnoaaGreatDoor
open Go
set_option linter.unusedVariables false
set_option linter.unusedSimpArgs false
set_option maxRecDepth 100000
set_option maxHeartbeats 16000000

section
open Go
def HSa (sz:Nat) (cs:List V) (n:Nat) (S:List Blk) (v:V):Prop:=(∃b,v=.heap b n∧S[b]?=some (.cells sz cs))∨(n=0∧cs=[]∧v=.rows none [])
theorem HSa.one {sz n:Nat} {cs:List V} {S:List Blk} {v:V} (h:HSa sz cs n S v):V.one v=true:=by
 rcases h with ⟨b,rfl,_⟩ | ⟨_,_,rfl⟩ <;> rfl
theorem HSa.len {sz n:Nat} {cs:List V} {S:List Blk} {v:V} (h:HSa sz cs n S v) {D:Nat→TD} {t e:Nat} (ht:(D t).k=.slc e) (k:V→Prop):evLen D t v k=k (.int .i64 n):=by
 rcases h with ⟨b,rfl,_⟩ | ⟨rfl,_,rfl⟩
 ·simp only [evLen,ht]; simp
 ·simp only [evLen,ht]; simp
theorem HSa.heap {sz n:Nat} {cs:List V} {S:List Blk} {v:V} (h:HSa sz cs n S v) (hn:0 < n):∃b,v=.heap b n∧S[b]?=some (.cells sz cs):=by
 rcases h with h | ⟨h,_⟩
 ·exact h
 ·omega
theorem strsC_get {l:List St} {i:Nat} (h:i < l.length) {c:Nat} (hc:c < 12):(strsC l)[i * 12+c]?=(strC (l.getD i st0))[c]?:=by
 rw [←strsC_at h,List.getElem?_take,if_pos hc,List.getElem?_drop]
theorem strsC_id {l:List St} {i:Nat} (h:i < l.length):(strsC l)[i * 12]?=some (.int .i64 (l.getD i st0).id):=strsC_get h (c:=0) (by decide)
structure EnB (e:En):Prop where
 sts:∀s ∈ e.strs,StB s
 len:e.strs.length≤1100000
 wait:e.wait.length≤1100000
 out:FdsB e.out
 inn:FdsB e.inn
 came:e.came.length≤1100000
theorem getD_memS {l:List St} {i:Nat} (h:i < l.length):l.getD i st0 ∈ l:=by rw [getD_lt st0 h]; exact List.getElem_mem h
theorem getD_memF {l:List Fr} {i:Nat} (h:i < l.length):l.getD i fr0 ∈ l:=by rw [getD_lt fr0 h]; exact List.getElem_mem h
theorem EnW.b {N:Nat} {e:En} (h:EnW N e) (hN:N≤1100000):EnB e:=by
 refine ⟨fun s hs=>?_,by have:=stsOk_len h.sts; omega,by have:=h.len; omega,tableOk_b h.out,tableOk_b h.inn,by have:=h.came; omega⟩
 obtain ⟨i,hi,rfl⟩:=List.getElem_of_mem hs
 have:=stsOk_at h.sts hi
 rw [getD_lt st0 hi] at this
 exact stOk_b this
theorem endOk_bad {e:En} {i:Nat} (hi:i < e.strs.length) (h:okAt e.ans e.strs i=false):endOk e=false:=by
 rw [Bool.eq_false_iff]
 intro q
 have:=(endOk_iff.1 q).sts
 rw [stsOk,List.all_eq_true] at this
 have:=this i (List.mem_range.2 hi)
 rw [h] at this
 cases this
theorem sEndOk_ok (e:En) (he:EnB e) (v w:V) (S:List Blk) (hv:HSa 12 (strsC e.strs) e.strs.length S v) (hw:HSa 4 (frmsC e.wait) e.wait.length S w) :
  VCall Tryz.prog 34 [enV v w e] S fun r S'=>r=.bool (endOk e)∧S'=S:=by
 have v1:=hv.one
 have w1:=hw.one
 have hvl:∀k,evLen D 35 v k=k (.int .i64 e.strs.length):=hv.len rfl
 have hwl:∀k,evLen D 37 w k=k (.int .i64 e.wait.length):=hw.len rfl
 have hel:=he.len
 have hwn:=he.wait
 refine VCall.ex hD (fun _=>false) (fun id=>if id=4 then [5,5,5,5,5,44,44,44,44,44,44,44,44,44,44,44,44,44,44,44,44,44,44,44,44,44,44,44,44,44,44,44,44,44,44,44,44,44,44,44,44,44,44,44] else []) Tryz.func34 Tryz.ntmps34 Tryz.results34 ?_
 simp -implicitDefEqProofs (maxSteps:=1000000) (disch:=omega) only [push_cast,simprocAttr,v1,w1,↓gd]
 refine wpV_loop (fun m t S'=>∃i:Nat,m=e.strs.length - i∧i≤e.strs.length∧(∀j,j < i→okAt e.ans e.strs j=true)∧t 1=.ptr S.length 0∧t 3=.int .i64 i∧S'=S++[.cells 0 (enC v w e)]) e.strs.length ⟨0,by omega,by omega,by omega,rfl,rfl,rfl⟩ ?_
 rintro m t S' ⟨i,rfl,hi,hok,h1,h3,rfl⟩
 refine wpV_of hD (fun _=>false) (fun id=>if id=4 then [5,5,5,5,5,44,44,44,44,44,44,44,44,44,44,44,44,44,44,44,44,44,44,44,44,44,44,44,44,44,44,44,44,44,44,44,44,44,44,44,44,44,44,44] else []) (by kernel_rfl) ?_
 simp -implicitDefEqProofs (maxSteps:=1000000) (disch:=omega) only [push_cast,simprocAttr,h1,h3,hvl,↓gd]
 refine ⟨fun h=>?_,fun h=>?_⟩
 ·have hil:i < e.strs.length:=by omega
  obtain ⟨b,rfl,hb⟩:=hv.heap (by omega)
  have hbl:=lt_of_some hb
  have hb2:∀X,(S++X)[b]?=some (.cells 12 (strsC e.strs)):=fun X=>by rw [List.getElem?_append_left hbl]; exact hb
  have hlen:=strsC_len e.strs
  have hat:=strsC_at hil
  have hid:=strsC_id hil
  have hsb:=he.sts _ (getD_memS hil)
  simp -implicitDefEqProofs (maxSteps:=1000000) (disch:=omega) only [push_cast,simprocAttr,h1,h3,hb2,hat,hid,↓gd]
  have bad:okAt e.ans e.strs i=false→endOk e=false:=fun q=>endOk_bad hil q
  have hx:okAt e.ans e.strs i=(stOk (e.strs.getD i st0) && (decide (i=0) || decide ((e.strs.getD (i - 1) st0).id < (e.strs.getD i st0).id)) && (e.ans || decide ((e.strs.getD i st0).id=2 * i+1))):=rfl
  have hid':∀_:0 < i,(strsC e.strs)[(i - 1) * 12]?=some (.int .i64 (e.strs.getD (i - 1) st0).id):=fun q=>strsC_id (l:=e.strs) (i:=i - 1) (by omega)
  generalize e.strs.getD i st0=s at hat hid hsb hx
  generalize e.strs.getD (i - 1) st0=p at hid' hx
  refine ⟨by omega,by omega,by omega,((l21Stream_ok s hsb _).as rfl).to ?_⟩
  cases hs:stOk s
  ·simp -implicitDefEqProofs (maxSteps:=1000000) (disch:=omega) only [push_cast,simprocAttr,↓gd]
   exact fin1 (.bool _) (by rw [bad (by rw [hx,hs]; rfl)])
  rw [hs,Bool.true_and] at hx
  have next:okAt e.ans e.strs i=true→∃m',m' < e.strs.length - i∧∃i':Nat,m'=e.strs.length - i'∧i'≤e.strs.length∧(∀j,j < i'→okAt e.ans e.strs j=true)∧V.int .i64 ((i:Int)+1)=.int .i64 (i':Nat):=fun q =>
   ⟨e.strs.length - (i+1),by omega,i+1,rfl,by omega,fun j hj=>by
    by_cases ej:j=i
    ·rw [ej]; exact q
    ·exact hok j (by omega),rfl⟩
  by_cases h0:i=0
  ·have hip:¬0 < (i:Int):=by omega
   cases ha:e.ans
   ·by_cases h1d:s.id=2 * (i:Int)+1
    ·have hd:=eq_true h1d
     simp -implicitDefEqProofs (maxSteps:=1000000) (disch:=omega) only [push_cast,simprocAttr,h1,h3,hb2,hat,hid,hip,hd,↓gd]
     exact ⟨by omega,by omega,ha ▸ next (by rw [hx,ha,decide_eq_true h1d,decide_eq_true h0]; rfl)⟩
    ·simp -implicitDefEqProofs (maxSteps:=1000000) (disch:=omega) only [push_cast,simprocAttr,h1,h3,hb2,hat,hid,hip,h1d,↓gd]
     exact ⟨by omega,by omega,fin1 (.bool _) (by rw [bad (by rw [hx,ha,decide_eq_false h1d]; simp)])⟩
   ·simp -implicitDefEqProofs (maxSteps:=1000000) (disch:=omega) only [push_cast,simprocAttr,h1,h3,hb2,hat,hid,hip,↓gd]
    exact ha ▸ next (by rw [hx,ha,h0]; rfl)
  ·have hip:0 < (i:Int):=by omega
   have hi0:((i:Int) - 1).toNat=i - 1:=by omega
   have hid':=hid' (by omega)
   by_cases hlt:s.id≤p.id
   ·simp -implicitDefEqProofs (maxSteps:=1000000) (disch:=omega) only [push_cast,simprocAttr,h1,h3,hb2,hat,hid,hip,hid',hi0,hlt,↓gd]
    exact ⟨by omega,by omega,by omega,by omega,fin1 (.bool _) (by rw [bad (by rw [hx,decide_eq_false h0,decide_eq_false (by omega:¬p.id < s.id)]; simp)])⟩
   ·cases ha:e.ans
    ·by_cases h1d:s.id=2 * (i:Int)+1
     ·have hd:=eq_true h1d
      simp -implicitDefEqProofs (maxSteps:=1000000) (disch:=omega) only [push_cast,simprocAttr,h1,h3,hb2,hat,hid,hid',hi0,hip,hlt,hd,↓gd]
      exact ⟨by omega,by omega,by omega,by omega,by omega,by omega,ha ▸ next (by rw [hx,ha,decide_eq_true h1d,decide_eq_true (by omega:p.id < s.id)]; simp)⟩
     ·simp -implicitDefEqProofs (maxSteps:=1000000) (disch:=omega) only [push_cast,simprocAttr,h1,h3,hb2,hat,hid,hid',hi0,hip,hlt,h1d,↓gd]
      exact ⟨by omega,by omega,by omega,by omega,by omega,by omega,fin1 (.bool _) (by rw [bad (by rw [hx,ha,decide_eq_false h1d]; simp)])⟩
    ·simp -implicitDefEqProofs (maxSteps:=1000000) (disch:=omega) only [push_cast,simprocAttr,h1,h3,hb2,hat,hid,hid',hi0,hip,hlt,↓gd]
     exact ⟨by omega,by omega,by omega,by omega,ha ▸ next (by rw [hx,ha,decide_eq_true (by omega:p.id < s.id)]; simp)⟩
 ·have:i=e.strs.length:=by omega
  subst this
  have hsts:stsOk e.ans e.strs=true:=by rw [stsOk,List.all_eq_true]; exact fun j hj=>hok j (List.mem_range.1 hj)
  refine wpV_loop (fun m t S'=>∃i:Nat,m=e.wait.length - i∧i≤e.wait.length∧(∀j,j < i→frameOk (e.wait.getD j fr0)=true)∧t 1=.ptr S.length 0∧t 4=.int .i64 i∧S'=S++[.cells 0 (enC v w e)]) e.wait.length ⟨0,by omega,by omega,by omega,h1,rfl,rfl⟩ ?_
  rintro m t S' ⟨i,rfl,hi,hwk,h1,h4,rfl⟩
  refine wpV_of0 hD ?_
  simp -implicitDefEqProofs (maxSteps:=1000000) (disch:=omega) only [push_cast,simprocAttr,h1,h4,hwl,↓gd]
  refine ⟨fun h=>?_,fun h=>?_⟩
  ·have hil:i < e.wait.length:=by omega
   obtain ⟨b,rfl,hb⟩:=hw.heap (by omega)
   have hbl:=lt_of_some hb
   have hb2:∀X,(S++X)[b]?=some (.cells 4 (frmsC e.wait)):=fun X=>by rw [List.getElem?_append_left hbl]; exact hb
   have hlen:=frmsC_len e.wait
   have hat:=frmsC_at hil
   simp -implicitDefEqProofs (maxSteps:=1000000) (disch:=omega) only [push_cast,simprocAttr,h1,h4,hb2,hat,↓gd]
   refine ⟨by omega,by omega,by omega,((sFrameOk_ok (e.wait.getD i fr0) _).as rfl).to ?_⟩
   cases hf:frameOk (e.wait.getD i fr0)
   ·simp -implicitDefEqProofs (maxSteps:=1000000) (disch:=omega) only [push_cast,simprocAttr,↓gd]
    refine fin1 (.bool _) ?_
    have:endOk e=false:=by
     rw [Bool.eq_false_iff]
     intro q
     have:=(endOk_iff.1 q).wait _ (getD_memF hil)
     rw [hf] at this; cases this
    rw [this]
   ·simp -implicitDefEqProofs (maxSteps:=1000000) (disch:=omega) only [push_cast,simprocAttr,h1,h4,↓gd]
    exact ⟨e.wait.length - (i+1),by omega,i+1,rfl,by omega,fun j hj=>by
     by_cases ej:j=i
     ·rw [ej]; exact hf
     ·exact hwk j (by omega),rfl⟩
  ·have:i=e.wait.length:=by omega
   subst this
   have hwa:e.wait.all frameOk=true:=by
    rw [List.all_eq_true]
    intro f hf
    obtain ⟨j,hj,rfl⟩:=List.getElem_of_mem hf
    have:=hwk j hj
    rwa [getD_lt fr0 hj] at this
   have hE:endOk e=(tableOk e.out e.outM && tableOk e.inn e.innM && flowOk e.send e.room && decide (e.came.length≤600) && decide (e.wait.length≤60)):=by
    simp only [endOk,hsts,hwa,Bool.true_and]
   refine ((sTableOk_ok e.out e.outM he.out _).as rfl).to ?_
   cases ht1:tableOk e.out e.outM
   ·simp -implicitDefEqProofs (maxSteps:=1000000) (disch:=omega) only [push_cast,simprocAttr,↓gd]
    exact fin1 (.bool _) (by rw [hE,ht1]; rfl)
   simp -implicitDefEqProofs (maxSteps:=1000000) (disch:=omega) only [push_cast,simprocAttr,h1,↓gd]
   refine ((sTableOk_ok e.inn e.innM he.inn _).as rfl).to ?_
   cases ht2:tableOk e.inn e.innM
   ·simp -implicitDefEqProofs (maxSteps:=1000000) (disch:=omega) only [push_cast,simprocAttr,↓gd]
    exact fin1 (.bool _) (by rw [hE,ht1,ht2]; rfl)
   simp -implicitDefEqProofs (maxSteps:=1000000) (disch:=omega) only [push_cast,simprocAttr,h1,↓gd]
   refine ((sFlowOk_ok e.send e.room _).as rfl).to ?_
   cases ht3:flowOk e.send e.room
   ·simp -implicitDefEqProofs (maxSteps:=1000000) (disch:=omega) only [push_cast,simprocAttr,↓gd]
    exact fin1 (.bool _) (by rw [hE,ht1,ht2,ht3]; rfl)
   by_cases hc:e.came.length≤600
   ·have hc':(e.came.length:Int)≤600:=by omega
    simp -implicitDefEqProofs (maxSteps:=1000000) (disch:=omega) only [push_cast,simprocAttr,h1,hc',hwl,↓gd]
    exact fin1 (.bool _) (by rw [hE,ht1,ht2,ht3]; simp [hc]; omega)
   ·have hc':¬(e.came.length:Int)≤600:=by omega
    simp -implicitDefEqProofs (maxSteps:=1000000) (disch:=omega) only [push_cast,simprocAttr,h1,hc',↓gd]
    exact fin1 (.bool _) (by rw [hE,ht1,ht2,ht3]; simp [hc])
end
section
open Go
section
variable {S l:List Blk} {B C:Blk} {i j k n:Nat}
@[push_cast] theorem get_set_ne (h:i≠j):(S.set i B)[j]?=S[j]?:=List.getElem?_set_ne h
@[push_cast] theorem get_set_eq (h:i < S.length):(S.set i B)[i]?=some B:=List.getElem?_set_self h
@[push_cast] theorem get_app_old (h:j < S.length):(S++l)[j]?=S[j]?:=List.getElem?_append_left h
@[push_cast] theorem set_app_old (h:j < S.length):(S++l).set j B=S.set j B++l:=List.set_append_left _ _ h
@[push_cast] theorem s1_get0 {i0:Nat} {B0:Blk}:((S.set i0 B0)++l)[S.length]?=l[0]?:=by rw [List.getElem?_append_right (by simp)]; simp
@[push_cast] theorem s1_get {i0:Nat} {B0:Blk}:((S.set i0 B0)++l)[S.length+n]?=l[n]?:=by rw [List.getElem?_append_right (by simp)]; simp
@[push_cast] theorem s1_set0 {i0:Nat} {B0:Blk}:((S.set i0 B0)++l).set S.length C=(S.set i0 B0)++l.set 0 C:=by rw [List.set_append,if_neg (by simp)]; simp
@[push_cast] theorem s1_set {i0:Nat} {B0:Blk}:((S.set i0 B0)++l).set (S.length+n) C=(S.set i0 B0)++l.set n C:=by rw [List.set_append,if_neg (by simp)]; simp
@[push_cast] theorem s1_old {i0:Nat} {B0:Blk} (h:j < S.length):((S.set i0 B0)++l)[j]?=(S.set i0 B0)[j]?:=List.getElem?_append_left (by simpa using h)
@[push_cast] theorem s1_sold {i0:Nat} {B0:Blk} (h:j < S.length):((S.set i0 B0)++l).set j C=(S.set i0 B0).set j C++l:=List.set_append_left _ _ (by simpa using h)
@[push_cast] theorem s1_self {i0:Nat} {B0:Blk} (h:j < S.length):((S.set i0 B0).set j C)[j]?=some C:=List.getElem?_set_self (by simpa using h)
@[push_cast] theorem s2_get0 {i0 i1:Nat} {B0 B1:Blk}:(((S.set i0 B0).set i1 B1)++l)[S.length]?=l[0]?:=by rw [List.getElem?_append_right (by simp)]; simp
@[push_cast] theorem s2_get {i0 i1:Nat} {B0 B1:Blk}:(((S.set i0 B0).set i1 B1)++l)[S.length+n]?=l[n]?:=by rw [List.getElem?_append_right (by simp)]; simp
@[push_cast] theorem s2_set0 {i0 i1:Nat} {B0 B1:Blk}:(((S.set i0 B0).set i1 B1)++l).set S.length C=((S.set i0 B0).set i1 B1)++l.set 0 C:=by rw [List.set_append,if_neg (by simp)]; simp
@[push_cast] theorem s2_set {i0 i1:Nat} {B0 B1:Blk}:(((S.set i0 B0).set i1 B1)++l).set (S.length+n) C=((S.set i0 B0).set i1 B1)++l.set n C:=by rw [List.set_append,if_neg (by simp)]; simp
@[push_cast] theorem s2_old {i0 i1:Nat} {B0 B1:Blk} (h:j < S.length):(((S.set i0 B0).set i1 B1)++l)[j]?=((S.set i0 B0).set i1 B1)[j]?:=List.getElem?_append_left (by simpa using h)
@[push_cast] theorem s2_sold {i0 i1:Nat} {B0 B1:Blk} (h:j < S.length):(((S.set i0 B0).set i1 B1)++l).set j C=((S.set i0 B0).set i1 B1).set j C++l:=List.set_append_left _ _ (by simpa using h)
@[push_cast] theorem s2_self {i0 i1:Nat} {B0 B1:Blk} (h:j < S.length):(((S.set i0 B0).set i1 B1).set j C)[j]?=some C:=List.getElem?_set_self (by simpa using h)
@[push_cast] theorem s3_get0 {i0 i1 i2:Nat} {B0 B1 B2:Blk}:((((S.set i0 B0).set i1 B1).set i2 B2)++l)[S.length]?=l[0]?:=by rw [List.getElem?_append_right (by simp)]; simp
@[push_cast] theorem s3_get {i0 i1 i2:Nat} {B0 B1 B2:Blk}:((((S.set i0 B0).set i1 B1).set i2 B2)++l)[S.length+n]?=l[n]?:=by rw [List.getElem?_append_right (by simp)]; simp
@[push_cast] theorem s3_set0 {i0 i1 i2:Nat} {B0 B1 B2:Blk}:((((S.set i0 B0).set i1 B1).set i2 B2)++l).set S.length C=(((S.set i0 B0).set i1 B1).set i2 B2)++l.set 0 C:=by rw [List.set_append,if_neg (by simp)]; simp
@[push_cast] theorem s3_set {i0 i1 i2:Nat} {B0 B1 B2:Blk}:((((S.set i0 B0).set i1 B1).set i2 B2)++l).set (S.length+n) C=(((S.set i0 B0).set i1 B1).set i2 B2)++l.set n C:=by rw [List.set_append,if_neg (by simp)]; simp
@[push_cast] theorem s3_old {i0 i1 i2:Nat} {B0 B1 B2:Blk} (h:j < S.length):((((S.set i0 B0).set i1 B1).set i2 B2)++l)[j]?=(((S.set i0 B0).set i1 B1).set i2 B2)[j]?:=List.getElem?_append_left (by simpa using h)
@[push_cast] theorem s3_sold {i0 i1 i2:Nat} {B0 B1 B2:Blk} (h:j < S.length):((((S.set i0 B0).set i1 B1).set i2 B2)++l).set j C=(((S.set i0 B0).set i1 B1).set i2 B2).set j C++l:=List.set_append_left _ _ (by simpa using h)
@[push_cast] theorem s3_self {i0 i1 i2:Nat} {B0 B1 B2:Blk} (h:j < S.length):((((S.set i0 B0).set i1 B1).set i2 B2).set j C)[j]?=some C:=List.getElem?_set_self (by simpa using h)
@[push_cast] theorem s4_get0 {i0 i1 i2 i3:Nat} {B0 B1 B2 B3:Blk}:(((((S.set i0 B0).set i1 B1).set i2 B2).set i3 B3)++l)[S.length]?=l[0]?:=by rw [List.getElem?_append_right (by simp)]; simp
@[push_cast] theorem s4_get {i0 i1 i2 i3:Nat} {B0 B1 B2 B3:Blk}:(((((S.set i0 B0).set i1 B1).set i2 B2).set i3 B3)++l)[S.length+n]?=l[n]?:=by rw [List.getElem?_append_right (by simp)]; simp
@[push_cast] theorem s4_set0 {i0 i1 i2 i3:Nat} {B0 B1 B2 B3:Blk}:(((((S.set i0 B0).set i1 B1).set i2 B2).set i3 B3)++l).set S.length C=((((S.set i0 B0).set i1 B1).set i2 B2).set i3 B3)++l.set 0 C:=by rw [List.set_append,if_neg (by simp)]; simp
@[push_cast] theorem s4_set {i0 i1 i2 i3:Nat} {B0 B1 B2 B3:Blk}:(((((S.set i0 B0).set i1 B1).set i2 B2).set i3 B3)++l).set (S.length+n) C=((((S.set i0 B0).set i1 B1).set i2 B2).set i3 B3)++l.set n C:=by rw [List.set_append,if_neg (by simp)]; simp
@[push_cast] theorem s4_old {i0 i1 i2 i3:Nat} {B0 B1 B2 B3:Blk} (h:j < S.length):(((((S.set i0 B0).set i1 B1).set i2 B2).set i3 B3)++l)[j]?=((((S.set i0 B0).set i1 B1).set i2 B2).set i3 B3)[j]?:=List.getElem?_append_left (by simpa using h)
@[push_cast] theorem s4_sold {i0 i1 i2 i3:Nat} {B0 B1 B2 B3:Blk} (h:j < S.length):(((((S.set i0 B0).set i1 B1).set i2 B2).set i3 B3)++l).set j C=((((S.set i0 B0).set i1 B1).set i2 B2).set i3 B3).set j C++l:=List.set_append_left _ _ (by simpa using h)
@[push_cast] theorem s4_self {i0 i1 i2 i3:Nat} {B0 B1 B2 B3:Blk} (h:j < S.length):(((((S.set i0 B0).set i1 B1).set i2 B2).set i3 B3).set j C)[j]?=some C:=List.getElem?_set_self (by simpa using h)
@[push_cast] theorem s5_get0 {i0 i1 i2 i3 i4:Nat} {B0 B1 B2 B3 B4:Blk}:((((((S.set i0 B0).set i1 B1).set i2 B2).set i3 B3).set i4 B4)++l)[S.length]?=l[0]?:=by rw [List.getElem?_append_right (by simp)]; simp
@[push_cast] theorem s5_get {i0 i1 i2 i3 i4:Nat} {B0 B1 B2 B3 B4:Blk}:((((((S.set i0 B0).set i1 B1).set i2 B2).set i3 B3).set i4 B4)++l)[S.length+n]?=l[n]?:=by rw [List.getElem?_append_right (by simp)]; simp
@[push_cast] theorem s5_set0 {i0 i1 i2 i3 i4:Nat} {B0 B1 B2 B3 B4:Blk}:((((((S.set i0 B0).set i1 B1).set i2 B2).set i3 B3).set i4 B4)++l).set S.length C=(((((S.set i0 B0).set i1 B1).set i2 B2).set i3 B3).set i4 B4)++l.set 0 C:=by rw [List.set_append,if_neg (by simp)]; simp
@[push_cast] theorem s5_set {i0 i1 i2 i3 i4:Nat} {B0 B1 B2 B3 B4:Blk}:((((((S.set i0 B0).set i1 B1).set i2 B2).set i3 B3).set i4 B4)++l).set (S.length+n) C=(((((S.set i0 B0).set i1 B1).set i2 B2).set i3 B3).set i4 B4)++l.set n C:=by rw [List.set_append,if_neg (by simp)]; simp
@[push_cast] theorem s5_old {i0 i1 i2 i3 i4:Nat} {B0 B1 B2 B3 B4:Blk} (h:j < S.length):((((((S.set i0 B0).set i1 B1).set i2 B2).set i3 B3).set i4 B4)++l)[j]?=(((((S.set i0 B0).set i1 B1).set i2 B2).set i3 B3).set i4 B4)[j]?:=List.getElem?_append_left (by simpa using h)
@[push_cast] theorem s5_sold {i0 i1 i2 i3 i4:Nat} {B0 B1 B2 B3 B4:Blk} (h:j < S.length):((((((S.set i0 B0).set i1 B1).set i2 B2).set i3 B3).set i4 B4)++l).set j C=(((((S.set i0 B0).set i1 B1).set i2 B2).set i3 B3).set i4 B4).set j C++l:=List.set_append_left _ _ (by simpa using h)
@[push_cast] theorem s5_self {i0 i1 i2 i3 i4:Nat} {B0 B1 B2 B3 B4:Blk} (h:j < S.length):((((((S.set i0 B0).set i1 B1).set i2 B2).set i3 B3).set i4 B4).set j C)[j]?=some C:=List.getElem?_set_self (by simpa using h)
@[push_cast] theorem set_mid {D E:Blk} (h:i≠j):((S.set i D).set j E).set i B=(S.set i B).set j E:=by rw [List.set_comm _ _ (Ne.symm h),List.set_set]
@[push_cast] theorem set_set_same {D:Blk}:(S.set i B).set i D=S.set i D:=List.set_set ..
end
inductive NH (n:Nat):V→V→Prop where
 | nil:NH n .nils (.heap n 0)
 | refl (v:V):NH n v v
 | agg {cs ds:List V}:cs.length=ds.length→(∀(i:Nat) (v u:V),cs[i]?=some v→ds[i]?=some u→NH n v u)→NH n (.agg cs) (.agg ds)
 | tup {cs ds:List V}:cs.length=ds.length→(∀(i:Nat) (v u:V),cs[i]?=some v→ds[i]?=some u→NH n v u)→NH n (.tup cs) (.tup ds)
theorem NH.ok {G G':Gh} {w:World} {n:Nat} (hE:Ext G w G' w) (hn:n < G'.n) {v v':V} (h:NH n v v') {c:Value} (hv:VR G w v c):VR G' w v' c:=by
 induction h generalizing c with
 | nil=>cases hv; exact .heapNil hn
 | refl v=>exact hv.ext hE
 | agg hl _ ih =>
  cases hv with
  | agg h1 h2 h3 =>
   refine .agg (by rw [←hl]; exact h1) (fun i v u hv hu=>?_) h3
   have hi:=List.getElem?_eq_some_iff.1 hv
   obtain ⟨hi,e⟩:=hi
   exact ih i _ v (List.getElem?_eq_getElem (by omega)) hv (h2 i _ u (List.getElem?_eq_getElem (by omega)) hu)
 | tup hl _ ih =>
  cases hv with
  | tup h1 h2 =>
   refine .tup (by rw [←hl]; exact h1) (fun i v u hv hu=>?_)
   have hi:=List.getElem?_eq_some_iff.1 hv
   obtain ⟨hi,e⟩:=hi
   exact ih i _ v (List.getElem?_eq_getElem (by omega)) hv (h2 i _ u (List.getElem?_eq_getElem (by omega)) hu)
theorem Wk.nh {S0 S:List Blk} {r r':V} (sz:Nat) (h:NH S.length r r'):Wk S0 r S r' (S++[.cells sz []]):=by
 intro G0 w0 G w c hR0 hE hv hR
 obtain ⟨h1,h2⟩:=hR.pushNil sz (.cells sz []) (fun z cs e=>by cases e; rfl)
 exact ⟨_,h.ok h2.ext (by simp [Gh.pushNil,hR.n]) hv,h1,hE.trans h2⟩
theorem NH.aggAt {n:Nat} {cs:List V} {i:Nat} (h:cs[i]?=some .nils):NH n (.agg cs) (.agg (cs.set i (.heap n 0))):=by
 refine .agg (by simp) (fun j v u hv hu=>?_)
 rw [List.getElem?_set] at hu
 by_cases e:i=j
 ·subst e
  rw [h] at hv
  cases hv
  rw [if_pos rfl,if_pos (List.getElem?_eq_some_iff.1 h).1] at hu
  cases hu
  exact .nil
 ·rw [if_neg e,hv] at hu
  cases hu
  exact .refl _
def eV (b c:Nat) (e:En):V:=enV (.heap b e.strs.length) (.heap c e.wait.length) e
@[push_cast] theorem eV_eq (b c:Nat) (e:En):eV b c e=.agg [.bool e.ans,.rows none (e.out.map fV),.int .i64 e.outM,.rows none (e.inn.map fV),.int .i64 e.innM,.str e.came,.heap b e.strs.length,.int .i64 e.send,.int .i64 e.room,.heap c e.wait.length,.bool e.bad]:=rfl
def zE:List V:=[.bool false,.nils,.int .i64 0,.nils,.int .i64 0,.str [],.nils,.int .i64 0,.int .i64 0,.nils,.bool false]
@[push_cast] theorem zE_eq:zE=[.bool false,.nils,.int .i64 0,.nils,.int .i64 0,.str [],.nils,.int .i64 0,.int .i64 0,.nils,.bool false]:=rfl
structure EnNew (S:List Blk) (e:En) (b c:Nat) (S':List Blk):Prop where
 at_:EnAt S' b c e
 hb:S.length≤b
 hc:S.length≤c
 upd:Upd [] S S'
structure EnTo (S:List Blk) (b c:Nat) (e:En) (b' c':Nat) (S':List Blk):Prop where
 at_:EnAt S' b' c' e
 hb:b'=b∨S.length≤b'
 hc:c'=c∨S.length≤c'
 upd:Upd [b,c] S S'
theorem EnTo.trans {S S1 S2:List Blk} {b c b1 c1 b2 c2:Nat} {e1 e2:En} (h:EnTo S b c e1 b1 c1 S1) (k:EnTo S1 b1 c1 e2 b2 c2 S2):EnTo S b c e2 b2 c2 S2:=by
 have hl:=h.upd.1
 have hb:=h.hb; have hc:=h.hc
 refine ⟨k.at_,?_,?_,h.upd.then_ k.upd fun j hj hm=>?_⟩
 ·rcases k.hb with e | e <;> omega
 ·rcases k.hc with e | e <;> omega
 ·simp only [List.mem_cons,List.not_mem_nil,or_false] at hm ⊢
  omega
theorem EnNew.to {S S1 S2:List Blk} {b1 c1 b2 c2:Nat} {e1 e2:En} (h:EnNew S e1 b1 c1 S1) (k:EnTo S1 b1 c1 e2 b2 c2 S2):EnNew S e2 b2 c2 S2:=by
 have hl:=h.upd.1
 have hb:=h.hb; have hc:=h.hc
 refine ⟨k.at_,?_,?_,h.upd.then_ k.upd fun j hj hm=>?_⟩
 ·rcases k.hb with e | e <;> omega
 ·rcases k.hc with e | e <;> omega
 ·simp only [List.mem_cons,List.not_mem_nil,or_false] at hm
  omega
theorem EnNew.app {S:List Blk} {X:List Blk} {e:En} {b c:Nat} {S':List Blk} (h:EnNew (S++X) e b c S'):EnNew S e b c S':=by
 have hb:=h.hb; have hc:=h.hc
 rw [List.length_append] at hb hc
 refine ⟨h.at_,by omega,by omega,?_⟩
 exact ((Upd.refl [] S).app X).then_ h.upd (fun j hj hm=>hm)
theorem EnTo.app {S:List Blk} {X:List Blk} {e:En} {b c b' c':Nat} {S':List Blk} (h:EnTo (S++X) b c e b' c' S'):EnTo S b c e b' c' S':=by
 have hb:=h.hb; have hc:=h.hc
 rw [List.length_append] at hb hc
 refine ⟨h.at_,by omega,by omega,?_⟩
 exact ((Upd.refl [b,c] S).app X).then_ h.upd (fun j hj hm=>hm)
theorem EnAt.app {S:List Blk} {b c:Nat} {e:En} (h:EnAt S b c e) (X:List Blk):EnAt (S++X) b c e:=by
 have h1:=lt_of_some h.1; have h2:=lt_of_some h.2
 exact ⟨by rw [List.getElem?_append_left h1]; exact h.1,by rw [List.getElem?_append_left h2]; exact h.2⟩
theorem EnAt.hv {S:List Blk} {b c:Nat} {e:En} (h:EnAt S b c e):HSa 12 (strsC e.strs) e.strs.length S (.heap b e.strs.length):=.inl ⟨b,rfl,h.1⟩
theorem EnAt.hw {S:List Blk} {b c:Nat} {e:En} (h:EnAt S b c e):HSa 4 (frmsC e.wait) e.wait.length S (.heap c e.wait.length):=.inl ⟨c,rfl,h.2⟩
def RNew (S:List Blk) (e:En) (v:V) (S':List Blk):Prop:=∃b' c',v=eV b' c' e∧EnNew S e b' c' S'
def RTo (S:List Blk) (b c:Nat) (e:En) (v:V) (S':List Blk):Prop:=∃b' c',v=eV b' c' e∧EnTo S b c e b' c' S'
theorem RTo.mk {S:List Blk} {b c:Nat} {e:En} {v:V} {S':List Blk} (b' c':Nat) (hv:v=eV b' c' e) (h1:S'[b']?=some (.cells 12 (strsC e.strs))) (h2:S'[c']?=some (.cells 4 (frmsC e.wait)))
  (hb:b'=b∨S.length≤b') (hc:c'=c∨S.length≤c') (hu:Upd [b,c] S S'):RTo S b c e v S':=⟨b',c',hv,⟨h1,h2⟩,hb,hc,hu⟩
theorem RTo.stay {S X:List Blk} {b c:Nat} {e:En} (h:EnAt S b c e):RTo S b c e (eV b c e) (S++X):=⟨b,c,rfl,h.app _,.inl rfl,.inl rfl,(Upd.refl _ _).app _⟩
theorem sEndOk_at {e:En} (he:EnB e) {S:List Blk} {b c:Nat} (h:EnAt S b c e):VCall Tryz.prog 34 [eV b c e] S fun r S'=>r=.bool (endOk e)∧S'=S:=sEndOk_ok e he _ _ S h.hv h.hw
theorem fds_len3 (l:List Fd):(l.map fV).all (lenIs 3)=true:=by rw [List.all_eq_true]; intro v hv; obtain ⟨f,_,rfl⟩:=List.mem_map.1 hv; rfl
theorem l21Fields_ok (l:List Fd) (hl:FdsB l) (S:List Blk):VCall Tryz.prog 76 [.rows none (l.map fV)] S fun r S'=>r=.rows none (l.map fV)∧S'=S:=by
 obtain ⟨h1,h2⟩:=hl
 refine VCall.en hD Tryz.func76 Tryz.ntmps76 Tryz.results76 ?_
 simp -implicitDefEqProofs (disch:=omega) only [push_cast,simprocAttr,fds_len3,↓gd]
 exact ⟨by omega,finE (cl_fds _ _) rfl⟩
theorem tclone_ok (l:List Fd) (max:Int) (hl:FdsB l) (S:List Blk):VCall Tryz.prog 89 [tV l max] S fun r S'=>r=tV l max∧S'=S:=by
 refine VCall.ex hD (fun _=>false) (fun id=>if id=1 then [2,2,6,6,6,6,7] else []) Tryz.func89 Tryz.ntmps89 Tryz.results89 ?_
 simp -implicitDefEqProofs (disch:=omega) only [push_cast,simprocAttr,↓gd]
 refine (cloneFields_ok l (by have:=hl.1; omega) _).to ?_
 simp -implicitDefEqProofs (disch:=omega) only [push_cast,simprocAttr,↓gd]
 exact finE (cl_tab _ _ _) rfl
theorem take_st {l:List St} {i:Nat} (h:i < l.length):l.take (i+1)=l.take i++[l.getD i st0]:=by
 rw [List.take_succ_eq_append_getElem h,List.getD,List.getElem?_eq_getElem h]; rfl
theorem take_fr {l:List Fr} {i:Nat} (h:i < l.length):l.take (i+1)=l.take i++[l.getD i fr0]:=by
 rw [List.take_succ_eq_append_getElem h,List.getD,List.getElem?_eq_getElem h]; rfl
theorem frmsC_erase (l:List Fr):(frmsC l).map eraseC=frmsC l:=by
 induction l with
 | nil=>rfl
 | cons f l ih=>simp only [frmsC,List.flatMap_cons,List.map_append] at ih ⊢; rw [ih]; rfl
theorem frmsC_all (l:List Fr):(frmsC l).take (l.length * 4)=frmsC l:=by rw [←frmsC_len,List.take_length]
theorem strsC_one (s:St):strsC [s]=strC s:=List.append_nil _
theorem frmsC_one (s:Fr):frmsC [s]=frmC s:=List.append_nil _
theorem hDe:TypesOk Tryz.prog (wrOf D [108,82]):=wrOk hD _
theorem l21Copy_ok {e:En} (he:EnB e) {S:List Blk} {b c:Nat} (h:EnAt S b c e):VCall Tryz.prog 35 [eV b c e] S fun r S'=>RNew S e r S':=by
 obtain ⟨hb,hc⟩:=h
 have hbl:=lt_of_some hb
 have hcl:=lt_of_some hc
 have hlen:=strsC_len e.strs
 refine VCall.en hDe Tryz.func35 Tryz.ntmps35 Tryz.results35 ?_
 simp -implicitDefEqProofs (disch:=omega) only [push_cast,simprocAttr,↓gd]
 refine (l21Fields_ok e.out he.out _).to ?_
 simp -implicitDefEqProofs (disch:=omega) only [push_cast,simprocAttr,↓gd]
 refine (l21Fields_ok e.inn he.inn _).to ?_
 simp -implicitDefEqProofs (disch:=omega) only [push_cast,simprocAttr,↓gd]
 refine wpV_loop (fun m t S1=>∃i L:Nat,m=e.strs.length - i∧i≤e.strs.length∧t 1=.ptr S.length 0∧t 2=.ptr (S.length+1) 0∧t 3=.heap L i∧t 4=.int .i64 i∧S.length+2≤L ∧
  S1[L]?=some (.cells 12 (strsC (e.strs.take i)))∧Upd [] S S1∧S1[S.length]?=some (.cells 0 (enC (.heap b e.strs.length) (.heap c e.wait.length) e)) ∧
  S1[S.length+1]?=some (.cells 0 [V.bool false,V.nils,V.int IntKind.i64 0,V.nils,V.int IntKind.i64 0,V.str [],V.nils,V.int IntKind.i64 0,V.int IntKind.i64 0,V.nils,V.bool false])) e.strs.length
  ⟨0,S.length+2,by omega,by omega,rfl,rfl,rfl,rfl,by omega,by simp [strsC],(Upd.refl _ _).app _,by simp [enC],by simp⟩ ?_
 rintro m t S1 ⟨i,L,rfl,hi,h1,h2,h3,h4,hL,kL,hu,k0,k1⟩
 have l0:=lt_of_some k0
 have l1:=lt_of_some k1
 have lL:=lt_of_some kL
 have kb:=hu.get hb (by simp)
 have lb:=lt_of_some kb
 refine wpV_of0 hDe ?_
 simp -implicitDefEqProofs (disch:=omega) only [push_cast,simprocAttr,h1,h4,k0,↓gd]
 refine ⟨fun h=>?_,fun h=>?_⟩
 ·have hil:i < e.strs.length:=by omega
  have hat:=strsC_at hil
  have hsb:=he.sts _ (getD_memS hil)
  have hlL:=strsC_len (e.strs.take i)
  have hti:(e.strs.take i).length=i:=by simp; omega
  have hel:=he.len
  simp -implicitDefEqProofs (disch:=omega) only [push_cast,simprocAttr,h1,h2,h3,h4,k0,k1,kL,kb,hat,↓gd]
  repeat refine And.intro (by omega) ?_
  refine ((l21Fields_ok _ hsb.head _).as rfl).to ?_
  simp -implicitDefEqProofs (disch:=omega) only [push_cast,simprocAttr,h3,h4,k0,k1,kL,↓gd]
  refine ((l21Fields_ok _ hsb.got _).as rfl).to ?_
  simp -implicitDefEqProofs (disch:=omega) only [push_cast,simprocAttr,h3,h4,k0,k1,kL,↓gd]
  repeat refine And.intro (by omega) ?_
  refine ⟨e.strs.length - (i+1),by omega,i+1,S1.length+2,rfl,by omega,h1,h2,rfl,rfl,by omega,?_,(hu.set _ (.inl (by omega))).app _⟩
  ·rw [s1_get,take_st hil,strsC_app,strsC_one]
   rfl
 ·have:i=e.strs.length:=by omega
  subst this
  have kc:=hu.get hc (by simp)
  have lc:=lt_of_some kc
  have hlw:=frmsC_len e.wait
  have hwn:=he.wait
  simp -implicitDefEqProofs (disch:=omega) only [push_cast,simprocAttr,h1,h2,h3,k0,k1,kL,kc,↓gd]
  rw [frmsC_all,frmsC_erase]
  repeat refine And.intro (by omega) ?_
  refine ⟨_,_,Wk.refl _ _ _,L,S1.length+1,rfl,⟨⟨?_,?_⟩,by omega,by omega,?_⟩⟩
  ·rw [List.take_length] at kL
   simp -implicitDefEqProofs (disch:=omega) only [push_cast,simprocAttr,kL,↓gd]
  ·simp -implicitDefEqProofs (disch:=omega) only [push_cast,simprocAttr,↓gd]
  ·exact ((hu.set _ (.inl (by omega))).set _ (.inl (by omega))).app _
end
section
open Go
theorem nh_strs {S0 S:List Blk} {c m:Nat} {e:En} (h:e.strs=[]):Wk S0 (enV .nils (.heap c m) e) S (enV (.heap S.length e.strs.length) (.heap c m) e) (S++[.cells 12 []]):=by
 have:NH S.length (enV .nils (.heap c m) e) (enV (.heap S.length e.strs.length) (.heap c m) e):=by
  rw [h]
  exact NH.aggAt (i:=6) rfl
 exact Wk.nh 12 this
theorem nh_wait {S0 S:List Blk} {v:V} {e:En} (h:e.wait=[]):Wk S0 (enV v .nils e) S (enV v (.heap S.length e.wait.length) e) (S++[.cells 4 []]):=by
 have:NH S.length (enV v .nils e) (enV v (.heap S.length e.wait.length) e):=by
  rw [h]
  exact NH.aggAt (i:=9) rfl
 exact Wk.nh 4 this
theorem nh_both {S0 S:List Blk} {e:En} (h:e.strs=[]) (k:e.wait=[]):Wk S0 (enV .nils .nils e) S (eV (S.length+1) S.length e) (S++[.cells 4 [],.cells 12 []]):=by
 have h1:=nh_wait (S0:=S0) (S:=S) (v:=.nils) (e:=e) k
 have h2:=nh_strs (S0:=S0) (S:=S++[.cells 4 []]) (c:=S.length) (m:=e.wait.length) h
 rw [List.length_append,List.append_assoc] at h2
 exact h1.trans h2
theorem new_both {S:List Blk} {e:En} (h:e.strs=[]) (k:e.wait=[]):EnNew S e (S.length+1) S.length (S++[.cells 4 [],.cells 12 []]):=by
 refine ⟨⟨?_,?_⟩,by omega,by omega,(Upd.refl _ _).app _⟩
 ·rw [h,app_get]; rfl
 ·rw [k,app_get0]; rfl
theorem fin_new {S S1:List Blk} {r:V} {e:En} (h:e.strs=[]) (k:e.wait=[]) (hu:Upd [] S S1) (hr:eraseT r=eraseT (enV .nils .nils e)) (hn:r=enV .nils .nils e):∃r' S2,Wk S r S1 r' S2∧RNew S e r' S2:=by
 subst hn
 refine ⟨_,_,nh_both h k,_,_,rfl,?_⟩
 have:=new_both (S:=S1) h k
 have hl:=hu.1
 exact ⟨this.at_,by omega,by omega,hu.trans this.upd⟩
theorem eclone_ok {e:En} (he:EnB e) {S:List Blk} {b c:Nat} (h:EnAt S b c e):VCall Tryz.prog 42 [eV b c e] S fun r S'=>RNew S e r S':=by
 obtain ⟨hb,hc⟩:=h
 have hbl:=lt_of_some hb
 have hcl:=lt_of_some hc
 have hlen:=strsC_len e.strs
 have hlw:=frmsC_len e.wait
 have hwn:=he.wait
 have hel:=he.len
 refine VCall.ex hDe (fun _=>false) (fun id=>if id=1 then [2,2,5,5,5,8,8,8,10,10,12,12,14,14,15] else if id=6 then [2,2,5,5,5,7,7,9,9,10] else []) Tryz.func42 Tryz.ntmps42 Tryz.results42 ?_
 simp -implicitDefEqProofs (disch:=omega) only [push_cast,simprocAttr,↓gd]
 refine ((tclone_ok e.out e.outM he.out _).as rfl).to ?_
 simp -implicitDefEqProofs (disch:=omega) only [push_cast,simprocAttr,↓gd]
 refine ((tclone_ok e.inn e.innM he.inn _).as rfl).to ?_
 simp -implicitDefEqProofs (disch:=omega) only [push_cast,simprocAttr,hc,↓gd]
 repeat refine And.intro (by omega) ?_
 rw [frmsC_all,frmsC_erase]
 refine wpV_loop (fun m t S1=>∃i L:Nat,m=e.strs.length - i∧i≤e.strs.length∧t 1=.ptr S.length 0∧t 2=.ptr (S.length+1) 0∧t 19=.heap b e.strs.length∧t 20=.int .i64 e.strs.length∧t 21=.int .i64 i∧S.length+3≤L ∧
  (i=0∧t 3=.nils∨t 3=.heap L i∧S1[L]?=some (.cells 12 (strsC (e.strs.take i))))∧Upd [] S S1∧S1[S.length]?=some (.cells 0 (enC (.heap b e.strs.length) (.heap (S.length+2) e.wait.length) e)) ∧
  S1[S.length+1]?=some (.cells 0 [V.bool false,V.nils,V.int IntKind.i64 0,V.nils,V.int IntKind.i64 0,V.str [],V.nils,V.int IntKind.i64 0,V.int IntKind.i64 0,V.nils,V.bool false]) ∧
  S1[S.length+2]?=some (.cells 4 (frmsC e.wait))) e.strs.length
  ⟨0,S.length+3,by omega,by omega,rfl,rfl,rfl,rfl,rfl,by omega,.inl ⟨rfl,rfl⟩,(Upd.refl _ _).app _,by simp [enC],by simp,by simp⟩ ?_
 rintro m t S1 ⟨i,L,rfl,hi,h1,h2,h19,h20,h21,hL,h3,hu,k0,k1,k2⟩
 have l0:=lt_of_some k0
 have l1:=lt_of_some k1
 have l2:=lt_of_some k2
 have kb:=hu.get hb (by simp)
 have lb:=lt_of_some kb
 refine wpV_of hDe (fun _=>false) (fun id=>if id=6 then [2,2,5,5,5,7,7,9,9,10] else []) (by kernel_rfl) ?_
 simp -implicitDefEqProofs (disch:=omega) only [push_cast,simprocAttr,h1,h19,h20,h21,k0,↓gd]
 refine ⟨fun h=>?_,fun h=>?_⟩
 ·have hil:i < e.strs.length:=by omega
  have hat:=strsC_at hil
  have hsb:=he.sts _ (getD_memS hil)
  have hlL:=strsC_len (e.strs.take i)
  have hti:(e.strs.take i).length=i:=by simp; omega
  simp -implicitDefEqProofs (disch:=omega) only [push_cast,simprocAttr,h1,h2,h19,h21,k0,k1,k2,kb,hat,↓gd]
  repeat refine And.intro (by omega) ?_
  refine ((cloneFields_ok _ (by have:=hsb.head.1; omega) _).as rfl).to ?_
  simp -implicitDefEqProofs (disch:=omega) only [push_cast,simprocAttr,k0,k1,k2,↓gd]
  refine ((cloneFields_ok _ (by have:=hsb.got.1; omega) _).as rfl).to ?_
  rcases h3 with ⟨rfl,h3⟩ | ⟨h3,kL⟩
  ·simp -implicitDefEqProofs (disch:=omega) only [push_cast,simprocAttr,h3,h21,k0,k1,k2,↓gd]
   refine ⟨e.strs.length - 1,by omega,1,S1.length+2,rfl,by omega,h1,h2,h19,h20,rfl,by omega,⟨rfl,?_⟩,hu.app _⟩
   ·rw [app_get,take_st hil,strsC_app,strsC_one]
    rfl
  ·have lL:=lt_of_some kL
   simp -implicitDefEqProofs (disch:=omega) only [push_cast,simprocAttr,h3,h21,k0,k1,k2,kL,↓gd]
   repeat refine And.intro (by omega) ?_
   refine ⟨e.strs.length - (i+1),by omega,i+1,S1.length+2,rfl,by omega,h1,h2,h19,h20,rfl,by omega,⟨rfl,?_⟩,(hu.set _ (.inl (by omega))).app _⟩
   ·rw [s1_get,take_st hil,strsC_app,strsC_one]
    rfl
 ·have:i=e.strs.length:=by omega
  subst this
  have kc:=hu.get hc (by simp)
  have lc:=lt_of_some kc
  rcases h3 with ⟨hz,h3⟩ | ⟨h3,kL⟩
  ·have hz':e.strs=[]:=List.length_eq_zero_iff.1 hz
   simp -implicitDefEqProofs (disch:=omega) only [push_cast,simprocAttr,h1,h2,h3,k0,k1,k2,↓gd]
   refine ⟨_,_,nh_strs (e:=e) hz',_,S.length+2,rfl,⟨⟨?_,?_⟩,by simp; omega,by omega,((hu.set _ (.inl (by omega))).set _ (.inl (by omega))).app _⟩⟩
   ·rw [hz',List.length_set,List.length_set,s2_get0]; rfl
   ·simp -implicitDefEqProofs (disch:=omega) only [push_cast,simprocAttr,k2,↓gd]
  ·simp -implicitDefEqProofs (disch:=omega) only [push_cast,simprocAttr,h1,h2,h3,k0,k1,k2,kL,↓gd]
   refine ⟨_,_,Wk.refl _ _ _,L,S.length+2,rfl,⟨⟨?_,?_⟩,by omega,by omega,(hu.set _ (.inl (by omega))).set _ (.inl (by omega))⟩⟩
   ·rw [List.take_length] at kL
    simp -implicitDefEqProofs (disch:=omega) only [push_cast,simprocAttr,kL,↓gd]
   ·simp -implicitDefEqProofs (disch:=omega) only [push_cast,simprocAttr,k2,↓gd]
end
end Go.Proofs.YtldogccmhncnoaaGreatDoor
