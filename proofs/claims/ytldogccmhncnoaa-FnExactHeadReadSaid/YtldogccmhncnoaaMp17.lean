/- A part of the proof: contracts of functions, or plain facts on which these lean. -/
import Derived.Test.YtldogccmhncnoaaMp14
import Derived.Test.YtldogccmhncnoaaMp15
import Derived.Test.YtldogccmhncnoaaMp16
namespace Go.Proofs.Ytldogccmhncnoaa
open Go
set_option linter.unusedVariables false
set_option linter.unusedSimpArgs false
set_option maxRecDepth 100000
set_option maxHeartbeats 16000000

section
open Go
theorem getD_lt {α:Type} {l:List α} {i:Nat} (d:α) (h:i < l.length):l.getD i d=l[i]:=by
 rw [List.getD,List.getElem?_eq_getElem h]; rfl
theorem okAt_iff {ans:Bool} {l:List St} {i:Nat}:okAt ans l i=true↔stOk (l.getD i st0)=true∧(i=0∨(l.getD (i - 1) st0).id < (l.getD i st0).id)∧(ans=true∨(l.getD i st0).id=2 * i+1):=by
 simp [okAt,and_assoc]
theorem stsOk_iff {ans:Bool} {l:List St}:stsOk ans l=true↔∀i,i < l.length→stOk (l.getD i st0)=true∧(i=0∨(l.getD (i - 1) st0).id < (l.getD i st0).id)∧(ans=true∨(l.getD i st0).id=2 * i+1):=by
 simp only [stsOk,List.all_eq_true,List.mem_range,okAt_iff]
theorem strmOk_iff {n:Int}:strmOk n=true↔1≤n∧n≤7∧n.tmod 2=1:=by simp [strmOk,and_assoc]
theorem strmOk_cases {n:Int} (h:strmOk n=true):n=1∨n=3∨n=5∨n=7:=by
 obtain ⟨h1,h2,h3⟩:=strmOk_iff.1 h
 rw [Int.tmod_eq_emod_of_nonneg (by omega)] at h3
 omega
theorem stOk_iff {s:St}:stOk s=true↔strmOk s.id=true∧(1≤s.state∧s.state≤3)∧headOk s.head=true∧headOk s.got=true∧wordOk s.say=true∧wordOk s.text=true∧(0≤s.sent∧s.sent≤s.say.length)∧flowOk s.send s.room=true:=by
 simp only [stOk,Bool.and_eq_true,decide_eq_true_eq]
 constructor
 ·rintro ⟨⟨⟨⟨⟨⟨⟨h1,h2⟩,h3⟩,h4⟩,h5⟩,h6⟩,h7⟩,h8⟩; exact ⟨h1,h2,h3,h4,h5,h6,h7,h8⟩
 ·rintro ⟨h1,h2,h3,h4,h5,h6,h7,h8⟩; exact ⟨⟨⟨⟨⟨⟨⟨h1,h2⟩,h3⟩,h4⟩,h5⟩,h6⟩,h7⟩,h8⟩
theorem stsOk_ids {ans:Bool} {l:List St} (h:stsOk ans l=true):∀i,i < l.length→2 * (i:Int)+1≤(l.getD i st0).id:=by
 rw [stsOk_iff] at h
 intro i
 induction i with
 | zero =>
  intro hi
  have:=strmOk_cases (stOk_iff.1 (h 0 hi).1).1
  omega
 | succ i ih =>
  intro hi
  have h1:=ih (by omega)
  have h2:=strmOk_cases (stOk_iff.1 (h (i+1) hi).1).1
  have h3:=strmOk_cases (stOk_iff.1 (h i (by omega)).1).1
  rcases (h (i+1) hi).2.1 with h4 | h4
  ·omega
  ·rw [Nat.add_sub_cancel] at h4
   omega
theorem stsOk_len {ans:Bool} {l:List St} (h:stsOk ans l=true):l.length≤4:=by
 by_cases h0:l.length≤4
 ·exact h0
 ·have h1:=stsOk_ids h 4 (by omega)
  have h2:=strmOk_cases (stOk_iff.1 (stsOk_iff.1 h 4 (by omega)).1).1
  omega
theorem stsOk_at {ans:Bool} {l:List St} {k:Nat} (h:stsOk ans l=true) (hk:k < l.length):stOk (l.getD k st0)=true:=(stsOk_iff.1 h k hk).1
structure EnW (N:Nat) (e:En):Prop where
 sts:stsOk e.ans e.strs=true
 wait:∀f ∈ e.wait,frameOk f=true
 out:tableOk e.out e.outM=true
 inn:tableOk e.inn e.innM=true
 flow:flowOk e.send e.room=true
 came:e.came.length≤600
 len:e.wait.length≤N
theorem EnW.mono {N M:Nat} {e:En} (h:EnW N e) (hm:N≤M):EnW M e:=⟨h.sts,h.wait,h.out,h.inn,h.flow,h.came,Nat.le_trans h.len hm⟩
theorem EnW.st {N:Nat} {e:En} {k:Nat} (h:EnW N e) (hk:k < e.strs.length):stOk (stAt e k)=true:=stsOk_at h.sts hk
theorem wordOk_iff {w:List UInt8}:wordOk w=true↔(∀c ∈ w,0≤signAt c)∧w.length≤16:=by simp [wordOk,List.all_eq_true]
theorem EnW.bad {N:Nat} {e:En} (h:EnW N e):EnW N (badM e):=⟨h.sts,h.wait,h.out,h.inn,h.flow,h.came,h.len⟩
end
section
open Go
structure WoW (N:Nat) (w:Wo):Prop where
 caller:EnW N w.caller
 answerer:EnW N w.answerer
 calls:w.caller.ans=false
 answers:w.answerer.ans=true
 up:w.up.length≤800
 down:w.down.length≤800
theorem WoW.mono {N M:Nat} {w:Wo} (h:WoW N w) (hm:N≤M):WoW M w:=⟨h.caller.mono hm,h.answerer.mono hm,h.calls,h.answers,h.up,h.down⟩
end
section
open Go
structure StB (s:St):Prop where
 head:FdsB s.head
 got:FdsB s.got
 say:s.say.length≤1100000
 text:s.text.length≤1100000
theorem headOk_b {h:List Fd} (hk:headOk h=true):FdsB h:=by
 obtain ⟨k1,k2⟩:=headOk_parts hk
 refine ⟨by omega,fun f hf=>?_⟩
 obtain ⟨_,_,_,q1,q2⟩:=fieldOk_parts (k1 f hf)
 exact ⟨by omega,by omega⟩
theorem tableOk_b {l:List Fd} {max:Int} (ht:tableOk l max=true):FdsB l:=by
 obtain ⟨t1,t2,t3,t4,t5⟩:=tableOk_parts ht
 refine ⟨by omega,fun f hf=>?_⟩
 obtain ⟨_,_,_,q1,q2⟩:=fieldOk_parts (t4 f hf).1
 exact ⟨by omega,by omega⟩
theorem stOk_b {s:St} (h:stOk s=true):StB s:=by
 obtain ⟨a1,a2,a3,a4,a5,a6,a7,a8⟩:=stOk_iff.1 h
 exact ⟨headOk_b a3,headOk_b a4,by have:=(wordOk_iff.1 a5).2; omega,by have:=(wordOk_iff.1 a6).2; omega⟩
end
section
open Go
def HSa (sz:Nat) (cs:List V) (n:Nat) (S:List Blk) (v:V):Prop:=(∃b,v=.heap b n∧S[b]?=some (.cells sz cs))∨(n=0∧cs=[]∧v=.rows none [])
theorem HSa.one {sz n:Nat} {cs:List V} {S:List Blk} {v:V} (h:HSa sz cs n S v):V.one v=true:=by
 rcases h with ⟨b,rfl,_⟩ | ⟨_,_,rfl⟩ <;> rfl
theorem HSa.len {sz n:Nat} {cs:List V} {S:List Blk} {v:V} (h:HSa sz cs n S v) {D:Nat→TD} {t e:Nat} (ht:(D t).k=.slc e) (k:V→Prop):evLen D t v k=k (.int .i64 n):=by
 rcases h with ⟨b,rfl,_⟩ | ⟨rfl,_,rfl⟩
 ·simp only [evLen,ht]; simp
 ·simp only [evLen,ht]; simp
theorem HSa.heap {sz n:Nat} {cs:List V} {S:List Blk} {v:V} (h:HSa sz cs n S v) (hn:0 < n):∃b,v=.heap b n∧S[b]?=some (.cells sz cs):=by
 rcases h with h | ⟨h,_⟩
 ·exact h
 ·omega
theorem HSa.upd {sz n:Nat} {cs:List V} {S S':List Blk} {v:V} (h:HSa sz cs n S v) (hu:Upd [] S S'):HSa sz cs n S' v:=by
 rcases h with ⟨b,h1,h2⟩ | h
 ·exact .inl ⟨b,h1,hu.get h2 (by simp)⟩
 ·exact .inr h
structure EnB (e:En):Prop where
 sts:∀s ∈ e.strs,StB s
 len:e.strs.length≤1100000
 wait:e.wait.length≤1100000
 out:FdsB e.out
 inn:FdsB e.inn
 came:e.came.length≤1100000
theorem EnW.b {N:Nat} {e:En} (h:EnW N e) (hN:N≤1100000):EnB e:=by
 refine ⟨fun s hs=>?_,by have:=stsOk_len h.sts; omega,by have:=h.len; omega,tableOk_b h.out,tableOk_b h.inn,by have:=h.came; omega⟩
 obtain ⟨i,hi,rfl⟩:=List.getElem_of_mem hs
 have:=stsOk_at h.sts hi
 rw [getD_lt st0 hi] at this
 exact stOk_b this
end
section
open Go
section
variable {S l:List Blk} {B C:Blk} {i j k n:Nat}
@[push_cast] theorem get_set_ne (h:i≠j):(S.set i B)[j]?=S[j]?:=List.getElem?_set_ne h
@[push_cast] theorem get_set_eq (h:i < S.length):(S.set i B)[i]?=some B:=List.getElem?_set_self h
@[push_cast] theorem get_app_old (h:j < S.length):(S++l)[j]?=S[j]?:=List.getElem?_append_left h
@[push_cast] theorem set_app_old (h:j < S.length):(S++l).set j B=S.set j B++l:=List.set_append_left _ _ h
@[push_cast] theorem s1_get0 {i0:Nat} {B0:Blk}:((S.set i0 B0)++l)[S.length]?=l[0]?:=by rw [List.getElem?_append_right (by simp)]; simp
@[push_cast] theorem s1_get {i0:Nat} {B0:Blk}:((S.set i0 B0)++l)[S.length+n]?=l[n]?:=by rw [List.getElem?_append_right (by simp)]; simp
@[push_cast] theorem s1_set0 {i0:Nat} {B0:Blk}:((S.set i0 B0)++l).set S.length C=(S.set i0 B0)++l.set 0 C:=by rw [List.set_append,if_neg (by simp)]; simp
@[push_cast] theorem s1_set {i0:Nat} {B0:Blk}:((S.set i0 B0)++l).set (S.length+n) C=(S.set i0 B0)++l.set n C:=by rw [List.set_append,if_neg (by simp)]; simp
@[push_cast] theorem s1_old {i0:Nat} {B0:Blk} (h:j < S.length):((S.set i0 B0)++l)[j]?=(S.set i0 B0)[j]?:=List.getElem?_append_left (by simpa using h)
@[push_cast] theorem s1_sold {i0:Nat} {B0:Blk} (h:j < S.length):((S.set i0 B0)++l).set j C=(S.set i0 B0).set j C++l:=List.set_append_left _ _ (by simpa using h)
@[push_cast] theorem s1_self {i0:Nat} {B0:Blk} (h:j < S.length):((S.set i0 B0).set j C)[j]?=some C:=List.getElem?_set_self (by simpa using h)
@[push_cast] theorem s2_get0 {i0 i1:Nat} {B0 B1:Blk}:(((S.set i0 B0).set i1 B1)++l)[S.length]?=l[0]?:=by rw [List.getElem?_append_right (by simp)]; simp
@[push_cast] theorem s2_get {i0 i1:Nat} {B0 B1:Blk}:(((S.set i0 B0).set i1 B1)++l)[S.length+n]?=l[n]?:=by rw [List.getElem?_append_right (by simp)]; simp
@[push_cast] theorem s2_set0 {i0 i1:Nat} {B0 B1:Blk}:(((S.set i0 B0).set i1 B1)++l).set S.length C=((S.set i0 B0).set i1 B1)++l.set 0 C:=by rw [List.set_append,if_neg (by simp)]; simp
@[push_cast] theorem s2_set {i0 i1:Nat} {B0 B1:Blk}:(((S.set i0 B0).set i1 B1)++l).set (S.length+n) C=((S.set i0 B0).set i1 B1)++l.set n C:=by rw [List.set_append,if_neg (by simp)]; simp
@[push_cast] theorem s2_old {i0 i1:Nat} {B0 B1:Blk} (h:j < S.length):(((S.set i0 B0).set i1 B1)++l)[j]?=((S.set i0 B0).set i1 B1)[j]?:=List.getElem?_append_left (by simpa using h)
@[push_cast] theorem s2_sold {i0 i1:Nat} {B0 B1:Blk} (h:j < S.length):(((S.set i0 B0).set i1 B1)++l).set j C=((S.set i0 B0).set i1 B1).set j C++l:=List.set_append_left _ _ (by simpa using h)
@[push_cast] theorem s2_self {i0 i1:Nat} {B0 B1:Blk} (h:j < S.length):(((S.set i0 B0).set i1 B1).set j C)[j]?=some C:=List.getElem?_set_self (by simpa using h)
@[push_cast] theorem s3_get0 {i0 i1 i2:Nat} {B0 B1 B2:Blk}:((((S.set i0 B0).set i1 B1).set i2 B2)++l)[S.length]?=l[0]?:=by rw [List.getElem?_append_right (by simp)]; simp
@[push_cast] theorem s3_get {i0 i1 i2:Nat} {B0 B1 B2:Blk}:((((S.set i0 B0).set i1 B1).set i2 B2)++l)[S.length+n]?=l[n]?:=by rw [List.getElem?_append_right (by simp)]; simp
@[push_cast] theorem s3_set0 {i0 i1 i2:Nat} {B0 B1 B2:Blk}:((((S.set i0 B0).set i1 B1).set i2 B2)++l).set S.length C=(((S.set i0 B0).set i1 B1).set i2 B2)++l.set 0 C:=by rw [List.set_append,if_neg (by simp)]; simp
@[push_cast] theorem s3_set {i0 i1 i2:Nat} {B0 B1 B2:Blk}:((((S.set i0 B0).set i1 B1).set i2 B2)++l).set (S.length+n) C=(((S.set i0 B0).set i1 B1).set i2 B2)++l.set n C:=by rw [List.set_append,if_neg (by simp)]; simp
@[push_cast] theorem s3_old {i0 i1 i2:Nat} {B0 B1 B2:Blk} (h:j < S.length):((((S.set i0 B0).set i1 B1).set i2 B2)++l)[j]?=(((S.set i0 B0).set i1 B1).set i2 B2)[j]?:=List.getElem?_append_left (by simpa using h)
@[push_cast] theorem s3_sold {i0 i1 i2:Nat} {B0 B1 B2:Blk} (h:j < S.length):((((S.set i0 B0).set i1 B1).set i2 B2)++l).set j C=(((S.set i0 B0).set i1 B1).set i2 B2).set j C++l:=List.set_append_left _ _ (by simpa using h)
@[push_cast] theorem s3_self {i0 i1 i2:Nat} {B0 B1 B2:Blk} (h:j < S.length):((((S.set i0 B0).set i1 B1).set i2 B2).set j C)[j]?=some C:=List.getElem?_set_self (by simpa using h)
@[push_cast] theorem s4_get0 {i0 i1 i2 i3:Nat} {B0 B1 B2 B3:Blk}:(((((S.set i0 B0).set i1 B1).set i2 B2).set i3 B3)++l)[S.length]?=l[0]?:=by rw [List.getElem?_append_right (by simp)]; simp
@[push_cast] theorem s4_get {i0 i1 i2 i3:Nat} {B0 B1 B2 B3:Blk}:(((((S.set i0 B0).set i1 B1).set i2 B2).set i3 B3)++l)[S.length+n]?=l[n]?:=by rw [List.getElem?_append_right (by simp)]; simp
@[push_cast] theorem s4_set0 {i0 i1 i2 i3:Nat} {B0 B1 B2 B3:Blk}:(((((S.set i0 B0).set i1 B1).set i2 B2).set i3 B3)++l).set S.length C=((((S.set i0 B0).set i1 B1).set i2 B2).set i3 B3)++l.set 0 C:=by rw [List.set_append,if_neg (by simp)]; simp
@[push_cast] theorem s4_set {i0 i1 i2 i3:Nat} {B0 B1 B2 B3:Blk}:(((((S.set i0 B0).set i1 B1).set i2 B2).set i3 B3)++l).set (S.length+n) C=((((S.set i0 B0).set i1 B1).set i2 B2).set i3 B3)++l.set n C:=by rw [List.set_append,if_neg (by simp)]; simp
@[push_cast] theorem s4_old {i0 i1 i2 i3:Nat} {B0 B1 B2 B3:Blk} (h:j < S.length):(((((S.set i0 B0).set i1 B1).set i2 B2).set i3 B3)++l)[j]?=((((S.set i0 B0).set i1 B1).set i2 B2).set i3 B3)[j]?:=List.getElem?_append_left (by simpa using h)
@[push_cast] theorem s4_sold {i0 i1 i2 i3:Nat} {B0 B1 B2 B3:Blk} (h:j < S.length):(((((S.set i0 B0).set i1 B1).set i2 B2).set i3 B3)++l).set j C=((((S.set i0 B0).set i1 B1).set i2 B2).set i3 B3).set j C++l:=List.set_append_left _ _ (by simpa using h)
@[push_cast] theorem s4_self {i0 i1 i2 i3:Nat} {B0 B1 B2 B3:Blk} (h:j < S.length):(((((S.set i0 B0).set i1 B1).set i2 B2).set i3 B3).set j C)[j]?=some C:=List.getElem?_set_self (by simpa using h)
@[push_cast] theorem s5_get0 {i0 i1 i2 i3 i4:Nat} {B0 B1 B2 B3 B4:Blk}:((((((S.set i0 B0).set i1 B1).set i2 B2).set i3 B3).set i4 B4)++l)[S.length]?=l[0]?:=by rw [List.getElem?_append_right (by simp)]; simp
@[push_cast] theorem s5_get {i0 i1 i2 i3 i4:Nat} {B0 B1 B2 B3 B4:Blk}:((((((S.set i0 B0).set i1 B1).set i2 B2).set i3 B3).set i4 B4)++l)[S.length+n]?=l[n]?:=by rw [List.getElem?_append_right (by simp)]; simp
@[push_cast] theorem s5_set0 {i0 i1 i2 i3 i4:Nat} {B0 B1 B2 B3 B4:Blk}:((((((S.set i0 B0).set i1 B1).set i2 B2).set i3 B3).set i4 B4)++l).set S.length C=(((((S.set i0 B0).set i1 B1).set i2 B2).set i3 B3).set i4 B4)++l.set 0 C:=by rw [List.set_append,if_neg (by simp)]; simp
@[push_cast] theorem s5_set {i0 i1 i2 i3 i4:Nat} {B0 B1 B2 B3 B4:Blk}:((((((S.set i0 B0).set i1 B1).set i2 B2).set i3 B3).set i4 B4)++l).set (S.length+n) C=(((((S.set i0 B0).set i1 B1).set i2 B2).set i3 B3).set i4 B4)++l.set n C:=by rw [List.set_append,if_neg (by simp)]; simp
@[push_cast] theorem s5_old {i0 i1 i2 i3 i4:Nat} {B0 B1 B2 B3 B4:Blk} (h:j < S.length):((((((S.set i0 B0).set i1 B1).set i2 B2).set i3 B3).set i4 B4)++l)[j]?=(((((S.set i0 B0).set i1 B1).set i2 B2).set i3 B3).set i4 B4)[j]?:=List.getElem?_append_left (by simpa using h)
@[push_cast] theorem s5_sold {i0 i1 i2 i3 i4:Nat} {B0 B1 B2 B3 B4:Blk} (h:j < S.length):((((((S.set i0 B0).set i1 B1).set i2 B2).set i3 B3).set i4 B4)++l).set j C=(((((S.set i0 B0).set i1 B1).set i2 B2).set i3 B3).set i4 B4).set j C++l:=List.set_append_left _ _ (by simpa using h)
@[push_cast] theorem s5_self {i0 i1 i2 i3 i4:Nat} {B0 B1 B2 B3 B4:Blk} (h:j < S.length):((((((S.set i0 B0).set i1 B1).set i2 B2).set i3 B3).set i4 B4).set j C)[j]?=some C:=List.getElem?_set_self (by simpa using h)
@[push_cast] theorem set_mid {D E:Blk} (h:i≠j):((S.set i D).set j E).set i B=(S.set i B).set j E:=by rw [List.set_comm _ _ (Ne.symm h),List.set_set]
@[push_cast] theorem set_set_same {D:Blk}:(S.set i B).set i D=S.set i D:=List.set_set ..
end
inductive NH (n:Nat):V→V→Prop where
 | nil:NH n .nils (.heap n 0)
 | refl (v:V):NH n v v
 | agg {cs ds:List V}:cs.length=ds.length→(∀(i:Nat) (v u:V),cs[i]?=some v→ds[i]?=some u→NH n v u)→NH n (.agg cs) (.agg ds)
 | tup {cs ds:List V}:cs.length=ds.length→(∀(i:Nat) (v u:V),cs[i]?=some v→ds[i]?=some u→NH n v u)→NH n (.tup cs) (.tup ds)
theorem NH.ok {G G':Gh} {w:World} {n:Nat} (hE:Ext G w G' w) (hn:n < G'.n) {v v':V} (h:NH n v v') {c:Value} (hv:VR G w v c):VR G' w v' c:=by
 induction h generalizing c with
 | nil=>cases hv; exact .heapNil hn
 | refl v=>exact hv.ext hE
 | agg hl _ ih =>
  cases hv with
  | agg h1 h2 h3 =>
   refine .agg (by rw [←hl]; exact h1) (fun i v u hv hu=>?_) h3
   have hi:=List.getElem?_eq_some_iff.1 hv
   obtain ⟨hi,e⟩:=hi
   exact ih i _ v (List.getElem?_eq_getElem (by omega)) hv (h2 i _ u (List.getElem?_eq_getElem (by omega)) hu)
 | tup hl _ ih =>
  cases hv with
  | tup h1 h2 =>
   refine .tup (by rw [←hl]; exact h1) (fun i v u hv hu=>?_)
   have hi:=List.getElem?_eq_some_iff.1 hv
   obtain ⟨hi,e⟩:=hi
   exact ih i _ v (List.getElem?_eq_getElem (by omega)) hv (h2 i _ u (List.getElem?_eq_getElem (by omega)) hu)
theorem Wk.nh {S0 S:List Blk} {r r':V} (sz:Nat) (h:NH S.length r r'):Wk S0 r S r' (S++[.cells sz []]):=by
 intro G0 w0 G w c hR0 hE hv hR
 obtain ⟨h1,h2⟩:=hR.pushNil sz (.cells sz []) (fun z cs e=>by cases e; rfl)
 exact ⟨_,h.ok h2.ext (by simp [Gh.pushNil,hR.n]) hv,h1,hE.trans h2⟩
theorem NH.aggAt {n:Nat} {cs:List V} {i:Nat} (h:cs[i]?=some .nils):NH n (.agg cs) (.agg (cs.set i (.heap n 0))):=by
 refine .agg (by simp) (fun j v u hv hu=>?_)
 rw [List.getElem?_set] at hu
 by_cases e:i=j
 ·subst e
  rw [h] at hv
  cases hv
  rw [if_pos rfl,if_pos (List.getElem?_eq_some_iff.1 h).1] at hu
  cases hu
  exact .nil
 ·rw [if_neg e,hv] at hu
  cases hu
  exact .refl _
def eV (b c:Nat) (e:En):V:=enV (.heap b e.strs.length) (.heap c e.wait.length) e
@[push_cast] theorem eV_eq (b c:Nat) (e:En):eV b c e=.agg [.bool e.ans,.rows none (e.out.map fV),.int .i64 e.outM,.rows none (e.inn.map fV),.int .i64 e.innM,.str e.came,.heap b e.strs.length,.int .i64 e.send,.int .i64 e.room,.heap c e.wait.length,.bool e.bad]:=rfl
def zE:List V:=[.bool false,.nils,.int .i64 0,.nils,.int .i64 0,.str [],.nils,.int .i64 0,.int .i64 0,.nils,.bool false]
@[push_cast] theorem zE_eq:zE=[.bool false,.nils,.int .i64 0,.nils,.int .i64 0,.str [],.nils,.int .i64 0,.int .i64 0,.nils,.bool false]:=rfl
structure EnNew (S:List Blk) (e:En) (b c:Nat) (S':List Blk):Prop where
 at_:EnAt S' b c e
 hb:S.length≤b
 hc:S.length≤c
 upd:Upd [] S S'
structure EnTo (S:List Blk) (b c:Nat) (e:En) (b' c':Nat) (S':List Blk):Prop where
 at_:EnAt S' b' c' e
 hb:b'=b∨S.length≤b'
 hc:c'=c∨S.length≤c'
 upd:Upd [b,c] S S'
theorem EnTo.refl {S:List Blk} {b c:Nat} {e:En} (h:EnAt S b c e):EnTo S b c e b c S:=⟨h,.inl rfl,.inl rfl,Upd.refl _ _⟩
theorem EnTo.trans {S S1 S2:List Blk} {b c b1 c1 b2 c2:Nat} {e1 e2:En} (h:EnTo S b c e1 b1 c1 S1) (k:EnTo S1 b1 c1 e2 b2 c2 S2):EnTo S b c e2 b2 c2 S2:=by
 have hl:=h.upd.1
 have hb:=h.hb; have hc:=h.hc
 refine ⟨k.at_,?_,?_,h.upd.then_ k.upd fun j hj hm=>?_⟩
 ·rcases k.hb with e | e <;> omega
 ·rcases k.hc with e | e <;> omega
 ·simp only [List.mem_cons,List.not_mem_nil,or_false] at hm ⊢
  omega
theorem EnNew.to {S S1 S2:List Blk} {b1 c1 b2 c2:Nat} {e1 e2:En} (h:EnNew S e1 b1 c1 S1) (k:EnTo S1 b1 c1 e2 b2 c2 S2):EnNew S e2 b2 c2 S2:=by
 have hl:=h.upd.1
 have hb:=h.hb; have hc:=h.hc
 refine ⟨k.at_,?_,?_,h.upd.then_ k.upd fun j hj hm=>?_⟩
 ·rcases k.hb with e | e <;> omega
 ·rcases k.hc with e | e <;> omega
 ·simp only [List.mem_cons,List.not_mem_nil,or_false] at hm
  omega
theorem EnNew.app {S:List Blk} {X:List Blk} {e:En} {b c:Nat} {S':List Blk} (h:EnNew (S++X) e b c S'):EnNew S e b c S':=by
 have hb:=h.hb; have hc:=h.hc
 rw [List.length_append] at hb hc
 refine ⟨h.at_,by omega,by omega,?_⟩
 exact ((Upd.refl [] S).app X).then_ h.upd (fun j hj hm=>hm)
theorem EnTo.app {S:List Blk} {X:List Blk} {e:En} {b c b' c':Nat} {S':List Blk} (h:EnTo (S++X) b c e b' c' S'):EnTo S b c e b' c' S':=by
 have hb:=h.hb; have hc:=h.hc
 rw [List.length_append] at hb hc
 refine ⟨h.at_,by omega,by omega,?_⟩
 exact ((Upd.refl [b,c] S).app X).then_ h.upd (fun j hj hm=>hm)
theorem EnAt.app {S:List Blk} {b c:Nat} {e:En} (h:EnAt S b c e) (X:List Blk):EnAt (S++X) b c e:=by
 have h1:=lt_of_some h.1; have h2:=lt_of_some h.2
 exact ⟨by rw [List.getElem?_append_left h1]; exact h.1,by rw [List.getElem?_append_left h2]; exact h.2⟩
theorem EnAt.hv {S:List Blk} {b c:Nat} {e:En} (h:EnAt S b c e):HSa 12 (strsC e.strs) e.strs.length S (.heap b e.strs.length):=.inl ⟨b,rfl,h.1⟩
theorem EnAt.hw {S:List Blk} {b c:Nat} {e:En} (h:EnAt S b c e):HSa 4 (frmsC e.wait) e.wait.length S (.heap c e.wait.length):=.inl ⟨c,rfl,h.2⟩
def RNew (S:List Blk) (e:En) (v:V) (S':List Blk):Prop:=∃b' c',v=eV b' c' e∧EnNew S e b' c' S'
def RTo (S:List Blk) (b c:Nat) (e:En) (v:V) (S':List Blk):Prop:=∃b' c',v=eV b' c' e∧EnTo S b c e b' c' S'
theorem RTo.mk {S:List Blk} {b c:Nat} {e:En} {v:V} {S':List Blk} (b' c':Nat) (hv:v=eV b' c' e) (h1:S'[b']?=some (.cells 12 (strsC e.strs))) (h2:S'[c']?=some (.cells 4 (frmsC e.wait)))
  (hb:b'=b∨S.length≤b') (hc:c'=c∨S.length≤c') (hu:Upd [b,c] S S'):RTo S b c e v S':=⟨b',c',hv,⟨h1,h2⟩,hb,hc,hu⟩
theorem RTo.stay {S X:List Blk} {b c:Nat} {e:En} (h:EnAt S b c e):RTo S b c e (eV b c e) (S++X):=⟨b,c,rfl,h.app _,.inl rfl,.inl rfl,(Upd.refl _ _).app _⟩
end
section
open Go
theorem nh_strs {S0 S:List Blk} {c m:Nat} {e:En} (h:e.strs=[]):Wk S0 (enV .nils (.heap c m) e) S (enV (.heap S.length e.strs.length) (.heap c m) e) (S++[.cells 12 []]):=by
 have:NH S.length (enV .nils (.heap c m) e) (enV (.heap S.length e.strs.length) (.heap c m) e):=by
  rw [h]
  exact NH.aggAt (i:=6) rfl
 exact Wk.nh 12 this
theorem nh_wait {S0 S:List Blk} {v:V} {e:En} (h:e.wait=[]):Wk S0 (enV v .nils e) S (enV v (.heap S.length e.wait.length) e) (S++[.cells 4 []]):=by
 have:NH S.length (enV v .nils e) (enV v (.heap S.length e.wait.length) e):=by
  rw [h]
  exact NH.aggAt (i:=9) rfl
 exact Wk.nh 4 this
theorem nh_both {S0 S:List Blk} {e:En} (h:e.strs=[]) (k:e.wait=[]):Wk S0 (enV .nils .nils e) S (eV (S.length+1) S.length e) (S++[.cells 4 [],.cells 12 []]):=by
 have h1:=nh_wait (S0:=S0) (S:=S) (v:=.nils) (e:=e) k
 have h2:=nh_strs (S0:=S0) (S:=S++[.cells 4 []]) (c:=S.length) (m:=e.wait.length) h
 rw [List.length_append,List.append_assoc] at h2
 exact h1.trans h2
theorem new_both {S:List Blk} {e:En} (h:e.strs=[]) (k:e.wait=[]):EnNew S e (S.length+1) S.length (S++[.cells 4 [],.cells 12 []]):=by
 refine ⟨⟨?_,?_⟩,by omega,by omega,(Upd.refl _ _).app _⟩
 ·rw [h,app_get]; rfl
 ·rw [k,app_get0]; rfl
theorem fin_new {S S1:List Blk} {r:V} {e:En} (h:e.strs=[]) (k:e.wait=[]) (hu:Upd [] S S1) (hr:eraseT r=eraseT (enV .nils .nils e)) (hn:r=enV .nils .nils e):∃r' S2,Wk S r S1 r' S2∧RNew S e r' S2:=by
 subst hn
 refine ⟨_,_,nh_both h k,_,_,rfl,?_⟩
 have:=new_both (S:=S1) h k
 have hl:=hu.1
 exact ⟨this.at_,by omega,by omega,hu.trans this.upd⟩
end
section
open Go
theorem cells_ne {S:List Blk} {i j m n:Nat} {cs ds:List V} (h:S[i]?=some (.cells m cs)) (k:S[j]?=some (.cells n ds)) (hs:m≠n):i≠j:=by
 rintro rfl
 rw [h] at k
 cases k
 exact hs rfl
theorem EnTo.set {S:List Blk} {b c:Nat} {e:En} {b' c':Nat} {S':List Blk} (h:EnTo S b c e b' c' S') {j:Nat} (B:Blk) (hj:S.length≤j) (h1:b'≠j) (h2:c'≠j):EnTo S b c e b' c' (S'.set j B) :=
 ⟨⟨by rw [get_set_ne (Ne.symm h1)]; exact h.at_.1,by rw [get_set_ne (Ne.symm h2)]; exact h.at_.2⟩,h.hb,h.hc,h.upd.set B (.inl hj)⟩
theorem EnTo.stay {S X:List Blk} {b c:Nat} {e:En} (h:EnAt S b c e):EnTo S b c e b c (S++X):=⟨h.app _,.inl rfl,.inl rfl,(Upd.refl _ _).app _⟩
end
section
open Go
theorem tailR_zero:∀(K:Nat) (r:List UInt8) (k:Nat),tailR K r=some (0,k)→(r.getD (k - 1) 0).toNat=0
 | 0,r,k,h=>by simp [tailR] at h
 | K+1,[],k,h=>by simp [tailR] at h
 | K+1,c :: r,k,h=>by
  rw [tailR] at h
  split at h
  ·simp only [Option.some.injEq,Prod.mk.injEq] at h
   obtain ⟨h1,rfl⟩:=h
   simpa using h1
  ·split at h
   ·rename_i v' k' h'
    simp only [Option.some.injEq,Prod.mk.injEq] at h
    obtain ⟨h1,rfl⟩:=h
    have hv:v'=0:=by omega
    subst hv
    have hb:=tailR_bound K r 0 k' h'
    have ih:=tailR_zero K r k' h'
    obtain ⟨j,rfl⟩:∃j,k'=j+1:=⟨k' - 1,by omega⟩
    simpa using ih
   ·cases h
theorem tailR_canon:∀(K:Nat) (r:List UInt8) (v k:Nat),tailR K r=some (v,k)→(numTail v=r.take k↔(k=1∨(r.getD (k - 1) 0).toNat≠0))
 | 0,r,v,k,h=>by simp [tailR] at h
 | K+1,[],v,k,h=>by simp [tailR] at h
 | K+1,c :: r,v,k,h=>by
  have hc:=c.toNat_lt
  rw [tailR] at h
  split at h
  ·rename_i h128
   simp only [Option.some.injEq,Prod.mk.injEq] at h
   obtain ⟨rfl,rfl⟩:=h
   refine ⟨fun _=>.inl rfl,fun _=>?_⟩
   rw [numTail_lt h128]
   simp [by8]
  ·rename_i h128
   split at h
   ·rename_i v' k' h'
    simp only [Option.some.injEq,Prod.mk.injEq] at h
    obtain ⟨rfl,rfl⟩:=h
    obtain ⟨b1,b2,b3,b4⟩:=tailR_bound K r v' k' h'
    have ih:=tailR_canon K r v' k' h'
    obtain ⟨j,rfl⟩:∃j,k'=j+1:=⟨k' - 1,by omega⟩
    have hgd:(c :: r).getD (j+1+1 - 1) 0=r.getD (j+1 - 1) 0:=rfl
    rw [hgd]
    by_cases hv:v'=0
    ·subst hv
     have hz:=tailR_zero K r _ h'
     refine ⟨fun e=>?_,fun e=>?_⟩
     ·exfalso
      have:=congrArg List.length e
      rw [numTail_lt (by omega),List.length_singleton,List.length_take,List.length_cons] at this
      omega
     ·rcases e with e | e
      ·omega
      ·exact absurd hz e
    ·have e1:numTail (c.toNat % 128+128 * v')=c :: numTail v':=by
      rw [numTail_ge (by omega),show (c.toNat % 128+128 * v') % 128+128=c.toNat by omega,show (c.toNat % 128+128 * v') / 128=v' by omega]
      simp [by8]
     rw [e1,List.take_succ_cons]
     refine ⟨fun e=>.inr ?_,fun e=>?_⟩
     ·have e2:=ih.1 (List.cons.inj e).2
      rcases e2 with e2 | e2
      ·have:j=0:=by omega
       subst this
       obtain ⟨K',rfl⟩:∃m,K=m+1:=⟨K - 1,by omega⟩
       cases r with
       | nil=>simp [tailR] at h'
       | cons d r =>
        rw [tailR] at h'
        split at h'
        ·simp only [Option.some.injEq,Prod.mk.injEq] at h'
         simpa using (by omega:d.toNat≠0)
        ·split at h'
         ·rename_i v2 k2 h2
          have:=tailR_bound K' r v2 k2 h2
          simp only [Option.some.injEq,Prod.mk.injEq] at h'
          omega
         ·cases h'
      ·exact e2
     ·rcases e with e | e
      ·omega
      ·rw [ih.2 (.inr e)]
   ·cases h
theorem l1Read_ok (b:List UInt8) (bits:Nat) (hb:3≤bits∧bits≤7) (hl:b.length≤1000000000) (S:List Blk) :
  VCall Try.prog 43 [.str b,.int .i64 bits] S fun r S'=>r=nrV (numR b bits)∧S'=S:=by
 cases b with
 | nil =>
  refine VCall.en hD Try.func43 Try.ntmps43 Try.results43 ?_
  simp -implicitDefEqProofs (disch:=omega) only [push_cast,simprocAttr,↓gd]
  exact fin0 rfl
 | cons c r =>
  obtain ⟨p,hp⟩:∃p,p=2 ^ bits:=⟨_,rfl⟩
  have hp2:p≤2 ^ 7:=by rw [hp]; exact Nat.pow_le_pow_right (by omega) (by omega)
  have hp1:2≤p:=by rw [hp,show bits=(bits - 1)+1 by omega,Nat.pow_succ]; have:=Nat.one_le_two_pow (n:=bits - 1); omega
  have hc:=c.toNat_lt
  have hw:IntKind.i64.wrap (c.toNat:Int)=c.toNat:=i64_fit _ (by omega)
  obtain ⟨m,hm⟩:∃m,m=c.toNat % p:=⟨_,rfl⟩
  have hmp:m < p:=by rw [hm]; exact Nat.mod_lt _ (by omega)
  have htm:Int.tmod (c.toNat:Int) ((p:Int) - 1+1)=m:=by rw [show (p:Int) - 1+1=p by omega,hm]; exact tmod_nat _ _
  have hp0:¬((p:Int) - 1+1=0):=by omega
  have h0:(c :: r).getD 0 0=c:=rfl
  have hne:(c :: r=[])=False:=by simp
  have hl':r.length≤1000000000:=by simp at hl; omega
  refine VCall.en hD Try.func43 Try.ntmps43 Try.results43 ?_
  simp -implicitDefEqProofs (disch:=omega) only [push_cast,simprocAttr,hne,h0,↓gd]
  refine ((l1Top_ok bits (by omega) _).as (by simp)).to ?_
  rw [←hp]
  simp -implicitDefEqProofs (disch:=omega) only [push_cast,simprocAttr,hne,h0,hw,htm,hp0,↓gd]
  refine ⟨by omega,fun hmt=>fin0 ?_,fun hmt=>?_⟩
  ·rw [numR,←hp,←hm,if_pos (by omega)]
   rfl
  have hnr:∀v k:Nat,tailR 3 r=some (v,k)→numR (c :: r) bits=if p - 1+v≤9999∧numTail v=r.take k then some (p - 1+v,k+1) else none:=by
   intro v k ht
   rw [numR,←hp,←hm,if_neg (by omega),ht]
  have hnn:tailR 3 r=none→numR (c :: r) bits=none:=by
   intro ht
   rw [numR,←hp,←hm,if_neg (by omega),ht]
  refine wpV_loop (fun x t S'=>∃k z w q acc:Nat,x=3 - k∧k≤3∧k≤r.length∧z=1+k∧q=128 ^ k∧w=p - 1+acc∧acc < q∧tailR 3 r=(tailR (3 - k) (r.drop k)).map (fun y=>(acc+q * y.1,k+y.2))∧t 0=.str (c :: r)∧t 8=.int .i64 w∧t 9=.int .i64 q∧t 10=.int .i64 z∧S'=S) 3
   ⟨0,1,p - 1,1,0,rfl,by omega,by omega,rfl,rfl,rfl,by omega,by simp,rfl,?_,rfl,rfl,rfl⟩ ?_
  ·simp only [putT]
   simp
   omega
  rintro x t S' ⟨k,z,w,q,acc,rfl,hk3,hkr,hz,hq,hw',hacc,htr,h0',h8,h9,h10,rfl⟩
  have hq3:q≤2097152:=by rw [hq]; exact Nat.pow_le_pow_right (by decide) hk3
  refine wpV_of0 hD ?_
  by_cases hlast:k=r.length
  ·have htn:tailR 3 r=none:=by
    rw [htr,hlast,List.drop_length]
    cases hx:3 - r.length <;> rfl
   have hz':¬(z:Int) < (r.length:Int)+1:=by omega
   simp -implicitDefEqProofs (disch:=omega) only [push_cast,simprocAttr,h0',h8,h9,h10,hz',↓gd]
   exact fin0 (by rw [hnn htn]; rfl)
  have hz':(z:Int) < (r.length:Int)+1:=by omega
  by_cases h3:k=3
  ·have htn:tailR 3 r=none:=by rw [htr,h3]; rfl
   have hs':¬(z:Int)≤3:=by omega
   simp -implicitDefEqProofs (disch:=omega) only [push_cast,simprocAttr,h0',h8,h9,h10,hz',hs',↓gd]
   exact fin0 (by rw [hnn htn]; rfl)
  have hs':(z:Int)≤3:=by omega
  obtain ⟨d,hd⟩:∃d,d=r.getD k 0:=⟨_,rfl⟩
  have hzd:(c :: r).getD z 0=d:=by rw [hz,Nat.add_comm,hd]; rfl
  have hz0:(0:Int)≤z:=by omega
  have hdl:=d.toNat_lt
  have hdw:IntKind.i64.wrap (d.toNat:Int)=d.toNat:=i64_fit _ (by omega)
  obtain ⟨u,hu⟩:∃u,u=d.toNat % 128:=⟨_,rfl⟩
  have hda:Int.tmod (d.toNat:Int) 128=u:=by rw [hu]; exact tmod_nat _ 128
  have hq2:q≤16384:=by rw [hq]; exact Nat.pow_le_pow_right (by decide) (by omega:k≤2)
  obtain ⟨g,hg⟩:∃g,g=u * q:=⟨_,rfl⟩
  have hug:(q:Int) * (u:Int)=g:=by rw [hg,Nat.mul_comm]; simp
  have hgb:g≤127 * 16384:=by rw [hg]; exact Nat.mul_le_mul (by omega) hq2
  have hrd:r.drop k=d :: r.drop (k+1):=by
   rw [List.drop_eq_getElem_cons (by omega),hd,List.getD,List.getElem?_eq_getElem (by omega)]; rfl
  have htd:tailR (3 - k) (r.drop k)=if d.toNat < 128 then some (d.toNat,1) else (tailR (3 - (k+1)) (r.drop (k+1))).map (fun y=>(u+128 * y.1,y.2+1)):=by
   rw [hrd,show 3 - k=(3 - (k+1))+1 by omega,tailR]
   split
   ·rfl
   ·rw [hu]
    cases tailR (3 - (k+1)) (r.drop (k+1)) <;> rfl
  by_cases hd128:d.toNat < 128
  ·have hd128':(d.toNat:Int) < 128:=by omega
   have hud:u=d.toNat:=by omega
   obtain ⟨v,hv⟩:∃v,v=acc+g:=⟨_,rfl⟩
   have ht3:tailR 3 r=some (v,k+1):=by
    rw [htr,htd,if_pos (by omega),Option.map_some,hv,hg,hud,Nat.mul_comm q]
   have hnr2:=hnr v (k+1) ht3
   have hcan:=tailR_canon 3 r v (k+1) ht3
   rw [Nat.add_sub_cancel,←hd] at hcan
   by_cases hbad:d.toNat=0∧z > 1
   ·have hb1:(d.toNat:Int)=0:=by omega
    have hb2:(z:Int) > 1:=by omega
    have:¬numTail v=r.take (k+1):=fun e=>by rcases hcan.1 e with h | h <;> omega
    rw [if_neg (fun h=>this h.2)] at hnr2
    simp -implicitDefEqProofs (disch:=omega) only [push_cast,simprocAttr,h0',h8,h9,h10,hz',hs',hz0,hzd,hdw,hda,hug,hd128',hb1,hb2,↓gd]
    exact fin0 (by rw [hnr2]; rfl)
   ·have hcan2:numTail v=r.take (k+1):=hcan.2 (by omega)
    by_cases g9:p - 1+v≤9999
    ·rw [if_pos ⟨g9,hcan2⟩] at hnr2
     have h9999:¬((w:Int)+g > 9999):=by omega
     by_cases hdz:d.toNat=0
     ·have hb1:((d.toNat:Int)=0)=True:=eq_true (by omega)
      have hb2:¬(z:Int) > 1:=by omega
      simp -implicitDefEqProofs (disch:=omega) only [push_cast,simprocAttr,h0',h8,h9,h10,hz',hs',hz0,hzd,hdw,hda,hug,hd128',hb1,hb2,h9999,↓gd]
      refine fin0 ?_
      rw [hnr2,nrV]
      congr 3
      ·omega
      ·congr 2; omega
     ·have hb1:¬(d.toNat:Int)=0:=by omega
      simp -implicitDefEqProofs (disch:=omega) only [push_cast,simprocAttr,h0',h8,h9,h10,hz',hs',hz0,hzd,hdw,hda,hug,hd128',hb1,h9999,↓gd]
      refine fin0 ?_
      rw [hnr2,nrV]
      congr 3
      ·omega
      ·congr 2; omega
    ·rw [if_neg (fun h=>g9 h.1)] at hnr2
     have h9999:((w:Int)+g > 9999):=by omega
     by_cases hdz:d.toNat=0
     ·have hb1:((d.toNat:Int)=0)=True:=eq_true (by omega)
      have hb2:¬(z:Int) > 1:=by omega
      simp -implicitDefEqProofs (disch:=omega) only [push_cast,simprocAttr,h0',h8,h9,h10,hz',hs',hz0,hzd,hdw,hda,hug,hd128',hb1,hb2,h9999,↓gd]
      exact fin0 (by rw [hnr2]; rfl)
     ·have hb1:¬(d.toNat:Int)=0:=by omega
      simp -implicitDefEqProofs (disch:=omega) only [push_cast,simprocAttr,h0',h8,h9,h10,hz',hs',hz0,hzd,hdw,hda,hug,hd128',hb1,h9999,↓gd]
      exact fin0 (by rw [hnr2]; rfl)
  ·have hd128':¬(d.toNat:Int) < 128:=by omega
   simp -implicitDefEqProofs (disch:=omega) only [push_cast,simprocAttr,h0',h8,h9,h10,hz',hs',hz0,hzd,hdw,hda,hug,hd128',↓gd]
   have hgq:g≤127 * q:=by rw [hg]; exact Nat.mul_le_mul_right _ (by omega)
   refine ⟨3 - (k+1),by omega,k+1,z+1,w+g,q * 128,acc+g,rfl,by omega,by omega,by omega,by rw [hq,Nat.pow_succ],by omega,by omega,?_,by simp,by simp; omega,by simp⟩
   rw [htr,htd,if_neg (by omega),Option.map_map]
   congr 1
   funext y
   simp only [Function.comp_apply,Prod.mk.injEq]
   refine ⟨?_,by omega⟩
   rw [Nat.mul_add,hg,Nat.mul_comm u q,Nat.mul_assoc]
   omega
end
end Go.Proofs.Ytldogccmhncnoaa
