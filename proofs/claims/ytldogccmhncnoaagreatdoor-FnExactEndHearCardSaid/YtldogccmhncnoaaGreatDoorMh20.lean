/- A part of the proof: contracts of functions, or plain facts on which these lean. -/
import Derived.Test.YtldogccmhncnoaaGreatDoorMh19
namespace Go.Proofs.YtldogccmhncnoaaGreatDoor
open Go
set_option linter.unusedVariables false
set_option linter.unusedSimpArgs false
set_option maxRecDepth 100000
set_option maxHeartbeats 16000000

section
open Go
section
variable {S l:List Blk} {B C:Blk} {i j k n:Nat}
@[push_cast] theorem get_set_ne (h:i≠j):(S.set i B)[j]?=S[j]?:=List.getElem?_set_ne h
@[push_cast] theorem get_set_eq (h:i < S.length):(S.set i B)[i]?=some B:=List.getElem?_set_self h
@[push_cast] theorem get_app_old (h:j < S.length):(S++l)[j]?=S[j]?:=List.getElem?_append_left h
@[push_cast] theorem set_app_old (h:j < S.length):(S++l).set j B=S.set j B++l:=List.set_append_left _ _ h
@[push_cast] theorem s1_get0 {i0:Nat} {B0:Blk}:((S.set i0 B0)++l)[S.length]?=l[0]?:=by rw [List.getElem?_append_right (by simp)]; simp
@[push_cast] theorem s1_get {i0:Nat} {B0:Blk}:((S.set i0 B0)++l)[S.length+n]?=l[n]?:=by rw [List.getElem?_append_right (by simp)]; simp
@[push_cast] theorem s1_set0 {i0:Nat} {B0:Blk}:((S.set i0 B0)++l).set S.length C=(S.set i0 B0)++l.set 0 C:=by rw [List.set_append,if_neg (by simp)]; simp
@[push_cast] theorem s1_set {i0:Nat} {B0:Blk}:((S.set i0 B0)++l).set (S.length+n) C=(S.set i0 B0)++l.set n C:=by rw [List.set_append,if_neg (by simp)]; simp
@[push_cast] theorem s1_old {i0:Nat} {B0:Blk} (h:j < S.length):((S.set i0 B0)++l)[j]?=(S.set i0 B0)[j]?:=List.getElem?_append_left (by simpa using h)
@[push_cast] theorem s1_sold {i0:Nat} {B0:Blk} (h:j < S.length):((S.set i0 B0)++l).set j C=(S.set i0 B0).set j C++l:=List.set_append_left _ _ (by simpa using h)
@[push_cast] theorem s1_self {i0:Nat} {B0:Blk} (h:j < S.length):((S.set i0 B0).set j C)[j]?=some C:=List.getElem?_set_self (by simpa using h)
@[push_cast] theorem s2_get0 {i0 i1:Nat} {B0 B1:Blk}:(((S.set i0 B0).set i1 B1)++l)[S.length]?=l[0]?:=by rw [List.getElem?_append_right (by simp)]; simp
@[push_cast] theorem s2_get {i0 i1:Nat} {B0 B1:Blk}:(((S.set i0 B0).set i1 B1)++l)[S.length+n]?=l[n]?:=by rw [List.getElem?_append_right (by simp)]; simp
@[push_cast] theorem s2_set0 {i0 i1:Nat} {B0 B1:Blk}:(((S.set i0 B0).set i1 B1)++l).set S.length C=((S.set i0 B0).set i1 B1)++l.set 0 C:=by rw [List.set_append,if_neg (by simp)]; simp
@[push_cast] theorem s2_set {i0 i1:Nat} {B0 B1:Blk}:(((S.set i0 B0).set i1 B1)++l).set (S.length+n) C=((S.set i0 B0).set i1 B1)++l.set n C:=by rw [List.set_append,if_neg (by simp)]; simp
@[push_cast] theorem s2_old {i0 i1:Nat} {B0 B1:Blk} (h:j < S.length):(((S.set i0 B0).set i1 B1)++l)[j]?=((S.set i0 B0).set i1 B1)[j]?:=List.getElem?_append_left (by simpa using h)
@[push_cast] theorem s2_sold {i0 i1:Nat} {B0 B1:Blk} (h:j < S.length):(((S.set i0 B0).set i1 B1)++l).set j C=((S.set i0 B0).set i1 B1).set j C++l:=List.set_append_left _ _ (by simpa using h)
@[push_cast] theorem s2_self {i0 i1:Nat} {B0 B1:Blk} (h:j < S.length):(((S.set i0 B0).set i1 B1).set j C)[j]?=some C:=List.getElem?_set_self (by simpa using h)
@[push_cast] theorem s3_get0 {i0 i1 i2:Nat} {B0 B1 B2:Blk}:((((S.set i0 B0).set i1 B1).set i2 B2)++l)[S.length]?=l[0]?:=by rw [List.getElem?_append_right (by simp)]; simp
@[push_cast] theorem s3_get {i0 i1 i2:Nat} {B0 B1 B2:Blk}:((((S.set i0 B0).set i1 B1).set i2 B2)++l)[S.length+n]?=l[n]?:=by rw [List.getElem?_append_right (by simp)]; simp
@[push_cast] theorem s3_set0 {i0 i1 i2:Nat} {B0 B1 B2:Blk}:((((S.set i0 B0).set i1 B1).set i2 B2)++l).set S.length C=(((S.set i0 B0).set i1 B1).set i2 B2)++l.set 0 C:=by rw [List.set_append,if_neg (by simp)]; simp
@[push_cast] theorem s3_set {i0 i1 i2:Nat} {B0 B1 B2:Blk}:((((S.set i0 B0).set i1 B1).set i2 B2)++l).set (S.length+n) C=(((S.set i0 B0).set i1 B1).set i2 B2)++l.set n C:=by rw [List.set_append,if_neg (by simp)]; simp
@[push_cast] theorem s3_old {i0 i1 i2:Nat} {B0 B1 B2:Blk} (h:j < S.length):((((S.set i0 B0).set i1 B1).set i2 B2)++l)[j]?=(((S.set i0 B0).set i1 B1).set i2 B2)[j]?:=List.getElem?_append_left (by simpa using h)
@[push_cast] theorem s3_sold {i0 i1 i2:Nat} {B0 B1 B2:Blk} (h:j < S.length):((((S.set i0 B0).set i1 B1).set i2 B2)++l).set j C=(((S.set i0 B0).set i1 B1).set i2 B2).set j C++l:=List.set_append_left _ _ (by simpa using h)
@[push_cast] theorem s3_self {i0 i1 i2:Nat} {B0 B1 B2:Blk} (h:j < S.length):((((S.set i0 B0).set i1 B1).set i2 B2).set j C)[j]?=some C:=List.getElem?_set_self (by simpa using h)
@[push_cast] theorem s4_get0 {i0 i1 i2 i3:Nat} {B0 B1 B2 B3:Blk}:(((((S.set i0 B0).set i1 B1).set i2 B2).set i3 B3)++l)[S.length]?=l[0]?:=by rw [List.getElem?_append_right (by simp)]; simp
@[push_cast] theorem s4_get {i0 i1 i2 i3:Nat} {B0 B1 B2 B3:Blk}:(((((S.set i0 B0).set i1 B1).set i2 B2).set i3 B3)++l)[S.length+n]?=l[n]?:=by rw [List.getElem?_append_right (by simp)]; simp
@[push_cast] theorem s4_set0 {i0 i1 i2 i3:Nat} {B0 B1 B2 B3:Blk}:(((((S.set i0 B0).set i1 B1).set i2 B2).set i3 B3)++l).set S.length C=((((S.set i0 B0).set i1 B1).set i2 B2).set i3 B3)++l.set 0 C:=by rw [List.set_append,if_neg (by simp)]; simp
@[push_cast] theorem s4_set {i0 i1 i2 i3:Nat} {B0 B1 B2 B3:Blk}:(((((S.set i0 B0).set i1 B1).set i2 B2).set i3 B3)++l).set (S.length+n) C=((((S.set i0 B0).set i1 B1).set i2 B2).set i3 B3)++l.set n C:=by rw [List.set_append,if_neg (by simp)]; simp
@[push_cast] theorem s4_old {i0 i1 i2 i3:Nat} {B0 B1 B2 B3:Blk} (h:j < S.length):(((((S.set i0 B0).set i1 B1).set i2 B2).set i3 B3)++l)[j]?=((((S.set i0 B0).set i1 B1).set i2 B2).set i3 B3)[j]?:=List.getElem?_append_left (by simpa using h)
@[push_cast] theorem s4_sold {i0 i1 i2 i3:Nat} {B0 B1 B2 B3:Blk} (h:j < S.length):(((((S.set i0 B0).set i1 B1).set i2 B2).set i3 B3)++l).set j C=((((S.set i0 B0).set i1 B1).set i2 B2).set i3 B3).set j C++l:=List.set_append_left _ _ (by simpa using h)
@[push_cast] theorem s4_self {i0 i1 i2 i3:Nat} {B0 B1 B2 B3:Blk} (h:j < S.length):(((((S.set i0 B0).set i1 B1).set i2 B2).set i3 B3).set j C)[j]?=some C:=List.getElem?_set_self (by simpa using h)
@[push_cast] theorem s5_get0 {i0 i1 i2 i3 i4:Nat} {B0 B1 B2 B3 B4:Blk}:((((((S.set i0 B0).set i1 B1).set i2 B2).set i3 B3).set i4 B4)++l)[S.length]?=l[0]?:=by rw [List.getElem?_append_right (by simp)]; simp
@[push_cast] theorem s5_get {i0 i1 i2 i3 i4:Nat} {B0 B1 B2 B3 B4:Blk}:((((((S.set i0 B0).set i1 B1).set i2 B2).set i3 B3).set i4 B4)++l)[S.length+n]?=l[n]?:=by rw [List.getElem?_append_right (by simp)]; simp
@[push_cast] theorem s5_set0 {i0 i1 i2 i3 i4:Nat} {B0 B1 B2 B3 B4:Blk}:((((((S.set i0 B0).set i1 B1).set i2 B2).set i3 B3).set i4 B4)++l).set S.length C=(((((S.set i0 B0).set i1 B1).set i2 B2).set i3 B3).set i4 B4)++l.set 0 C:=by rw [List.set_append,if_neg (by simp)]; simp
@[push_cast] theorem s5_set {i0 i1 i2 i3 i4:Nat} {B0 B1 B2 B3 B4:Blk}:((((((S.set i0 B0).set i1 B1).set i2 B2).set i3 B3).set i4 B4)++l).set (S.length+n) C=(((((S.set i0 B0).set i1 B1).set i2 B2).set i3 B3).set i4 B4)++l.set n C:=by rw [List.set_append,if_neg (by simp)]; simp
@[push_cast] theorem s5_old {i0 i1 i2 i3 i4:Nat} {B0 B1 B2 B3 B4:Blk} (h:j < S.length):((((((S.set i0 B0).set i1 B1).set i2 B2).set i3 B3).set i4 B4)++l)[j]?=(((((S.set i0 B0).set i1 B1).set i2 B2).set i3 B3).set i4 B4)[j]?:=List.getElem?_append_left (by simpa using h)
@[push_cast] theorem s5_sold {i0 i1 i2 i3 i4:Nat} {B0 B1 B2 B3 B4:Blk} (h:j < S.length):((((((S.set i0 B0).set i1 B1).set i2 B2).set i3 B3).set i4 B4)++l).set j C=(((((S.set i0 B0).set i1 B1).set i2 B2).set i3 B3).set i4 B4).set j C++l:=List.set_append_left _ _ (by simpa using h)
@[push_cast] theorem s5_self {i0 i1 i2 i3 i4:Nat} {B0 B1 B2 B3 B4:Blk} (h:j < S.length):((((((S.set i0 B0).set i1 B1).set i2 B2).set i3 B3).set i4 B4).set j C)[j]?=some C:=List.getElem?_set_self (by simpa using h)
@[push_cast] theorem set_mid {D E:Blk} (h:i≠j):((S.set i D).set j E).set i B=(S.set i B).set j E:=by rw [List.set_comm _ _ (Ne.symm h),List.set_set]
@[push_cast] theorem set_set_same {D:Blk}:(S.set i B).set i D=S.set i D:=List.set_set ..
end
inductive NH (n:Nat):V→V→Prop where
 | nil:NH n .nils (.heap n 0)
 | refl (v:V):NH n v v
 | agg {cs ds:List V}:cs.length=ds.length→(∀(i:Nat) (v u:V),cs[i]?=some v→ds[i]?=some u→NH n v u)→NH n (.agg cs) (.agg ds)
 | tup {cs ds:List V}:cs.length=ds.length→(∀(i:Nat) (v u:V),cs[i]?=some v→ds[i]?=some u→NH n v u)→NH n (.tup cs) (.tup ds)
theorem NH.ok {G G':Gh} {w:World} {n:Nat} (hE:Ext G w G' w) (hn:n < G'.n) {v v':V} (h:NH n v v') {c:Value} (hv:VR G w v c):VR G' w v' c:=by
 induction h generalizing c with
 | nil=>cases hv; exact .heapNil hn
 | refl v=>exact hv.ext hE
 | agg hl _ ih =>
  cases hv with
  | agg h1 h2 h3 =>
   refine .agg (by rw [←hl]; exact h1) (fun i v u hv hu=>?_) h3
   have hi:=List.getElem?_eq_some_iff.1 hv
   obtain ⟨hi,e⟩:=hi
   exact ih i _ v (List.getElem?_eq_getElem (by omega)) hv (h2 i _ u (List.getElem?_eq_getElem (by omega)) hu)
 | tup hl _ ih =>
  cases hv with
  | tup h1 h2 =>
   refine .tup (by rw [←hl]; exact h1) (fun i v u hv hu=>?_)
   have hi:=List.getElem?_eq_some_iff.1 hv
   obtain ⟨hi,e⟩:=hi
   exact ih i _ v (List.getElem?_eq_getElem (by omega)) hv (h2 i _ u (List.getElem?_eq_getElem (by omega)) hu)
theorem Wk.nh {S0 S:List Blk} {r r':V} (sz:Nat) (h:NH S.length r r'):Wk S0 r S r' (S++[.cells sz []]):=by
 intro G0 w0 G w c hR0 hE hv hR
 obtain ⟨h1,h2⟩:=hR.pushNil sz (.cells sz []) (fun z cs e=>by cases e; rfl)
 exact ⟨_,h.ok h2.ext (by simp [Gh.pushNil,hR.n]) hv,h1,hE.trans h2⟩
theorem NH.aggAt {n:Nat} {cs:List V} {i:Nat} (h:cs[i]?=some .nils):NH n (.agg cs) (.agg (cs.set i (.heap n 0))):=by
 refine .agg (by simp) (fun j v u hv hu=>?_)
 rw [List.getElem?_set] at hu
 by_cases e:i=j
 ·subst e
  rw [h] at hv
  cases hv
  rw [if_pos rfl,if_pos (List.getElem?_eq_some_iff.1 h).1] at hu
  cases hu
  exact .nil
 ·rw [if_neg e,hv] at hu
  cases hu
  exact .refl _
def eV (b c:Nat) (e:En):V:=enV (.heap b e.strs.length) (.heap c e.wait.length) e
@[push_cast] theorem eV_eq (b c:Nat) (e:En):eV b c e=.agg [.bool e.ans,.rows none (e.out.map fV),.int .i64 e.outM,.rows none (e.inn.map fV),.int .i64 e.innM,.str e.came,.heap b e.strs.length,.int .i64 e.send,.int .i64 e.room,.heap c e.wait.length,.bool e.bad]:=rfl
def zE:List V:=[.bool false,.nils,.int .i64 0,.nils,.int .i64 0,.str [],.nils,.int .i64 0,.int .i64 0,.nils,.bool false]
@[push_cast] theorem zE_eq:zE=[.bool false,.nils,.int .i64 0,.nils,.int .i64 0,.str [],.nils,.int .i64 0,.int .i64 0,.nils,.bool false]:=rfl
structure EnNew (S:List Blk) (e:En) (b c:Nat) (S':List Blk):Prop where
 at_:EnAt S' b c e
 hb:S.length≤b
 hc:S.length≤c
 upd:Upd [] S S'
structure EnTo (S:List Blk) (b c:Nat) (e:En) (b' c':Nat) (S':List Blk):Prop where
 at_:EnAt S' b' c' e
 hb:b'=b∨S.length≤b'
 hc:c'=c∨S.length≤c'
 upd:Upd [b,c] S S'
theorem EnTo.trans {S S1 S2:List Blk} {b c b1 c1 b2 c2:Nat} {e1 e2:En} (h:EnTo S b c e1 b1 c1 S1) (k:EnTo S1 b1 c1 e2 b2 c2 S2):EnTo S b c e2 b2 c2 S2:=by
 have hl:=h.upd.1
 have hb:=h.hb; have hc:=h.hc
 refine ⟨k.at_,?_,?_,h.upd.then_ k.upd fun j hj hm=>?_⟩
 ·rcases k.hb with e | e <;> omega
 ·rcases k.hc with e | e <;> omega
 ·simp only [List.mem_cons,List.not_mem_nil,or_false] at hm ⊢
  omega
theorem EnNew.to {S S1 S2:List Blk} {b1 c1 b2 c2:Nat} {e1 e2:En} (h:EnNew S e1 b1 c1 S1) (k:EnTo S1 b1 c1 e2 b2 c2 S2):EnNew S e2 b2 c2 S2:=by
 have hl:=h.upd.1
 have hb:=h.hb; have hc:=h.hc
 refine ⟨k.at_,?_,?_,h.upd.then_ k.upd fun j hj hm=>?_⟩
 ·rcases k.hb with e | e <;> omega
 ·rcases k.hc with e | e <;> omega
 ·simp only [List.mem_cons,List.not_mem_nil,or_false] at hm
  omega
theorem EnNew.app {S:List Blk} {X:List Blk} {e:En} {b c:Nat} {S':List Blk} (h:EnNew (S++X) e b c S'):EnNew S e b c S':=by
 have hb:=h.hb; have hc:=h.hc
 rw [List.length_append] at hb hc
 refine ⟨h.at_,by omega,by omega,?_⟩
 exact ((Upd.refl [] S).app X).then_ h.upd (fun j hj hm=>hm)
theorem EnTo.app {S:List Blk} {X:List Blk} {e:En} {b c b' c':Nat} {S':List Blk} (h:EnTo (S++X) b c e b' c' S'):EnTo S b c e b' c' S':=by
 have hb:=h.hb; have hc:=h.hc
 rw [List.length_append] at hb hc
 refine ⟨h.at_,by omega,by omega,?_⟩
 exact ((Upd.refl [b,c] S).app X).then_ h.upd (fun j hj hm=>hm)
theorem EnAt.app {S:List Blk} {b c:Nat} {e:En} (h:EnAt S b c e) (X:List Blk):EnAt (S++X) b c e:=by
 have h1:=lt_of_some h.1; have h2:=lt_of_some h.2
 exact ⟨by rw [List.getElem?_append_left h1]; exact h.1,by rw [List.getElem?_append_left h2]; exact h.2⟩
theorem EnAt.hv {S:List Blk} {b c:Nat} {e:En} (h:EnAt S b c e):HSa 12 (strsC e.strs) e.strs.length S (.heap b e.strs.length):=.inl ⟨b,rfl,h.1⟩
theorem EnAt.hw {S:List Blk} {b c:Nat} {e:En} (h:EnAt S b c e):HSa 4 (frmsC e.wait) e.wait.length S (.heap c e.wait.length):=.inl ⟨c,rfl,h.2⟩
def RNew (S:List Blk) (e:En) (v:V) (S':List Blk):Prop:=∃b' c',v=eV b' c' e∧EnNew S e b' c' S'
def RTo (S:List Blk) (b c:Nat) (e:En) (v:V) (S':List Blk):Prop:=∃b' c',v=eV b' c' e∧EnTo S b c e b' c' S'
theorem RTo.mk {S:List Blk} {b c:Nat} {e:En} {v:V} {S':List Blk} (b' c':Nat) (hv:v=eV b' c' e) (h1:S'[b']?=some (.cells 12 (strsC e.strs))) (h2:S'[c']?=some (.cells 4 (frmsC e.wait)))
  (hb:b'=b∨S.length≤b') (hc:c'=c∨S.length≤c') (hu:Upd [b,c] S S'):RTo S b c e v S':=⟨b',c',hv,⟨h1,h2⟩,hb,hc,hu⟩
theorem RTo.stay {S X:List Blk} {b c:Nat} {e:En} (h:EnAt S b c e):RTo S b c e (eV b c e) (S++X):=⟨b,c,rfl,h.app _,.inl rfl,.inl rfl,(Upd.refl _ _).app _⟩
theorem sEndOk_at {e:En} (he:EnB e) {S:List Blk} {b c:Nat} (h:EnAt S b c e):VCall Tryz.prog 34 [eV b c e] S fun r S'=>r=.bool (endOk e)∧S'=S:=sEndOk_ok e he _ _ S h.hv h.hw
theorem fds_len3 (l:List Fd):(l.map fV).all (lenIs 3)=true:=by rw [List.all_eq_true]; intro v hv; obtain ⟨f,_,rfl⟩:=List.mem_map.1 hv; rfl
theorem l21Fields_ok (l:List Fd) (hl:FdsB l) (S:List Blk):VCall Tryz.prog 76 [.rows none (l.map fV)] S fun r S'=>r=.rows none (l.map fV)∧S'=S:=by
 obtain ⟨h1,h2⟩:=hl
 refine VCall.en hD Tryz.func76 Tryz.ntmps76 Tryz.results76 ?_
 simp -implicitDefEqProofs (disch:=omega) only [push_cast,simprocAttr,fds_len3,↓gd]
 exact ⟨by omega,finE (cl_fds _ _) rfl⟩
theorem tclone_ok (l:List Fd) (max:Int) (hl:FdsB l) (S:List Blk):VCall Tryz.prog 89 [tV l max] S fun r S'=>r=tV l max∧S'=S:=by
 refine VCall.ex hD (fun _=>false) (fun id=>if id=1 then [2,2,6,6,6,6,7] else []) Tryz.func89 Tryz.ntmps89 Tryz.results89 ?_
 simp -implicitDefEqProofs (disch:=omega) only [push_cast,simprocAttr,↓gd]
 refine (cloneFields_ok l (by have:=hl.1; omega) _).to ?_
 simp -implicitDefEqProofs (disch:=omega) only [push_cast,simprocAttr,↓gd]
 exact finE (cl_tab _ _ _) rfl
theorem take_st {l:List St} {i:Nat} (h:i < l.length):l.take (i+1)=l.take i++[l.getD i st0]:=by
 rw [List.take_succ_eq_append_getElem h,List.getD,List.getElem?_eq_getElem h]; rfl
theorem take_fr {l:List Fr} {i:Nat} (h:i < l.length):l.take (i+1)=l.take i++[l.getD i fr0]:=by
 rw [List.take_succ_eq_append_getElem h,List.getD,List.getElem?_eq_getElem h]; rfl
theorem frmsC_erase (l:List Fr):(frmsC l).map eraseC=frmsC l:=by
 induction l with
 | nil=>rfl
 | cons f l ih=>simp only [frmsC,List.flatMap_cons,List.map_append] at ih ⊢; rw [ih]; rfl
theorem frmsC_all (l:List Fr):(frmsC l).take (l.length * 4)=frmsC l:=by rw [←frmsC_len,List.take_length]
theorem strsC_one (s:St):strsC [s]=strC s:=List.append_nil _
theorem hDe:TypesOk Tryz.prog (wrOf D [108,82]):=wrOk hD _
theorem l21Copy_ok {e:En} (he:EnB e) {S:List Blk} {b c:Nat} (h:EnAt S b c e):VCall Tryz.prog 35 [eV b c e] S fun r S'=>RNew S e r S':=by
 obtain ⟨hb,hc⟩:=h
 have hbl:=lt_of_some hb
 have hcl:=lt_of_some hc
 have hlen:=strsC_len e.strs
 refine VCall.en hDe Tryz.func35 Tryz.ntmps35 Tryz.results35 ?_
 simp -implicitDefEqProofs (disch:=omega) only [push_cast,simprocAttr,↓gd]
 refine (l21Fields_ok e.out he.out _).to ?_
 simp -implicitDefEqProofs (disch:=omega) only [push_cast,simprocAttr,↓gd]
 refine (l21Fields_ok e.inn he.inn _).to ?_
 simp -implicitDefEqProofs (disch:=omega) only [push_cast,simprocAttr,↓gd]
 refine wpV_loop (fun m t S1=>∃i L:Nat,m=e.strs.length - i∧i≤e.strs.length∧t 1=.ptr S.length 0∧t 2=.ptr (S.length+1) 0∧t 3=.heap L i∧t 4=.int .i64 i∧S.length+2≤L ∧
  S1[L]?=some (.cells 12 (strsC (e.strs.take i)))∧Upd [] S S1∧S1[S.length]?=some (.cells 0 (enC (.heap b e.strs.length) (.heap c e.wait.length) e)) ∧
  S1[S.length+1]?=some (.cells 0 [V.bool false,V.nils,V.int IntKind.i64 0,V.nils,V.int IntKind.i64 0,V.str [],V.nils,V.int IntKind.i64 0,V.int IntKind.i64 0,V.nils,V.bool false])) e.strs.length
  ⟨0,S.length+2,by omega,by omega,rfl,rfl,rfl,rfl,by omega,by simp [strsC],(Upd.refl _ _).app _,by simp [enC],by simp⟩ ?_
 rintro m t S1 ⟨i,L,rfl,hi,h1,h2,h3,h4,hL,kL,hu,k0,k1⟩
 have l0:=lt_of_some k0
 have l1:=lt_of_some k1
 have lL:=lt_of_some kL
 have kb:=hu.get hb (by simp)
 have lb:=lt_of_some kb
 refine wpV_of0 hDe ?_
 simp -implicitDefEqProofs (disch:=omega) only [push_cast,simprocAttr,h1,h4,k0,↓gd]
 refine ⟨fun h=>?_,fun h=>?_⟩
 ·have hil:i < e.strs.length:=by omega
  have hat:=strsC_at hil
  have hsb:=he.sts _ (getD_memS hil)
  have hlL:=strsC_len (e.strs.take i)
  have hti:(e.strs.take i).length=i:=by simp; omega
  have hel:=he.len
  simp -implicitDefEqProofs (disch:=omega) only [push_cast,simprocAttr,h1,h2,h3,h4,k0,k1,kL,kb,hat,↓gd]
  repeat refine And.intro (by omega) ?_
  refine ((l21Fields_ok _ hsb.head _).as rfl).to ?_
  simp -implicitDefEqProofs (disch:=omega) only [push_cast,simprocAttr,h3,h4,k0,k1,kL,↓gd]
  refine ((l21Fields_ok _ hsb.got _).as rfl).to ?_
  simp -implicitDefEqProofs (disch:=omega) only [push_cast,simprocAttr,h3,h4,k0,k1,kL,↓gd]
  repeat refine And.intro (by omega) ?_
  refine ⟨e.strs.length - (i+1),by omega,i+1,S1.length+2,rfl,by omega,h1,h2,rfl,rfl,by omega,?_,(hu.set _ (.inl (by omega))).app _⟩
  ·rw [s1_get,take_st hil,strsC_app,strsC_one]
   rfl
 ·have:i=e.strs.length:=by omega
  subst this
  have kc:=hu.get hc (by simp)
  have lc:=lt_of_some kc
  have hlw:=frmsC_len e.wait
  have hwn:=he.wait
  simp -implicitDefEqProofs (disch:=omega) only [push_cast,simprocAttr,h1,h2,h3,k0,k1,kL,kc,↓gd]
  rw [frmsC_all,frmsC_erase]
  repeat refine And.intro (by omega) ?_
  refine ⟨_,_,Wk.refl _ _ _,L,S1.length+1,rfl,⟨⟨?_,?_⟩,by omega,by omega,?_⟩⟩
  ·rw [List.take_length] at kL
   simp -implicitDefEqProofs (disch:=omega) only [push_cast,simprocAttr,kL,↓gd]
  ·simp -implicitDefEqProofs (disch:=omega) only [push_cast,simprocAttr,↓gd]
  ·exact ((hu.set _ (.inl (by omega))).set _ (.inl (by omega))).app _
end
section
open Go
theorem nh_strs {S0 S:List Blk} {c m:Nat} {e:En} (h:e.strs=[]):Wk S0 (enV .nils (.heap c m) e) S (enV (.heap S.length e.strs.length) (.heap c m) e) (S++[.cells 12 []]):=by
 have:NH S.length (enV .nils (.heap c m) e) (enV (.heap S.length e.strs.length) (.heap c m) e):=by
  rw [h]
  exact NH.aggAt (i:=6) rfl
 exact Wk.nh 12 this
theorem nh_wait {S0 S:List Blk} {v:V} {e:En} (h:e.wait=[]):Wk S0 (enV v .nils e) S (enV v (.heap S.length e.wait.length) e) (S++[.cells 4 []]):=by
 have:NH S.length (enV v .nils e) (enV v (.heap S.length e.wait.length) e):=by
  rw [h]
  exact NH.aggAt (i:=9) rfl
 exact Wk.nh 4 this
theorem nh_both {S0 S:List Blk} {e:En} (h:e.strs=[]) (k:e.wait=[]):Wk S0 (enV .nils .nils e) S (eV (S.length+1) S.length e) (S++[.cells 4 [],.cells 12 []]):=by
 have h1:=nh_wait (S0:=S0) (S:=S) (v:=.nils) (e:=e) k
 have h2:=nh_strs (S0:=S0) (S:=S++[.cells 4 []]) (c:=S.length) (m:=e.wait.length) h
 rw [List.length_append,List.append_assoc] at h2
 exact h1.trans h2
theorem new_both {S:List Blk} {e:En} (h:e.strs=[]) (k:e.wait=[]):EnNew S e (S.length+1) S.length (S++[.cells 4 [],.cells 12 []]):=by
 refine ⟨⟨?_,?_⟩,by omega,by omega,(Upd.refl _ _).app _⟩
 ·rw [h,app_get]; rfl
 ·rw [k,app_get0]; rfl
theorem fin_new {S S1:List Blk} {r:V} {e:En} (h:e.strs=[]) (k:e.wait=[]) (hu:Upd [] S S1) (hr:eraseT r=eraseT (enV .nils .nils e)) (hn:r=enV .nils .nils e):∃r' S2,Wk S r S1 r' S2∧RNew S e r' S2:=by
 subst hn
 refine ⟨_,_,nh_both h k,_,_,rfl,?_⟩
 have:=new_both (S:=S1) h k
 have hl:=hu.1
 exact ⟨this.at_,by omega,by omega,hu.trans this.upd⟩
theorem eclone_ok {e:En} (he:EnB e) {S:List Blk} {b c:Nat} (h:EnAt S b c e):VCall Tryz.prog 42 [eV b c e] S fun r S'=>RNew S e r S':=by
 obtain ⟨hb,hc⟩:=h
 have hbl:=lt_of_some hb
 have hcl:=lt_of_some hc
 have hlen:=strsC_len e.strs
 have hlw:=frmsC_len e.wait
 have hwn:=he.wait
 have hel:=he.len
 refine VCall.ex hDe (fun _=>false) (fun id=>if id=1 then [2,2,5,5,5,8,8,8,10,10,12,12,14,14,15] else if id=6 then [2,2,5,5,5,7,7,9,9,10] else []) Tryz.func42 Tryz.ntmps42 Tryz.results42 ?_
 simp -implicitDefEqProofs (disch:=omega) only [push_cast,simprocAttr,↓gd]
 refine ((tclone_ok e.out e.outM he.out _).as rfl).to ?_
 simp -implicitDefEqProofs (disch:=omega) only [push_cast,simprocAttr,↓gd]
 refine ((tclone_ok e.inn e.innM he.inn _).as rfl).to ?_
 simp -implicitDefEqProofs (disch:=omega) only [push_cast,simprocAttr,hc,↓gd]
 repeat refine And.intro (by omega) ?_
 rw [frmsC_all,frmsC_erase]
 refine wpV_loop (fun m t S1=>∃i L:Nat,m=e.strs.length - i∧i≤e.strs.length∧t 1=.ptr S.length 0∧t 2=.ptr (S.length+1) 0∧t 19=.heap b e.strs.length∧t 20=.int .i64 e.strs.length∧t 21=.int .i64 i∧S.length+3≤L ∧
  (i=0∧t 3=.nils∨t 3=.heap L i∧S1[L]?=some (.cells 12 (strsC (e.strs.take i))))∧Upd [] S S1∧S1[S.length]?=some (.cells 0 (enC (.heap b e.strs.length) (.heap (S.length+2) e.wait.length) e)) ∧
  S1[S.length+1]?=some (.cells 0 [V.bool false,V.nils,V.int IntKind.i64 0,V.nils,V.int IntKind.i64 0,V.str [],V.nils,V.int IntKind.i64 0,V.int IntKind.i64 0,V.nils,V.bool false]) ∧
  S1[S.length+2]?=some (.cells 4 (frmsC e.wait))) e.strs.length
  ⟨0,S.length+3,by omega,by omega,rfl,rfl,rfl,rfl,rfl,by omega,.inl ⟨rfl,rfl⟩,(Upd.refl _ _).app _,by simp [enC],by simp,by simp⟩ ?_
 rintro m t S1 ⟨i,L,rfl,hi,h1,h2,h19,h20,h21,hL,h3,hu,k0,k1,k2⟩
 have l0:=lt_of_some k0
 have l1:=lt_of_some k1
 have l2:=lt_of_some k2
 have kb:=hu.get hb (by simp)
 have lb:=lt_of_some kb
 refine wpV_of hDe (fun _=>false) (fun id=>if id=6 then [2,2,5,5,5,7,7,9,9,10] else []) (by kernel_rfl) ?_
 simp -implicitDefEqProofs (disch:=omega) only [push_cast,simprocAttr,h1,h19,h20,h21,k0,↓gd]
 refine ⟨fun h=>?_,fun h=>?_⟩
 ·have hil:i < e.strs.length:=by omega
  have hat:=strsC_at hil
  have hsb:=he.sts _ (getD_memS hil)
  have hlL:=strsC_len (e.strs.take i)
  have hti:(e.strs.take i).length=i:=by simp; omega
  simp -implicitDefEqProofs (disch:=omega) only [push_cast,simprocAttr,h1,h2,h19,h21,k0,k1,k2,kb,hat,↓gd]
  repeat refine And.intro (by omega) ?_
  refine ((cloneFields_ok _ (by have:=hsb.head.1; omega) _).as rfl).to ?_
  simp -implicitDefEqProofs (disch:=omega) only [push_cast,simprocAttr,k0,k1,k2,↓gd]
  refine ((cloneFields_ok _ (by have:=hsb.got.1; omega) _).as rfl).to ?_
  rcases h3 with ⟨rfl,h3⟩ | ⟨h3,kL⟩
  ·simp -implicitDefEqProofs (disch:=omega) only [push_cast,simprocAttr,h3,h21,k0,k1,k2,↓gd]
   refine ⟨e.strs.length - 1,by omega,1,S1.length+2,rfl,by omega,h1,h2,h19,h20,rfl,by omega,⟨rfl,?_⟩,hu.app _⟩
   ·rw [app_get,take_st hil,strsC_app,strsC_one]
    rfl
  ·have lL:=lt_of_some kL
   simp -implicitDefEqProofs (disch:=omega) only [push_cast,simprocAttr,h3,h21,k0,k1,k2,kL,↓gd]
   repeat refine And.intro (by omega) ?_
   refine ⟨e.strs.length - (i+1),by omega,i+1,S1.length+2,rfl,by omega,h1,h2,h19,h20,rfl,by omega,⟨rfl,?_⟩,(hu.set _ (.inl (by omega))).app _⟩
   ·rw [s1_get,take_st hil,strsC_app,strsC_one]
    rfl
 ·have:i=e.strs.length:=by omega
  subst this
  have kc:=hu.get hc (by simp)
  have lc:=lt_of_some kc
  rcases h3 with ⟨hz,h3⟩ | ⟨h3,kL⟩
  ·have hz':e.strs=[]:=List.length_eq_zero_iff.1 hz
   simp -implicitDefEqProofs (disch:=omega) only [push_cast,simprocAttr,h1,h2,h3,k0,k1,k2,↓gd]
   refine ⟨_,_,nh_strs (e:=e) hz',_,S.length+2,rfl,⟨⟨?_,?_⟩,by simp; omega,by omega,((hu.set _ (.inl (by omega))).set _ (.inl (by omega))).app _⟩⟩
   ·rw [hz',List.length_set,List.length_set,s2_get0]; rfl
   ·simp -implicitDefEqProofs (disch:=omega) only [push_cast,simprocAttr,k2,↓gd]
  ·simp -implicitDefEqProofs (disch:=omega) only [push_cast,simprocAttr,h1,h2,h3,k0,k1,k2,kL,↓gd]
   refine ⟨_,_,Wk.refl _ _ _,L,S.length+2,rfl,⟨⟨?_,?_⟩,by omega,by omega,(hu.set _ (.inl (by omega))).set _ (.inl (by omega))⟩⟩
   ·rw [List.take_length] at kL
    simp -implicitDefEqProofs (disch:=omega) only [push_cast,simprocAttr,kL,↓gd]
   ·simp -implicitDefEqProofs (disch:=omega) only [push_cast,simprocAttr,k2,↓gd]
end
section
open Go
theorem strsC_put:∀{l:List St} {i c:Nat} {v:V} {s:St},i < l.length→c < 12→strC s=(strC (l.getD i st0)).set c v→splice (strsC l) (i * 12+c) [v]=strsC (l.set i s)
 | [],i,c,v,s,h,_,_=>by simp at h
 | a :: l,0,c,v,s,h,hc,hs=>by
  have hs':strC s=(strC a).set c v:=hs
  have e1:strsC (a :: l)=strC a++strsC l:=rfl
  have e2:strsC (s :: l)=strC s++strsC l:=rfl
  rw [splice_one,Nat.zero_mul,Nat.zero_add,List.set_cons_zero,e1,e2,List.set_append_left _ _ (by rw [strC_len]; exact hc),hs']
 | a :: l,i+1,c,v,s,h,hc,hs=>by
  have e1:strsC (a :: l)=strC a++strsC l:=rfl
  have e2:strsC (a :: l.set i s)=strC a++strsC (l.set i s):=rfl
  have ih:=strsC_put (l:=l) (i:=i) (c:=c) (v:=v) (s:=s) (by simpa using h) hc hs
  rw [splice_one] at ih ⊢
  rw [List.set_cons_succ,e1,e2,List.set_append_right _ _ (by rw [strC_len]; omega),strC_len,show (i+1) * 12+c - 12=i * 12+c by omega,ih]
theorem atM_at {l:List St} {id:Int} {i:Nat} (hi:i < l.length) (hno:∀j,j < i→(l.getD j st0).id≠id) (h:(l.getD i st0).id=id):atM l id=some i:=by
 unfold atM
 rw [List.findIdx?_eq_some_iff_getElem]
 refine ⟨hi,by rw [←getD_lt st0 hi]; simpa using h,fun j hj=>?_⟩
 have:=hno j hj
 rw [getD_lt st0 (by omega)] at this
 simpa using this
theorem atM_no {l:List St} {id:Int} (hno:∀j,j < l.length→(l.getD j st0).id≠id):atM l id=none:=by
 unfold atM
 rw [List.findIdx?_eq_none_iff]
 intro s hs
 obtain ⟨j,hj,rfl⟩:=List.getElem_of_mem hs
 have:=hno j hj
 rw [getD_lt st0 hj] at this
 simpa using this
def atI (l:List St) (id:Int):Int:=match atM l id with
 | some k=>k
 | none=>-1
theorem l21At_ok {e:En} (he:EnB e) {S:List Blk} {b c:Nat} (h:EnAt S b c e) (id:Int):VCall Tryz.prog 119 [eV b c e,.int .i64 id] S fun r S'=>r=.int .i64 (atI e.strs id)∧S'=S:=by
 obtain ⟨hb,hc⟩:=h
 have hbl:=lt_of_some hb
 have hel:=he.len
 refine VCall.en hDe Tryz.func119 Tryz.ntmps119 Tryz.results119 ?_
 simp -implicitDefEqProofs (disch:=omega) only [push_cast,simprocAttr,↓gd]
 refine wpV_loop (fun m t S1=>∃i:Nat,m=e.strs.length - i∧i≤e.strs.length∧(∀j,j < i→(e.strs.getD j st0).id≠id)∧t 1=.int .i64 id∧t 2=.ptr S.length 0∧t 5=.int .i64 i∧S1=S++[.cells 0 (enC (.heap b e.strs.length) (.heap c e.wait.length) e)]) e.strs.length
  ⟨0,by omega,by omega,by omega,rfl,rfl,rfl,rfl⟩ ?_
 rintro m t S1 ⟨i,rfl,hi,hno,h1,h2,h5,rfl⟩
 refine wpV_of0 hDe ?_
 simp -implicitDefEqProofs (disch:=omega) only [push_cast,simprocAttr,h1,h2,h5,↓gd]
 refine ⟨fun h=>?_,fun h=>?_⟩
 ·have hil:i < e.strs.length:=by omega
  have hid:=strsC_id hil
  have hlen:=strsC_len e.strs
  simp -implicitDefEqProofs (disch:=omega) only [push_cast,simprocAttr,h1,h2,h5,hb,hid,↓gd]
  by_cases hq:(e.strs.getD i st0).id=id
  ·simp -implicitDefEqProofs (disch:=omega) only [push_cast,simprocAttr,h1,h2,h5,hq,↓gd]
   exact ⟨by omega,by omega,fin1 (.int _ _) (by rw [atI,atM_at hil hno hq])⟩
  ·simp -implicitDefEqProofs (disch:=omega) only [push_cast,simprocAttr,h1,h2,h5,hq,↓gd]
   refine ⟨by omega,by omega,e.strs.length - (i+1),by omega,i+1,rfl,by omega,fun j hj=>?_,by simp⟩
   by_cases e1:j=i
   ·rw [e1]; exact hq
   ·exact hno j (by omega)
 ·exact fin1 (.int _ _) (by rw [atI,atM_no (fun j hj=>hno j (by omega))])
end
section
open Go
theorem frameOk_more {f:Fr} (h:frameOk f=true) (hk:f.kind=8):∃x:UInt8,f.body=[x]∧1≤x.toNat∧x.toNat≤31∧f.last=false:=by
 obtain ⟨k,l,s,bd⟩:=f
 simp only at hk
 subst hk
 simp only [frameOk] at h
 rw [if_neg (by decide),if_neg (by decide),if_pos trivial] at h
 simp only [Bool.and_eq_true,decide_eq_true_eq,Bool.not_eq_true'] at h
 obtain ⟨⟨⟨⟨h1,h2⟩,h3⟩,h4⟩,h5⟩:=h
 match bd,h3 with
 | [x],_=>exact ⟨x,rfl,h4,h5,h2⟩
theorem EnW.flows {N:Nat} {e:En} (h:EnW N e):0≤e.send∧e.send≤31∧0≤e.room∧e.room≤31:=flowOk_iff.1 h.flow
theorem stOk_flow {s:St} (h:stOk s=true):0≤s.send∧s.send≤31∧0≤s.room∧s.room≤31:=flowOk_iff.1 (stOk_iff.1 h).2.2.2.2.2.2.2
theorem min31 (a:Int):(if (31:Int) < a then (31:Int) else a)=min a 31:=by omega
end
section
open Go
theorem table_len {l:List Fd} {m:Int} (h:tableOk l m=true):l.length≤100:=by
 have:=(tableOk_parts h).1
 omega
end
section
open Go
theorem cells_ne {S:List Blk} {i j m n:Nat} {cs ds:List V} (h:S[i]?=some (.cells m cs)) (k:S[j]?=some (.cells n ds)) (hs:m≠n):i≠j:=by
 rintro rfl
 rw [h] at k
 cases k
 exact hs rfl
theorem EnTo.set {S:List Blk} {b c:Nat} {e:En} {b' c':Nat} {S':List Blk} (h:EnTo S b c e b' c' S') {j:Nat} (B:Blk) (hj:S.length≤j) (h1:b'≠j) (h2:c'≠j):EnTo S b c e b' c' (S'.set j B) :=
 ⟨⟨by rw [get_set_ne (Ne.symm h1)]; exact h.at_.1,by rw [get_set_ne (Ne.symm h2)]; exact h.at_.2⟩,h.hb,h.hc,h.upd.set B (.inl hj)⟩
theorem EnTo.appR {S:List Blk} {b c:Nat} {e:En} {b' c':Nat} {S':List Blk} (h:EnTo S b c e b' c' S') (X:List Blk):EnTo S b c e b' c' (S'++X):=⟨h.at_.app X,h.hb,h.hc,h.upd.app X⟩
theorem EnTo.stay {S X:List Blk} {b c:Nat} {e:En} (h:EnAt S b c e):EnTo S b c e b c (S++X):=⟨h.app _,.inl rfl,.inl rfl,(Upd.refl _ _).app _⟩
end
section
open Go
theorem decM_lenk:∀(k n:Nat),n < 10 ^ (k+1)→(decM n).length≤k+1
 | 0,n,h=>by rw [decM_small (by simpa using h)]; simp
 | k+1,n,h=>by
  by_cases hs:n < 10
  ·rw [decM_small hs]; simp
  ·rw [decM_big hs,List.length_append]
   have:=decM_lenk k (n / 10) (by rw [Nat.pow_succ] at h; omega)
   simp
   omega
theorem decM_len (n:Nat) (hn:n≤1000000000):(decM n).length≤10:=decM_lenk 9 n (by omega)
theorem by8_add (m:Nat):UInt8.ofNat (48+(m:Int)).toNat=by8 (48+m):=by
 rw [show (48+(m:Int)).toNat=48+m by omega]
 rfl
theorem l6Dec_ok (n:Nat) (hn:n≤1000000000) (S:List Blk):VCall Tryz.prog 132 [.int .i64 n] S fun r S'=>r=.str (decM n)∧S'=S:=by
 induction n using Nat.strongRecOn generalizing S with
 | ind n ih =>
 have h0:¬(n:Int) < -9223372036854775807:=by omega
 have h1:¬(n:Int) < 0:=by omega
 by_cases hs:n < 10
 ·have h2:(n:Int) < 10:=by omega
  refine VCall.ex hD (fun f=>if f=some 132 then true else false) (fun id=>if id=7 then [11,11,11,7,7,7,7,11,11,11,11] else []) Tryz.func132 Tryz.ntmps132 Tryz.results132 ?_
  simp -implicitDefEqProofs (disch:=omega) only [push_cast,simprocAttr,h0,h1,h2,↓gd]
  refine fin1 (.str _) ?_
  rw [decM_small hs]
  exact congrArg (fun x=>V.str [x]) (by8_add n)
 ·have h2:¬(n:Int) < 10:=by omega
  have e1:(n:Int).tdiv 10=((n / 10:Nat):Int):=by rw [Int.tdiv_eq_ediv_of_nonneg (by omega)]; omega
  have e2:(n:Int).tmod 10=((n % 10:Nat):Int):=by rw [Int.tmod_eq_emod_of_nonneg (by omega)]; omega
  refine VCall.ex hD (fun f=>if f=some 132 then true else false) (fun id=>if id=7 then [11,11,11,7,7,7,7,11,11,11,11] else []) Tryz.func132 Tryz.ntmps132 Tryz.results132 ?_
  simp -implicitDefEqProofs (disch:=omega) only [push_cast,simprocAttr,h0,h1,h2,e1,e2,↓gd]
  refine ⟨_,fun S0=>ih (n / 10) (by omega) (by omega) S0,?_⟩
  have hdl:=decM_len (n / 10) (by omega)
  simp -implicitDefEqProofs (disch:=omega) only [push_cast,simprocAttr,h0,h1,h2,e1,e2,↓gd]
  refine ⟨by omega,fin1 (.str _) ?_⟩
  rw [decM_big hs,←by8_add]
  rfl
theorem stV_cl (n:Nat) (s:St):Cl n (stV s):=by
 refine .agg (fun v hv=>?_)
 simp only [strC,List.mem_cons,List.not_mem_nil,or_false] at hv
 rcases hv with rfl | rfl | rfl | rfl | rfl | rfl | rfl | rfl | rfl | rfl | rfl | rfl <;> first | exact .int _ _ | exact .str _ | exact .bool _ | exact cl_fds _ _
theorem l21New_ok (id:Int) (S:List Blk):VCall Tryz.prog 133 [.int .i64 id] S fun r S'=>r=stV (newSt id)∧S'=S:=by
 refine VCall.en hD Tryz.func133 Tryz.ntmps133 Tryz.results133 ?_
 simp -implicitDefEqProofs (disch:=omega) only [push_cast,simprocAttr,↓gd]
 exact finE (stV_cl _ (newSt id)) rfl
theorem getM_at {h:List Fd} {name:List UInt8} {i:Nat} (hi:i < h.length) (hno:∀j,j < i→(h.getD j fd0).name≠name) (he:(h.getD i fd0).name=name):getM h name=((h.getD i fd0).val,true):=by
 have:h.find? (fun f=>decide (f.name=name))=some (h.getD i fd0):=by
  rw [List.find?_eq_some_iff_getElem]
  have e:∀{j} (hj:j < h.length),h.getD j fd0=h[j]:=fun hj=>by rw [List.getD,List.getElem?_eq_getElem hj]; rfl
  refine ⟨by simpa using he,i,hi,(e hi).symm,fun j hj=>?_⟩
  have:=hno j hj
  rw [e (by omega)] at this
  simpa using this
 rw [getM,this]
theorem getM_no {h:List Fd} {name:List UInt8} (hno:∀j,j < h.length→(h.getD j fd0).name≠name):getM h name=([],false):=by
 have:h.find? (fun f=>decide (f.name=name))=none:=by
  rw [List.find?_eq_none]
  intro f hf
  obtain ⟨j,hj,rfl⟩:=List.getElem_of_mem hf
  have:=hno j hj
  rw [List.getD,List.getElem?_eq_getElem hj] at this
  simpa using this
 rw [getM,this]
theorem sHeadGet_ok (h:List Fd) (hk:headOk h=true) (name:List UInt8) (S:List Blk):VCall Tryz.prog 177 [.rows none (h.map fV),.str name] S fun r S'=>r=.tup [.str (getM h name).1,.bool (getM h name).2]∧S'=S:=by
 have hl:=headOk_b hk
 have hlen:=hl.1
 refine VCall.en hD Tryz.func177 Tryz.ntmps177 Tryz.results177 ?_
 simp -implicitDefEqProofs (disch:=omega) only [push_cast,simprocAttr,↓gd]
 refine ((sHeadOk_ok h hl _).as rfl).to ?_
 simp -implicitDefEqProofs (disch:=omega) only [push_cast,simprocAttr,hk,↓gd]
 refine wpV_loop (fun m t S'=>∃i:Nat,m=h.length - i∧i≤h.length∧(∀j,j < i→(h.getD j fd0).name≠name)∧t 0=.rows none (h.map fV)∧t 1=.str name∧t 6=.int .i64 i∧S'=S) h.length ⟨0,by omega,by omega,by omega,rfl,rfl,rfl,rfl⟩ ?_
 rintro m t S' ⟨i,rfl,hi,hno,h0,h1,h6,rfl⟩
 refine wpV_of0 hD ?_
 simp -implicitDefEqProofs (disch:=omega) only [push_cast,simprocAttr,h0,h1,h6,↓gd]
 refine ⟨fun q=>?_,fun q=>?_⟩
 ·have hil:i < h.length:=by omega
  have hgd:=getD_fV hil
  have hat:=getM_at (name:=name) hil hno
  generalize hf:h.getD i fd0=f at hgd hat
  by_cases hq:f.name=name
  ·have hm:=hat hq
   simp -implicitDefEqProofs (disch:=omega) only [push_cast,simprocAttr,h0,h1,h6,hgd,hq,↓gd]
   repeat refine And.intro (by omega) ?_
   exact fin0 (by rw [hm])
  ·simp -implicitDefEqProofs (disch:=omega) only [push_cast,simprocAttr,h0,h1,h6,hgd,hq,↓gd]
   repeat refine And.intro (by omega) ?_
   refine ⟨h.length - (i+1),by omega,i+1,rfl,by omega,fun j hj=>?_,by simp⟩
   by_cases e1:j=i
   ·rw [e1,hf]; exact hq
   ·exact hno j (by omega)
 ·exact fin0 (by rw [getM_no (fun j hj=>hno j (by omega))])
theorem upM_take {w:List UInt8} {i:Nat} (h:i < w.length):upM (w.take (i+1))=upM (w.take i)++[if 97≤(w.getD i 0).toNat∧(w.getD i 0).toNat < 122 then by8 ((w.getD i 0).toNat+1) else w.getD i 0]:=by
 rw [List.take_succ_eq_append_getElem h,upM,List.map_append,getD_lt 0 h]
 rfl
theorem upM_len (w:List UInt8):(upM w).length=w.length:=by simp [upM]
theorem l21Up_ok (w:List UInt8) (hw:w.length≤1100000) (S:List Blk):VCall Tryz.prog 199 [.str w] S fun r S'=>r=.str (upM w)∧S'=S:=by
 refine VCall.en hD Tryz.func199 Tryz.ntmps199 Tryz.results199 ?_
 simp -implicitDefEqProofs (disch:=omega) only [push_cast,simprocAttr,↓gd]
 refine wpV_loop (fun m t S'=>∃(i:Nat) (X:List Blk),m=w.length - i∧i≤w.length∧t 0=.str w∧t 3=.str (upM (w.take i))∧t 4=.int .i64 i∧S'=S++X) w.length ⟨0,[],by omega,by omega,rfl,rfl,rfl,by simp⟩ ?_
 rintro m t S' ⟨i,X,rfl,hi,h0,h3,h4,rfl⟩
 refine wpV_of0 hD ?_
 simp -implicitDefEqProofs (disch:=omega) only [push_cast,simprocAttr,h0,h3,h4,↓gd]
 refine ⟨fun q=>?_,fun q=>?_⟩
 ·have hil:i < w.length:=by omega
  have ht:=upM_take hil
  have hul:=upM_len (w.take i)
  have hti:(w.take i).length=i:=by simp; omega
  have hb:=UInt8.toNat_lt (w.getD i 0)
  generalize w.getD i 0=x at ht hb
  have hx:UInt8.ofNat x.toNat=x:=by simp
  have e:x.toNat < 122→UInt8.ofNat (IntKind.u8.wrap ((x.toNat:Int)+1)).toNat=by8 (x.toNat+1):=fun q=>by rw [show (x.toNat:Int)+1=((x.toNat+1:Nat):Int) by omega,by8_wrap]
  refine ⟨by omega,by omega,fun h1=>⟨fun h2=>?_,fun h2=>?_⟩,fun h1=>?_⟩
  ·rw [if_pos (by omega)] at ht
   rw [e (by omega)]
   exact ⟨by omega,w.length - (i+1),by omega,i+1,X++[.right 1],rfl,by omega,by rw [ht],by simp,rfl⟩
  ·rw [if_neg (by omega)] at ht
   rw [hx]
   exact ⟨by omega,w.length - (i+1),by omega,i+1,X++[.right 1],rfl,by omega,by rw [ht],by simp,rfl⟩
  ·rw [if_neg (by omega)] at ht
   rw [hx]
   exact ⟨by omega,w.length - (i+1),by omega,i+1,X++[.right 1],rfl,by omega,by rw [ht],by simp,rfl⟩
 ·have:i=w.length:=by omega
  subst this
  exact fin1 (.str _) (by rw [List.take_length])
theorem sEndAnswer_ok (path text:List UInt8) (ht:text.length < 100) (S:List Blk):VCall Tryz.prog 178 [.str path,.str text] S fun r S'=>r=.tup [.str (answerM path text).1,.str (answerM path text).2]∧S'=S:=by
 refine VCall.en hD Tryz.func178 Tryz.ntmps178 Tryz.results178 ?_
 by_cases h1:path=sEcho
 ·have h1':(path=[47,101,99,104,111])=True:=eq_true h1
  simp -implicitDefEqProofs (disch:=omega) only [push_cast,simprocAttr,h1',↓gd]
  exact fin0 (by rw [answerM,if_pos h1])
 ·have h1':¬path=[47,101,99,104,111]:=h1
  by_cases h2:path=sUp
  ·have h2':(path=[47,117,112])=True:=eq_true h2
   simp -implicitDefEqProofs (disch:=omega) only [push_cast,simprocAttr,h1',h2',↓gd]
   refine (l21Up_ok text (by omega) _).to ?_
   simp -implicitDefEqProofs (disch:=omega) only [push_cast,simprocAttr,↓gd]
   exact fin0 (by rw [answerM,if_neg h1,if_pos h2])
  ·have h2':¬path=[47,117,112]:=h2
   by_cases h3:path=sLen
   ·have h3':(path=[47,108,101,110])=True:=eq_true h3
    simp -implicitDefEqProofs (disch:=omega) only [push_cast,simprocAttr,h1',h2',h3',↓gd]
    refine (l6Dec_ok _ (by omega) _).to ?_
    simp -implicitDefEqProofs (disch:=omega) only [push_cast,simprocAttr,↓gd]
    exact fin0 (by rw [answerM,if_neg h1,if_neg h2,if_pos h3])
   ·have h3':¬path=[47,108,101,110]:=h3
    simp -implicitDefEqProofs (disch:=omega) only [push_cast,simprocAttr,h1',h2',h3',↓gd]
    refine fin0 ?_
    rw [answerM,if_neg h1,if_neg h2,if_neg h3]
theorem l21Ask_ok (s:St) (hg:headOk s.got=true) (ht:s.text.length < 100) (S:List Blk):VCall Tryz.prog 161 [stV s] S fun r S'=>r=stV (askM s)∧S'=S:=by
 refine VCall.en hD Tryz.func161 Tryz.ntmps161 Tryz.results161 ?_
 simp -implicitDefEqProofs (disch:=omega) only [push_cast,simprocAttr,↓gd]
 refine (sHeadGet_ok s.got hg _ _).to ?_
 simp -implicitDefEqProofs (disch:=omega) only [push_cast,simprocAttr,↓gd]
 refine (sEndAnswer_ok _ s.text ht _).to ?_
 simp -implicitDefEqProofs (disch:=omega) only [push_cast,simprocAttr,↓gd]
 exact finE (stV_cl _ (askM s)) rfl
theorem l21Done_ok {v w:V} (e:En) (s:St) (hg:headOk s.got=true) (ht:s.text.length < 100) (hv:V.one v=true) (hw:V.one w=true) (S:List Blk):VCall Tryz.prog 144 [enV v w e,stV s] S fun r S'=>r=stV (doneM e.ans s)∧S'=S:=by
 have hs0:=doneM e.ans s
 refine VCall.en hD Tryz.func144 Tryz.ntmps144 Tryz.results144 ?_
 by_cases h1:s.state=1
 ·rcases Bool.eq_false_or_eq_true e.ans with ha | ha
  ·simp -implicitDefEqProofs (disch:=omega) only [push_cast,simprocAttr,hv,hw,h1,ha,↓gd]
   refine ((l21Ask_ok { s with heard:=true } hg ht _).as (by simp [stV,strC,h1])).to ?_
   simp -implicitDefEqProofs (disch:=omega) only [push_cast,simprocAttr,↓gd]
   exact fin1 (stV_cl _ _) (by simp [doneM,h1,ha,stV,strC])
  ·simp -implicitDefEqProofs (disch:=omega) only [push_cast,simprocAttr,hv,hw,h1,ha,↓gd]
   exact fin1 (stV_cl _ { s with heard:=true,state:=2 }) (by simp [doneM,h1,ha,stV,strC])
 ·simp -implicitDefEqProofs (disch:=omega) only [push_cast,simprocAttr,hv,hw,h1,↓gd]
  exact fin1 (stV_cl _ { s with heard:=true }) (by simp [doneM,h1,stV,strC])
end
end Go.Proofs.YtldogccmhncnoaaGreatDoor
