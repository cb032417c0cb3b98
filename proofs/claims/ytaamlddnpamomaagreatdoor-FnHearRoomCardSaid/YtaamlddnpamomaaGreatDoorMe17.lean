/- A part of the proof: contracts of functions, or plain facts on which these lean. -/
import Derived.ProofKit
import Derived.Test.YtaamlddnpamomaaGreatDoorRows
import Derived.Test.YtaamlddnpamomaaGreatDoorMe14
import Derived.Test.YtaamlddnpamomaaGreatDoorMe16
namespace Go.Proofs.YtaamlddnpamomaaGreatDoor
open Go
set_option linter.unusedVariables false
set_option linter.unusedSimpArgs false
set_option maxRecDepth 100000
set_option maxHeartbeats 16000000

section
open Go
section
variable {S:List Blk} {b:Nat}
theorem stA (h:b < S.length) (l:List Blk) (B:Blk):(S++l).set b B=S.set b B++l:=List.set_append_left _ _ h
theorem stB (h:b < S.length) (B1:Blk) (l:List Blk) (B:Blk):(S.set b B1++l).set b B=S.set b B++l:=by
 rw [List.set_append_left _ _ (by simpa using h),List.set_set]
theorem stC (h:b < S.length) (B1:Blk) (l:List Blk):(S.set b B1++l)[b]?=some B1:=by
 rw [List.getElem?_append_left (by simpa using h),List.getElem?_set_self h]
@[push_cast] theorem stD (B1:Blk) (l:List Blk) (B:Blk):(S.set b B1++l).set S.length B=S.set b B1++l.set 0 B:=by
 rw [List.set_append_right _ _ (by simp)]; simp
@[push_cast] theorem stE (B1:Blk) (l:List Blk) (n:Nat) (B:Blk):(S.set b B1++l).set (S.length+n) B=S.set b B1++l.set n B:=by
 rw [List.set_append_right _ _ (by simp)]; simp
@[push_cast] theorem stF (B1:Blk) (l:List Blk):(S.set b B1++l)[S.length]?=l[0]?:=by
 rw [List.getElem?_append_right (by simp)]; simp
@[push_cast] theorem stG (B1:Blk) (l:List Blk) (n:Nat):(S.set b B1++l)[S.length+n]?=l[n]?:=by
 rw [List.getElem?_append_right (by simp)]; simp
@[push_cast] theorem stH (B1:Blk):(S.set b B1).length=S.length:=List.length_set ..
end
theorem rd_lt {S:List Blk} {b:Nat} {B:Blk} (h:S[b]?=some B):b < S.length:=by
 rcases Nat.lt_or_ge b S.length with g | g
 ·exact g
 ·rw [List.getElem?_eq_none g] at h; cases h
theorem rd_cl (bs:List UInt8) (P n:Nat):∀v ∈ [V.rows none (bs.map u8V),.int .i64 (P:Int)],Cl n v:=by
 intro v hv
 simp only [List.mem_cons,List.not_mem_nil,or_false] at hv
 rcases hv with rfl | rfl
 ·refine Cl.rows' (fun x hx=>?_)
  obtain ⟨y,_,rfl⟩:=List.mem_map.1 hx
  exact .int _ _
 ·exact .int _ _
theorem finS {S X:List Blk} {b P:Nat} {bs:List UInt8} {v:V} (hc:Cl S.length v):Wk S v (S.set b (Rd bs P)++X) v (S.set b (Rd bs P)):=Wk.set hc (rd_cl bs P _)
theorem cl_fV (n:Nat) (f:Fd):Cl n (fV f):=by
 refine .agg ?_
 simp only [List.mem_cons,List.not_mem_nil,or_false,forall_eq_or_imp,forall_eq]
 exact ⟨.str _,.str _,.bool _⟩
def names8:List (List UInt8):=[[58,112,97,116,104],[58,115,116,97,116,117,115],[107,105,110,100],[115,105,122,101],[116,101],[97],[98],[107,101,121]]
def vals9:List (List UInt8):=[[],[48],[49,50],[116,101,120,116],[116,114,97,105,108,101,114,115],[47,101,99,104,111],[120],[121,49],[97,98,99]]
def bad3:List (List UInt8):=[[],[65],[97,97,97,97,97,97,97,97,97,97,97,97,97,97,97,97,97]]
def FdS (f:Fd):Prop:=f.name.length≤100∧f.val.length≤100
theorem FdS.b {f:Fd} (h:FdS f):FdB f:=⟨by have:=h.1; omega,by have:=h.2; omega⟩
theorem l71Field_ok (bs:List UInt8) (b p:Nat) (hp:p≤10000000) (hbs:bs.length≤2000) (S:List Blk) (hS:S[b]?=some (Rd bs p)) :
  VCall Tryz.prog 143 [.ptr b 0] S fun r S'=>(∃f:Fd,FdS f∧r=fV f)∧∃p',p'≤p+200∧S'=S.set b (Rd bs p'):=by
 have hbl:=rd_lt hS
 have hSb:∀l,(S++l)[b]?=some (Rd bs p):=fun l=>by rw [List.getElem?_append_left hbl]; exact hS
 refine VCall.en hD Tryz.func143 Tryz.ntmps143 Tryz.results143 ?_
 simp -implicitDefEqProofs (disch:=omega) only [push_cast,simprocAttr,stA hbl,stB hbl,↓gd]
 refine ((of_ok bs b p names8 (by decide) (by omega) hbs _ (hSb _)).as rfl).mono ?_
 rintro r S1 ⟨⟨s1,hs1,rfl⟩,rfl⟩
 simp -implicitDefEqProofs (disch:=omega) only [push_cast,simprocAttr,stA hbl,stB hbl,↓gd]
 refine ((of_ok bs b (p+1) vals9 (by decide) (by omega) hbs _ (stC hbl _ _)).as rfl).mono ?_
 rintro r S1 ⟨⟨s2,hs2,rfl⟩,rfl⟩
 have hl1:s1.length≤100:=by revert s1; decide
 have hl2:s2.length≤100:=by revert s2; decide
 simp -implicitDefEqProofs (disch:=omega) only [push_cast,simprocAttr,stA hbl,stB hbl,↓gd]
 refine (pickI bs b (p+2) 8 _ (by simp) (by omega) (by omega) hbs _ (stC hbl _ _)).mono ?_
 rintro r S1 ⟨⟨q1,hq1,rfl⟩,rfl⟩
 simp -implicitDefEqProofs (disch:=omega) only [push_cast,simprocAttr,stA hbl,stB hbl,↓gd]
 refine (pickI bs b (p+3) 24 _ (by simp) (by omega) (by omega) hbs _ (stC hbl _ _)).mono ?_
 rintro r S1 ⟨⟨q2,hq2,rfl⟩,rfl⟩
 simp -implicitDefEqProofs (disch:=omega) only [push_cast,simprocAttr,stA hbl,stB hbl,↓gd]
 have hend:∀(f:Fd) (P:Nat) (X:List Blk),FdS f→P≤p+200→∃r S2,Wk S (fV f) (S.set b (Rd bs P)++X) r S2∧(∃f:Fd,FdS f∧r=fV f)∧∃p',p'≤p+200∧S2=S.set b (Rd bs p') :=
  fun f P X hf hP=>⟨_,_,finS (cl_fV _ f),⟨f,hf,rfl⟩,P,hP,rfl⟩
 refine ⟨fun g=>?_,fun g=>⟨fun g2=>?_,fun g2=>hend ⟨s1,s2,decide ((q1:Int)=0)⟩ _ _ ⟨hl1,hl2⟩ (by omega)⟩⟩
 ·refine ((of_ok bs b (p+4) bad3 (by decide) (by omega) hbs _ (stC hbl _ _)).as rfl).mono ?_
  rintro r S1 ⟨⟨s3,hs3,rfl⟩,rfl⟩
  have hl3:s3.length≤100:=by revert s3; decide
  simp -implicitDefEqProofs (disch:=omega) only [push_cast,simprocAttr,stA hbl,stB hbl,↓gd]
  exact hend ⟨s3,s2,decide ((q1:Int)=0)⟩ _ _ ⟨hl3,hl2⟩ (by omega)
 ·refine (l71Word_ok bs b (p+4) (by omega) hbs _ (stC hbl _ _)).mono ?_
  rintro r S1 ⟨⟨s3,hs3,rfl⟩,p2,hp2,rfl⟩
  simp -implicitDefEqProofs (disch:=omega) only [push_cast,simprocAttr,stA hbl,stB hbl,↓gd]
  exact hend ⟨s1,s3,decide ((q1:Int)=0)⟩ _ _ ⟨hl1,hs3⟩ (by omega)
section
variable {Z:List Blk} {c:Blk}
theorem z33 (h:3 < Z.length) (B:Blk):(Z.set 3 B)[3]?=some B:=List.getElem?_set_self h
theorem z30 (h:Z[0]?=some c) (B:Blk):(Z.set 3 B)[0]?=some c:=by rw [List.getElem?_set_ne (by decide)]; exact h
theorem z00 (h:3 < Z.length) (B:Blk):(Z.set 0 B)[0]?=some B:=List.getElem?_set_self (by omega)
theorem z300 (h:3 < Z.length) (B C:Blk):((Z.set 3 B).set 0 C)[0]?=some C:=List.getElem?_set_self (by simp; omega)
end
theorem l71Table_ok (bs:List UInt8) (b p:Nat) (hp:p≤1000000) (hbs:bs.length≤2000) (S:List Blk) (hS:S[b]?=some (Rd bs p)) :
  VCall Tryz.prog 113 [.ptr b 0] S fun r S'=>(∃(l:List Fd) (max:Int),l.length≤20∧(∀f ∈ l,FdS f)∧-1≤max∧max≤65∧r=tV l max)∧∃p',p'≤p+10000∧S'=S.set b (Rd bs p'):=by
 have hbl:=rd_lt hS
 have hSb:∀l,(S++l)[b]?=some (Rd bs p):=fun l=>by rw [List.getElem?_append_left hbl]; exact hS
 refine VCall.ex hD (fun _=>false) (fun id=>if id=12 then [9,9,3,5,5,7,7,8,9,11,11,12] else []) Tryz.func113 Tryz.ntmps113 Tryz.results113 ?_
 simp -implicitDefEqProofs (disch:=omega) only [push_cast,simprocAttr,stA hbl,stB hbl,↓gd]
 refine (pickI bs b p 5 _ (by simp) (by omega) (by omega) hbs _ (hSb _)).mono ?_
 rintro r S1 ⟨⟨q1,hq1,rfl⟩,rfl⟩
 obtain ⟨mx,hmx0,hmx1,hgd⟩:∃mx:Int,0≤mx∧mx≤64∧[V.int .i64 64,V.int .i64 64,V.int .i64 40,V.int .i64 20,V.int .i64 0].getD q1 .junk=.int .i64 mx:=by
  rcases (by omega:q1=0∨q1=1∨q1=2∨q1=3∨q1=4) with rfl | rfl | rfl | rfl | rfl
  ·exact ⟨64,by decide,by decide,rfl⟩
  ·exact ⟨64,by decide,by decide,rfl⟩
  ·exact ⟨40,by decide,by decide,rfl⟩
  ·exact ⟨20,by decide,by decide,rfl⟩
  ·exact ⟨0,by decide,by decide,rfl⟩
 simp -implicitDefEqProofs (disch:=omega) only [push_cast,simprocAttr,stA hbl,stB hbl,hgd,↓gd]
 refine ⟨by omega,by omega,?_⟩
 refine (pickI bs b (p+1) 7 _ (by simp) (by omega) (by omega) hbs _ (stC hbl _ _)).mono ?_
 rintro r S1 ⟨⟨q2,hq2,rfl⟩,rfl⟩
 simp -implicitDefEqProofs (disch:=omega) only [push_cast,simprocAttr,stA hbl,stB hbl,↓gd]
 refine wpV_loop (fun m t S'=>∃(l:List Fd) (P τ:Nat) (X:List Blk),m≤7∧l.length+m≤7∧(∀f ∈ l,FdS f)∧P+m * 300≤p+3000∧t 0=.ptr b 0∧t 2=.ptr S.length 0∧t 3=.ptr (S.length+3) 0∧t 4=.int .i64 m∧X[τ]?=some (.right 3)∧X[0]?=some (.cells 0 [.nils,.int .i64 0])∧X[3]?=some (.cells 0 [.rows (some (S.length+τ)) (l.map fV),.int .i64 mx])∧S'=S.set b (Rd bs P)++X) q2 ⟨[],p+2,1,_,by omega,by simp; omega,by simp,by omega,rfl,rfl,rfl,rfl,?_,?_,?_,rfl⟩ ?_
 ·rfl
 ·rfl
 ·rfl
 rintro m t S' ⟨l,P,τ,X,hm,hlm,hl,hP,h0,h2,h3,h4,hX,hX0,hX3,rfl⟩
 have hXl:3 < X.length:=rd_lt hX3
 have hX2:∀Y,(X++Y)[3]?=some (.cells 0 [.rows (some (S.length+τ)) (l.map fV),.int .i64 mx]):=fun Y=>by rw [List.getElem?_append_left hXl]; exact hX3
 have hX1:∀Y,(X++Y)[τ]?=some (.right 3):=fun Y=>by rw [List.getElem?_append_left (rd_lt hX)]; exact hX
 have ht3:τ≠3:=fun e=>by rw [e,hX3] at hX; cases hX
 have ht0:τ≠0:=fun e=>by rw [e,hX0] at hX; cases hX
 have hlb:FdsB l:=⟨by omega,fun f hf=>(hl f hf).b⟩
 refine wpV_of hD (fun _=>false) (fun id=>if id=12 then [9,9,3,5,5,7,7,8,9,11,11,12] else []) (by kernel_rfl) ?_
 by_cases h:0 < m
 ·have h':(m:Int) > 0:=by omega
  simp -implicitDefEqProofs (disch:=omega) only [push_cast,simprocAttr,stA hbl,stB hbl,h0,h2,h3,h4,h',↓gd]
  refine (l71Field_ok bs b P (by omega) hbs _ (stC hbl _ _)).mono ?_
  rintro r S1 ⟨⟨f,hf,rfl⟩,p2,hp2,rfl⟩
  simp -implicitDefEqProofs (disch:=omega) only [push_cast,simprocAttr,stA hbl,stB hbl,h0,h2,h3,h4,hX3,hX2,↓gd]
  refine ((sFieldOk_ok f hf.b _).as rfl).to ?_
  cases hok:fieldOk f
  ·simp -implicitDefEqProofs (disch:=omega) only [push_cast,simprocAttr,stA hbl,stB hbl,h0,h2,h3,h4,hX3,hX2,↓gd]
   exact ⟨m - 1,by omega,l,p2,τ,_,by omega,by omega,hl,by omega,by congr 1; omega,hX1 _,by rw [List.getElem?_append_left (by omega)]; exact hX0,hX2 _,rfl⟩
  ·simp -implicitDefEqProofs (disch:=omega) only [push_cast,simprocAttr,stA hbl,stB hbl,h0,h2,h3,h4,hX3,hX2,↓gd]
   refine ((l3Add_ok l mx f hlb hf.b (by omega) hmx0 _).as rfl).to ?_
   simp -implicitDefEqProofs (disch:=omega) only [push_cast,simprocAttr,stA hbl,stB hbl,h0,h2,h3,h4,hX3,hX2,↓gd]
   have hsub:=fitL_sub (⟨f.name,f.val,false⟩ :: l) mx
   have hlen:=hsub.2
   simp only [List.length_cons] at hlen
   refine ⟨m - 1,by omega,fitL (⟨f.name,f.val,false⟩ :: l) mx,p2,X.length+1,_,by omega,by omega,fun g hg=>?_,by omega,by congr 1; omega,?_,?_,?_,rfl⟩
   ·rcases List.mem_cons.1 (hsub.1 g hg) with rfl | g1
    ·exact hf
    ·exact hl g g1
   ·rw [List.getElem?_set_ne (by omega),List.getElem?_append_right (by omega),Nat.add_sub_cancel_left]; rfl
   ·rw [List.getElem?_set_ne (by omega),List.getElem?_append_left (by omega)]; exact hX0
   ·rw [List.getElem?_set_self (by simp; omega)]
 ·have:m=0:=by omega
  subst this
  have hend:∀(l:List Fd) (max:Int) (P:Nat) (X:List Blk) (tok:Option Nat),l.length≤20→(∀f ∈ l,FdS f)→-1≤max→max≤65→P≤p+10000→∃r S2,Wk S (.agg [.rows tok (l.map fV),.int .i64 max]) (S.set b (Rd bs P)++X) r S2∧(∃(l:List Fd) (max:Int),l.length≤20∧(∀f ∈ l,FdS f)∧-1≤max∧max≤65∧r=tV l max)∧∃p',p'≤p+10000∧S2=S.set b (Rd bs p') :=
   fun l max P X tok h1 h2 h3 h4 hP=>⟨_,_,(Wk.eraseT _ _ _).trans (finS (cl_tab _ l max)),⟨l,max,h1,h2,h3,h4,rfl⟩,P,hP,rfl⟩
  have hX4:∀Y,(X++Y)[0]?=some (.cells 0 [.nils,.int .i64 0]):=fun Y=>by rw [List.getElem?_append_left (by omega)]; exact hX0
  have hl1:∀Y,3 < (X++Y).length:=fun Y=>by rw [List.length_append]; omega
  simp -implicitDefEqProofs (disch:=omega) only [push_cast,simprocAttr,stA hbl,stB hbl,h0,h2,h3,h4,↓gd]
  refine (pickI bs b P 24 _ (by simp) (by omega) (by omega) hbs _ (stC hbl _ _)).mono ?_
  rintro r S1 ⟨⟨q3,hq3,rfl⟩,rfl⟩
  simp -implicitDefEqProofs (disch:=omega) only [push_cast,simprocAttr,stA hbl,stB hbl,h0,h2,h3,h4,hX3,hX2,hX0,↓gd]
  refine ⟨fun g=>?_,fun g=>⟨fun g2=>?_,fun g2=>?_⟩⟩
  ·refine (pickI bs b (P+1) 3 _ (by simp) (by omega) (by omega) hbs _ (stC hbl _ _)).mono ?_
   rintro r S1 ⟨⟨q4,hq4,rfl⟩,rfl⟩
   obtain ⟨my,hmy0,hmy1,hgd2⟩:∃my:Int,-1≤my∧my≤65∧[V.int .i64 (-1),V.int .i64 65,V.int .i64 3].getD q4 .junk=.int .i64 my:=by
    rcases (by omega:q4=0∨q4=1∨q4=2) with rfl | rfl | rfl
    ·exact ⟨-1,by decide,by decide,rfl⟩
    ·exact ⟨65,by decide,by decide,rfl⟩
    ·exact ⟨3,by decide,by decide,rfl⟩
   simp -implicitDefEqProofs (disch:=omega) only [push_cast,simprocAttr,stA hbl,stB hbl,h0,h2,h3,h4,hX3,hX2,hX4,z33 (hl1 _),z30 (hX4 _),z00 (hl1 _),z300 (hl1 _),hgd2,↓gd]
   exact ⟨by omega,by omega,hend l my _ _ _ (by omega) hl hmy0 hmy1 (by omega)⟩
  ·refine (l71Field_ok bs b (P+1) (by omega) hbs _ (stC hbl _ _)).mono ?_
   rintro r S1 ⟨⟨f1,hf1,rfl⟩,p1,hp1,rfl⟩
   simp -implicitDefEqProofs (disch:=omega) only [push_cast,simprocAttr,stA hbl,stB hbl,h0,h2,h3,h4,hX3,hX2,hX0,↓gd]
   refine (l71Field_ok bs b p1 (by omega) hbs _ (stC hbl _ _)).mono ?_
   rintro r S1 ⟨⟨f2,hf2,rfl⟩,p2,hp2,rfl⟩
   simp -implicitDefEqProofs (disch:=omega) only [push_cast,simprocAttr,stA hbl,stB hbl,h0,h2,h3,h4,hX3,hX2,hX0,↓gd]
   refine (l71Field_ok bs b p2 (by omega) hbs _ (stC hbl _ _)).mono ?_
   rintro r S1 ⟨⟨f3,hf3,rfl⟩,p3,hp3,rfl⟩
   simp -implicitDefEqProofs (disch:=omega) only [push_cast,simprocAttr,stA hbl,stB hbl,h0,h2,h3,h4,hX3,hX2,hX0,hX1,↓gd]
   refine ⟨by omega,?_⟩
   have hZ3:((X++[Blk.right 3]).set τ Blk.dead++[Blk.right 3])[3]?=some (.cells 0 [.rows (some (S.length+τ)) (l.map fV),.int .i64 mx]):=by
    rw [List.getElem?_append_left (by simp; omega),List.getElem?_set_ne (by omega)]; exact hX2 _
   have hZ0:((X++[Blk.right 3]).set τ Blk.dead++[Blk.right 3])[0]?=some (.cells 0 [.nils,.int .i64 0]):=by
    rw [List.getElem?_append_left (by simp),List.getElem?_set_ne (by omega)]; exact hX4 _
   generalize (X++[Blk.right 3]).set τ Blk.dead++[Blk.right 3]=Z at hZ3 hZ0
   have hZl:3 < Z.length:=rd_lt hZ3
   simp -implicitDefEqProofs (disch:=omega) only [push_cast,simprocAttr,stA hbl,stB hbl,h0,h2,h3,h4,hZ3,hZ0,z33 hZl,z30 hZ0,z00 hZl,z300 hZl,↓gd]
   have e:List.map fV l++[V.agg [V.str f1.name,V.str f1.val,V.bool f1.never],V.agg [V.str f2.name,V.str f2.val,V.bool f2.never],V.agg [V.str f3.name,V.str f3.val,V.bool f3.never]]=List.map fV (l++[f1,f2,f3]):=by rw [List.map_append]; rfl
   rw [e]
   refine hend (l++[f1,f2,f3]) mx _ _ _ (by rw [List.length_append]; simp; omega) (fun g hg=>?_) (by omega) (by omega) (by omega)
   rcases List.mem_append.1 hg with g1 | g1
   ·exact hl g g1
   ·simp only [List.mem_cons,List.not_mem_nil,or_false] at g1
    rcases g1 with rfl | rfl | rfl
    ·exact hf1
    ·exact hf2
    ·exact hf3
  ·simp -implicitDefEqProofs (disch:=omega) only [push_cast,simprocAttr,stA hbl,stB hbl,h0,h2,h3,h4,hX3,hX2,hX0,z00 hXl,↓gd]
   exact hend l mx _ _ _ (by omega) hl (by omega) (by omega) (by omega)
end
section
open Go
theorem fd_ext {a c:Fd}:(a.name=c.name∧a.val=c.val∧a.never=c.never)↔a=c:=by
 cases a; cases c; simp
instance:DecidableEq Fd:=fun _ _=>decidable_of_iff _ fd_ext
theorem lkFields_ok (a c:List Fd) (ha:a.length≤2000000) (hc:c.length≤2000000) (S:List Blk):VCall Tryz.prog 75 [.rows none (a.map fV),.rows none (c.map fV)] S fun r S'=>r=.bool (decide (a=c))∧S'=S:=by
 refine VCall.ex hD (fun _=>false) (fun id=>if id=6 then [9,9,9,9,9,9,9,9,9] else []) Tryz.func75 Tryz.ntmps75 Tryz.results75 ?_
 simp -implicitDefEqProofs (disch:=omega) only [push_cast,simprocAttr,↓gd]
 refine ⟨fun h=>?_,fun h=>?_⟩
 ·refine fin0 ?_
  rw [decide_eq_false (fun e=>h (by rw [e]))]
 have hlen:a.length=c.length:=by omega
 refine wpV_loop (fun m t S'=>∃i:Nat,m=a.length - i∧i≤a.length∧a.take i=c.take i∧t 0=.rows none (a.map fV)∧t 1=.rows none (c.map fV)∧t 5=.int .i64 i∧S'=S) a.length ⟨0,by omega,by omega,by simp,rfl,rfl,rfl,rfl⟩ ?_
 rintro m t S' ⟨i,rfl,hi,htk,h0,h1,h5,rfl⟩
 refine wpV_of hD (fun _=>false) (fun id=>if id=6 then [9,9,9,9,9,9,9,9,9] else []) (by kernel_rfl) ?_
 simp -implicitDefEqProofs (disch:=omega) only [push_cast,simprocAttr,h0,h1,h5,↓gd]
 refine ⟨fun h=>⟨by omega,by omega,?_⟩,fun h=>?_⟩
 ·have hil:i < a.length:=by omega
  have hil2:i < c.length:=by omega
  have hg1:=getD_fV hil
  have hg2:=getD_fV hil2
  generalize hf:a.getD i fd0=f at hg1
  generalize hg:c.getD i fd0=g at hg2
  simp -implicitDefEqProofs (disch:=omega) only [push_cast,simprocAttr,h0,h1,h5,hg1,hg2,↓gd]
  refine ⟨by omega,by omega,fun he=>fin0 ?_,fun he=>⟨a.length - (i+1),by omega,i+1,rfl,by omega,?_,by simp⟩⟩
  ·rw [decide_eq_false]
   intro e
   subst e
   rw [hf] at hg
   subst hg
   simp at he
  ·rw [take_fd hil,take_fd hil2,htk,hf,hg]
   simp only [Bool.and_eq_true,decide_eq_true_eq,beq_iff_eq] at he
   rw [fd_ext.1 he]
 ·have:i=a.length:=by omega
  subst this
  rw [List.take_length,hlen,List.take_length] at htk
  exact fin0 (by rw [htk]; simp)
theorem lkTable_ok (a c:List Fd) (m n:Int) (ha:a.length≤2000000) (hc:c.length≤2000000) (S:List Blk):VCall Tryz.prog 27 [tV a m,tV c n] S fun r S'=>r=.bool (decide (m=n) && decide (a=c))∧S'=S:=by
 refine VCall.en hD Tryz.func27 Tryz.ntmps27 Tryz.results27 ?_
 by_cases h:m=n
 ·simp -implicitDefEqProofs (disch:=omega) only [push_cast,simprocAttr,h,↓gd]
  refine (lkFields_ok a c ha hc _).to ?_
  simp -implicitDefEqProofs (disch:=omega) only [push_cast,simprocAttr,h,↓gd]
  exact fin1 (.bool _) (by simp)
 ·simp -implicitDefEqProofs (disch:=omega) only [push_cast,simprocAttr,h,↓gd]
  exact fin1 (.bool _) (by simp [h])
theorem lkTable_self (a:List Fd) (m:Int) (ha:a.length≤2000000) (S:List Blk):VCall Tryz.prog 27 [tV a m,tV a m] S fun r S'=>r=.bool true∧S'=S:=by
 have h:=lkTable_ok a a m m ha ha S
 rw [decide_eq_true rfl,decide_eq_true rfl] at h
 exact h
theorem tabW_len (l:List Fd) (max:Int) (f:Fd):(tabW l max f).length≤l.length+1:=by
 unfold tabW
 split
 ·omega
 ·split
  ·omega
  ·have:=(fitL_sub (f :: l) max).2
   simpa using this
theorem headW_nil (l:List Fd) (max:Int):headW l max []=(l,[]):=rfl
end
section
open Go Go.ChangeShapes Go.WideShapes Go.ChangeAt Go.RowKit
theorem lawOwn:ownKnob Tryz.prog.godebug=none:=by kernel_rfl
theorem lawLaid:laidOutB Tryz.prog=true:=by kernel_rfl
theorem cellsOf8:Tryz.prog.cellsOf 5=1:=by kernel_rfl
def lawG (W:World) (K:Nat):Gh:={ n:=0,ok:=fun _=>false,blk:=fun _=>0,fin:=fun _=>0,lim:=fun _=>0,sz:=fun _=>0,p:=fun b=>if b < W.heap.size then K else 0 }
theorem lawRel (W:World) (K:Nat):Rel (lawG W K) W [] where
 n:=rfl
 fresh:=fun b hb=>by simp [lawG,Nat.not_lt.2 hb]
 lt:=fun j B h=>by simp at h
 live:=fun j B h=>by simp at h
 vac:=fun j sz cs h=>by simp at h
 inj:=fun i j B C h=>by simp at h
theorem bytes_arg {H:Type} {enc:TypeId × Value→H} {W:World} {base:Nat} {v0:Value} {d0:DataW H} {p0:List MemPlace}
  (hv:Value.okWide Tryz.prog W .any base 22 v0) (h0:DataW.Trod enc Tryz.prog W 0 (fun _=>true) true 22 v0 d0 p0) :
  ∃(code:List UInt8) (K:Nat),∀K',K≤K'→VR (lawG W K') W (.rows none (code.map u8V)) v0:=by
 obtain ⟨a0,len,cap,rfl⟩:=okWide_slice Tryz.underlying22 hv
 obtain ⟨fuel,hf⟩:=h0
 rcases open_ints Tryz.underlying22 Tryz.underlying5 cellsOf8 hf with ⟨hcs,hx⟩ | ⟨a,len',cap',zs,hcs,_,hl,hm,hz,hx,hcell,hwz⟩
 ·simp [Value.cells] at hcs
  obtain ⟨rfl,rfl,rfl⟩:=hcs
  exact ⟨[],0,fun K' _=>.rowsNil (fun τ hτ=>by cases hτ)⟩
 ·simp [Value.cells] at hcs
  obtain ⟨rfl,rfl,rfl⟩:=hcs
  simp only [if_true] at hz
  simp only [Value.okWide,Cell.okWide,Cell.ok,Tryz.underlying22] at hv
  obtain ⟨_,_,_,hsp,row,cells,hsh,_⟩:=hv
  obtain ⟨b,off,s⟩:=a
  simp only at hsp
  subst hsp
  have hb:b < W.heap.size:=by
   rcases Nat.lt_or_ge b W.heap.size with g | g
   ·exact g
   ·have hn:W.heap[b]?=none:=Array.getElem?_eq_none g
    simp [World.shape?,hn] at hsh
  have hbyte:∀x ∈ zs,0≤x∧x < 256:=fun x hx=>by
   have h:=hwz x hx
   have h1:IntKind.u8.min=0:=rfl
   have h2:IntKind.u8.max=255:=rfl
   simp only [Lit.wf,Bool.and_eq_true,decide_eq_true_eq] at h
   omega
  refine ⟨(zs.take len).map (fun x=>UInt8.ofNat x.toNat),off+len,fun K' hK=>?_⟩
  have hlen:(((zs.take len).map (fun x=>UInt8.ofNat x.toNat)).map u8V).length=len:=by simp; omega
  have hr:VR (lawG W K') W (.rows none (((zs.take len).map (fun x=>UInt8.ofNat x.toNat)).map u8V)) (.slice (some ⟨b,off,none⟩) (((zs.take len).map (fun x=>UInt8.ofNat x.toNat)).map u8V).length cap):=by
   refine .rows ((zs.take len).map fun x=>.int .u8 x) ?_ ?_ ?_ ?_ ?_ (by rw [hlen]; omega) (fun τ hτ=>by cases hτ)
   ·rw [cells_ff _ (fun v hv=>by obtain ⟨y,_,rfl⟩:=List.mem_map.1 hv; rfl)]; simp
   ·intro i v u hv' hu
    rw [cells_ff _ (fun v hv=>by obtain ⟨y,_,rfl⟩:=List.mem_map.1 hv; rfl)] at hv'
    simp only [List.getElem?_map,Option.map_eq_some_iff] at hv' hu
    obtain ⟨c,⟨x,hx1,rfl⟩,rfl⟩:=hv'
    obtain ⟨y,hy,rfl⟩:=hu
    rw [hx1] at hy
    cases hy
    obtain ⟨g1,g2⟩:=hbyte x (List.mem_of_mem_take (List.mem_of_getElem? hx1))
    have e:((UInt8.ofNat x.toNat).toNat:Int)=x:=by simp; omega
    rw [u8V,e]
    exact .int _ _
   ·intro u hu
    simp only [List.mem_map] at hu
    obtain ⟨x,_,rfl⟩:=hu
    rfl
   ·intro i u hu
    simp only [List.getElem?_map,Option.map_eq_some_iff] at hu
    obtain ⟨x,hx1,rfl⟩:=hu
    have hi:i < zs.length:=by
     have:=(List.getElem?_eq_some_iff.1 hx1).1
     simp at this; omega
    have:=hcell i hi
    rw [List.getElem?_take] at hx1
    split at hx1
    ·rw [List.getD,hx1] at this
     rw [add_plain] at this
     exact this
    ·cases hx1
   ·have:((zs.take len).map fun x=>Value.int .u8 x).length=len:=by simp; omega
    rw [this]
    simp only [lawG,if_pos hb]
    omega
  rw [hlen] at hr
  exact hr
theorem law_callsR {fid:FuncId} {fn:Func} (hfn:Tryz.prog.funcs[fid]?=some fn) (hbody:fn.body.isNone=false) (hname:(fn.name == "runtime.NumGoroutine")=false) {args:List V}
  (hc:VCall Tryz.prog fid args [] fun r S'=>r=.bool true) {W:World} {K:Nat} {cargs:Array Value} (ha:AllR (lawG W K) W args cargs.toList) :
  Calls Tryz.prog fid cargs W fun e W'=>e=.returned (.bool true)∧Below W.heap.size W W':=by
 rcases hc with ⟨_,r,S',rfl,hd⟩ | ⟨r,_,hx⟩
 ·refine Calls.mono (hd (lawG W K) W cargs ha (lawRel W K)) ?_
  rintro e W' ⟨c,G',rfl,hv,_,hE⟩
  cases hv
  refine ⟨rfl,⟨hE.os,hE.tape,hE.output,hE.size,fun k hk=>hE.other k hk ?_⟩⟩
  rintro ⟨j,B,hj,_⟩
  simp at hj
 ·obtain ⟨c,hrun,_⟩:=hx (lawG W K) W cargs ha
  have hne:¬fn.name= "runtime.NumGoroutine":=by simpa using hname
  cases hbo:fn.body with
  | none=>rw [hbo] at hbody; cases hbody
  | some bd=>simp [callFunc,hfn,hbo,hne] at hrun
theorem allR_one {G:Gh} {W:World} {a:V} {v:Value} (h:VR G W a v):AllR G W [a] (#[v]:Array Value).toList:=by
 refine ⟨rfl,fun i x u hx hu=>?_⟩
 rcases i with _ | i
 ·cases hx; cases hu; exact h
 ·cases hx
theorem allR_two {G:Gh} {W:World} {a b:V} {v u:Value} (h:VR G W a v) (k:VR G W b u):AllR G W [a,b] (#[v,u]:Array Value).toList:=by
 refine ⟨rfl,fun i x z hx hz=>?_⟩
 rcases i with _ | _ | i
 ·cases hx; cases hz; exact h
 ·cases hx; cases hz; exact k
 ·cases hx
end
section
open Go
def tailR:Nat→List UInt8→Option (Nat × Nat)
 | 0,_=>none
 | _+1,[]=>none
 | k+1,c :: r=>if c.toNat < 128 then some (c.toNat,1) else match tailR k r with
  | some (v,n)=>some (c.toNat % 128+128 * v,n+1)
  | none=>none
def numR (b:List UInt8) (bits:Nat):Option (Nat × Nat) :=
 match b with
 | []=>none
 | c :: r=>if c.toNat % 2 ^ bits < 2 ^ bits - 1 then some (c.toNat % 2 ^ bits,1) else match tailR 3 r with
  | some (v,n)=>if 2 ^ bits - 1+v≤9999∧numTail v=r.take n then some (2 ^ bits - 1+v,n+1) else none
  | none=>none
theorem tailR_bound:∀(k:Nat) (r:List UInt8) (v n:Nat),tailR k r=some (v,n)→v < 128 ^ k∧n≤k∧n≤r.length∧1≤n
 | 0,_,v,n,h=>by simp [tailR] at h
 | k+1,[],v,n,h=>by simp [tailR] at h
 | k+1,c :: r,v,n,h=>by
  rw [tailR] at h
  split at h
  ·simp only [Option.some.injEq,Prod.mk.injEq] at h
   obtain ⟨rfl,rfl⟩:=h
   have:0 < 128 ^ k:=Nat.pow_pos (by decide)
   rw [Nat.pow_succ]
   refine ⟨by omega,by omega,by simp,by omega⟩
  ·split at h
   ·rename_i v' n' h'
    simp only [Option.some.injEq,Prod.mk.injEq] at h
    obtain ⟨rfl,rfl⟩:=h
    obtain ⟨h1,h2,h3,h4⟩:=tailR_bound k r v' n' h'
    rw [Nat.pow_succ]
    refine ⟨by omega,by omega,by simpa using h3,by omega⟩
   ·cases h
theorem numR_bound {b:List UInt8} {bits v n:Nat} (hb:bits≤7) (h:numR b bits=some (v,n)):v≤9999∧1≤n∧n≤4∧n≤b.length:=by
 have hp:2 ^ bits≤2 ^ 7:=Nat.pow_le_pow_right (by omega) hb
 unfold numR at h
 split at h
 ·cases h
 ·rename_i c r
  split at h
  ·simp only [Option.some.injEq,Prod.mk.injEq] at h
   obtain ⟨rfl,rfl⟩:=h
   refine ⟨by omega,by omega,by omega,by simp⟩
  ·split at h
   ·rename_i v' n' h'
    split at h
    ·rename_i hc
     simp only [Option.some.injEq,Prod.mk.injEq] at h
     obtain ⟨rfl,rfl⟩:=h
     obtain ⟨h1,h2,h3,h4⟩:=tailR_bound 3 r v' n' h'
     refine ⟨hc.1,by omega,by omega,by simpa using h3⟩
    ·cases h
   ·cases h
theorem by8_toNat {n:Nat} (h:n < 256):(by8 n).toNat=n:=by simp [by8]; omega
theorem tailR_numTail {v:Nat} (h:v < 2097152) (rest:List UInt8):tailR 3 (numTail v++rest)=some (v,(numTail v).length):=by
 rcases Nat.lt_or_ge v 128 with g | g
 ·rw [numTail_lt g]
  simp [tailR,by8_toNat (show v < 256 by omega),g]
 ·rw [numTail_ge g]
  have e1:=by8_toNat (show v % 128+128 < 256 by omega)
  rcases Nat.lt_or_ge (v / 128) 128 with g2 | g2
  ·rw [numTail_lt g2]
   simp only [List.cons_append,tailR,e1,by8_toNat (show v / 128 < 256 by omega),if_pos g2,if_neg (show ¬v % 128+128 < 128 by omega),List.nil_append,List.length_cons,List.length_nil]
   congr 2
   omega
  ·rw [numTail_ge g2,numTail_lt (show v / 128 / 128 < 128 by omega)]
   have e2:=by8_toNat (show v / 128 % 128+128 < 256 by omega)
   have e3:=by8_toNat (show v / 128 / 128 < 256 by omega)
   simp only [List.cons_append,tailR,e1,e2,e3,if_neg (show ¬v % 128+128 < 128 by omega),if_neg (show ¬v / 128 % 128+128 < 128 by omega),if_pos (show v / 128 / 128 < 128 by omega),List.nil_append,List.length_cons,List.length_nil]
   congr 2
   omega
theorem numR_numW {n bits head:Nat} (hn:n≤9999) (hb:bits≤7) (hh:head * 2 ^ bits+2 ^ bits≤256) (rest:List UInt8):numR (numW n bits head++rest) bits=some (n,(numW n bits head).length):=by
 obtain ⟨p,hp⟩:∃p,p=2 ^ bits:=⟨_,rfl⟩
 have hp1:1≤p:=by rw [hp]; exact Nat.one_le_two_pow
 unfold numW
 rw [←hp] at hh ⊢
 split
 ·rename_i h
  have e1:(by8 (head * p+n)).toNat=head * p+n:=by8_toNat (by omega)
  have e2:(head * p+n) % p=n:=by rw [Nat.mul_comm,Nat.mul_add_mod,Nat.mod_eq_of_lt (by omega)]
  simp only [numR,List.cons_append,←hp,e1,e2,if_pos h]
  rfl
 ·rename_i h
  have e1:(by8 (head * p+(p - 1))).toNat=head * p+(p - 1):=by8_toNat (by omega)
  have e2:(head * p+(p - 1)) % p=p - 1:=by rw [Nat.mul_comm,Nat.mul_add_mod,Nat.mod_eq_of_lt (by omega)]
  simp only [numR,List.cons_append,←hp,e1,e2,if_neg (Nat.lt_irrefl _)]
  rw [tailR_numTail (by omega)]
  simp only [List.take_left,and_true]
  rw [if_pos (by omega)]
  simp only [List.length_cons]
  congr 2
  omega
end
section
open Go
def signOf (n:Nat):UInt8:=signs.getD n 0
def unB:Nat→List Nat→List UInt8 × List Nat
 | 0,l=>([],l)
 | k+1,l =>
  if l.length < 5 then ([],l) else
  if numOf (l.take 5) < 24 then (signOf (numOf (l.take 5)) :: (unB k (l.drop 5)).1,(unB k (l.drop 5)).2) else
  if l.length < 7 then ([],l) else
  if 39≤numOf (l.take 7) - 72 then ([],l) else (signOf (numOf (l.take 7) - 72) :: (unB k (l.drop 7)).1,(unB k (l.drop 7)).2)
def bitsB (b:List UInt8):List Nat:=b.flatMap fun c=>bitsOf c.toNat 8
def unO (b:List UInt8):List UInt8:=(unB (bitsB b).length (bitsB b)).1
def unL (b:List UInt8):List Nat:=(unB (bitsB b).length (bitsB b)).2
def unOk (b:List UInt8):Bool:=(unL b).all (fun x=>decide (x=1)) && decide ((unL b).length < 8) && decide ((unO b).length≤16)
def unpackM (b:List UInt8):Option (List UInt8):=if b.length≤16 then (if unOk b then some (unO b) else none) else none
theorem numOf_bitsOf (n k:Nat):numOf (bitsOf n k)=n % 2 ^ k:=by
 induction k generalizing n with
 | zero=>simp [bitsOf,numOf,Nat.mod_one]
 | succ k ih =>
  rw [bitsOf,numOf_append,ih]
  rw [Nat.pow_succ,Nat.mul_comm (2 ^ k) 2,Nat.mod_mul]
  omega
theorem bitsOf_numOf':∀(n:Nat) (l:List Nat),l.length=n→(∀b ∈ l,b≤1)→bitsOf (numOf l) n=l
 | 0,l,h,_=>by
  have:l=[]:=List.length_eq_zero_iff.1 h
  subst this
  rfl
 | n+1,l,h,hb=>by
  have hne:l≠[]:=fun e=>by subst e; simp at h
  have hdl:l.dropLast++[l.getLast hne]=l:=List.dropLast_concat_getLast hne
  have ha:=hb (l.getLast hne) (List.getLast_mem hne)
  have ih:=bitsOf_numOf' n l.dropLast (by simp; omega) (fun b hx=>hb b (List.dropLast_subset _ hx))
  conv=>{ lhs; rw [←hdl] }
  rw [numOf_append,bitsOf,show (2 * numOf l.dropLast+l.getLast hne) / 2=numOf l.dropLast by omega,show (2 * numOf l.dropLast+l.getLast hne) % 2=l.getLast hne by omega,ih,hdl]
theorem bitsOf_numOf (l:List Nat) (h:∀b ∈ l,b≤1):bitsOf (numOf l) l.length=l:=bitsOf_numOf' _ l rfl h
theorem bitsB_len (b:List UInt8):(bitsB b).length=8 * b.length:=by
 induction b with
 | nil=>rfl
 | cons c b ih=>simp only [bitsB,List.flatMap_cons,List.length_append,bitsOf_len,List.length_cons] at ih ⊢; omega
theorem bitsB_le (b:List UInt8):∀x ∈ bitsB b,x≤1:=fun x hx=>by
 obtain ⟨c,_,hc⟩:=List.mem_flatMap.1 hx
 exact bitsOf_le _ _ x hc
theorem bytes8_bitsB (b:List UInt8):bytes8 (bitsB b)=b:=by
 induction b with
 | nil=>rw [bytes8_end (by simp [bitsB])]
 | cons c b ih =>
  have e:bitsB (c :: b)=bitsOf c.toNat 8++bitsB b:=rfl
  rw [e,bytes8_step (by simp [bitsOf_len])]
  rw [List.take_left' (bitsOf_len _ _),List.drop_left' (bitsOf_len _ _),ih,numOf_bitsOf]
  congr 1
  have:=c.toNat_lt
  rw [Nat.mod_eq_of_lt (by omega)]
  simp [by8]
theorem bitsB_bytes8:∀(n:Nat) (l:List Nat),l.length=8 * n→(∀b ∈ l,b≤1)→bitsB (bytes8 l)=l
 | 0,l,h,_=>by rw [bytes8_end (by omega)]; have:l=[]:=List.length_eq_zero_iff.1 (by omega); rw [this]; rfl
 | n+1,l,h,hb=>by
  rw [bytes8_step (by omega)]
  have hl8:(l.take 8).length=8:=by simp; omega
  have h8b:∀b ∈ l.take 8,b≤1:=fun b hx=>hb b (List.mem_of_mem_take hx)
  have hlt:=numOf_lt (l.take 8) h8b
  rw [hl8] at hlt
  have ih:=bitsB_bytes8 n (l.drop 8) (by simp; omega) (fun b hx=>hb b (List.mem_of_mem_drop hx))
  show bitsOf (by8 (numOf (l.take 8))).toNat 8++bitsB (bytes8 (l.drop 8))=l
  rw [ih,by8_toNat hlt]
  have:=bitsOf_numOf (l.take 8) h8b
  rw [hl8] at this
  rw [this,List.take_append_drop]
theorem sign_at:∀v,v < 39→signAt (signOf v)=v:=by decide
theorem indexByte_get:∀(l:List UInt8) (c:UInt8) (i:Nat),Lib.indexByte l c=(i:Int)→l[i]?=some c
 | [],c,i,h=>by simp [Lib.indexByte] at h
 | b :: l,c,i,h=>by
  simp only [Lib.indexByte] at h
  split at h
  ·rename_i hbc
   have:i=0:=by omega
   subst this
   simpa using hbc
  ·split at h
   ·omega
   ·obtain ⟨k,rfl⟩:∃k,i=k+1:=⟨i - 1,by
     rename_i h1
     rcases Nat.eq_zero_or_pos i with h0 | h0
     ·exfalso
      have h2:=Lib.indexByte_ge l c
      simp at h1
      omega
     ·omega⟩
    simp only [List.getElem?_cons_succ]
    exact indexByte_get l c k (by omega)
theorem sign_of {c:UInt8} {v:Nat} (h:signAt c=v):signOf v=c:=by
 have:=indexByte_get signs c v h
 rw [signOf,List.getD,this]
 rfl
theorem codeOf_sign {v:Nat} (h:v < 39):codeOf (signOf v)=if v < 24 then bitsOf v 5 else bitsOf (72+v) 7:=by
 unfold codeOf
 rw [sign_at v h]
 by_cases g:v < 24
 ·rw [if_pos g,if_pos (by omega)]; rfl
 ·rw [if_neg g,if_neg (by omega)]; rfl
theorem unB_codes:∀(k:Nat) (l:List Nat),(∀b ∈ l,b≤1)→l=(unB k l).1.flatMap codeOf++(unB k l).2∧∀c ∈ (unB k l).1,0≤signAt c
 | 0,l,_=>by simp [unB]
 | k+1,l,hb=>by
  rw [unB]
  split
  ·simp
  ·rename_i h5
   have hl5:(l.take 5).length=5:=by simp; omega
   have hb5:∀b ∈ l.take 5,b≤1:=fun b hx=>hb b (List.mem_of_mem_take hx)
   have e5:=bitsOf_numOf (l.take 5) hb5
   rw [hl5] at e5
   split
   ·rename_i h24
    obtain ⟨i1,i2⟩:=unB_codes k (l.drop 5) (fun b hx=>hb b (List.mem_of_mem_drop hx))
    refine ⟨?_,?_⟩
    ·rw [List.flatMap_cons,codeOf_sign (by omega),if_pos h24,e5,List.append_assoc,←i1,List.take_append_drop]
    ·intro c hc
     rcases List.mem_cons.1 hc with rfl | hc
     ·rw [sign_at _ (by omega)]; omega
     ·exact i2 c hc
   ·rename_i h24
    split
    ·simp
    ·rename_i h7
     have hl7:(l.take 7).length=7:=by simp; omega
     have hb7:∀b ∈ l.take 7,b≤1:=fun b hx=>hb b (List.mem_of_mem_take hx)
     have e7:=bitsOf_numOf (l.take 7) hb7
     rw [hl7] at e7
     have h96:96≤numOf (l.take 7):=by
      have e:l.take 7=l.take 5++(l.drop 5).take 2:=by rw [←List.take_add]
      obtain ⟨x,y,hxy⟩:∃x y,(l.drop 5).take 2=[x,y]:=by
       match hq:(l.drop 5).take 2 with
       | [x,y]=>exact ⟨x,y,rfl⟩
       | []=>have:=congrArg List.length hq; simp at this; omega
       | [x]=>have:=congrArg List.length hq; simp at this; omega
       | x :: y :: z :: r=>have:=congrArg List.length hq; simp at this; omega
      rw [e,hxy,show l.take 5++[x,y]=(l.take 5++[x])++[y] by simp,numOf_append,numOf_append]
      omega
     split
     ·simp
     ·rename_i h39
      obtain ⟨i1,i2⟩:=unB_codes k (l.drop 7) (fun b hx=>hb b (List.mem_of_mem_drop hx))
      refine ⟨?_,?_⟩
      ·rw [List.flatMap_cons,codeOf_sign (by omega),if_neg (by omega),show 72+(numOf (l.take 7) - 72)=numOf (l.take 7) by omega,e7,List.append_assoc,←i1,List.take_append_drop]
      ·intro c hc
       rcases List.mem_cons.1 hc with rfl | hc
       ·rw [sign_at _ (by omega)]; omega
       ·exact i2 c hc
theorem un_bits (b:List UInt8):bitsB b=(unO b).flatMap codeOf++unL b:=(unB_codes _ _ (bitsB_le b)).1
theorem un_signs (b:List UInt8):∀c ∈ unO b,0≤signAt c:=(unB_codes _ _ (bitsB_le b)).2
theorem pad8_len (l:List Nat):(pad8 l).length % 8=0:=by simp [pad8]; omega
theorem pad8_le {l:List Nat} (h:∀b ∈ l,b≤1):∀b ∈ pad8 l,b≤1:=by
 intro b hb
 simp only [pad8,List.mem_append] at hb
 rcases hb with hb | hb
 ·exact h b hb
 ·rw [(List.mem_replicate.1 hb).2]; exact Nat.le_refl _
theorem codes_le (w:List UInt8):∀b ∈ w.flatMap codeOf,b≤1:=fun b hb=>by
 obtain ⟨c,_,hc⟩:=List.mem_flatMap.1 hb
 exact codeOf_le c b hc
theorem bitsB_pack (w:List UInt8):bitsB (pack w)=pad8 (w.flatMap codeOf):=by
 have h:=pad8_len (w.flatMap codeOf)
 exact bitsB_bytes8 ((pad8 (w.flatMap codeOf)).length / 8) _ (by omega) (pad8_le (codes_le w))
theorem un_pack (b:List UInt8):pack (unO b)=b↔((unL b).all (fun x=>decide (x=1))=true∧(unL b).length < 8):=by
 have h1:=un_bits b
 have h2:=bitsB_len b
 rw [h1,List.length_append] at h2
 constructor
 ·intro h
  have h3:=bitsB_pack (unO b)
  rw [h,h1,pad8] at h3
  have h4:=List.append_cancel_left h3
  rw [h4]
  refine ⟨?_,by rw [List.length_replicate]; omega⟩
  rw [List.all_eq_true]
  intro x hx
  simpa using (List.mem_replicate.1 hx).2
 ·rintro ⟨h3,h4⟩
  have h5:unL b=List.replicate (unL b).length 1:=by
   rw [List.eq_replicate_iff]
   refine ⟨rfl,fun x hx=>?_⟩
   simpa using List.all_eq_true.1 h3 x hx
  have h6:pad8 ((unO b).flatMap codeOf)=bitsB b:=by
   rw [h1,pad8]
   congr 1
   conv=>{ rhs; rw [h5] }
   congr 1
   omega
  rw [pack,h6,bytes8_bitsB]
theorem unB_word:∀(w:List UInt8) (k:Nat) (r:List Nat),(∀c ∈ w,0≤signAt c)→w.length≤k→(∀x ∈ r,x=1)→r.length < 8→unB k (w.flatMap codeOf++r)=(w,r)
 | w,0,r,_,h,_,_=>by
  have:w=[]:=List.length_eq_zero_iff.1 (by omega)
  subst this
  rfl
 | [],k+1,r,_,_,hr,h8=>by
  have hrep:r=List.replicate r.length 1:=by rw [List.eq_replicate_iff]; exact ⟨rfl,hr⟩
  simp only [List.flatMap_nil,List.nil_append]
  generalize r.length=m at hrep h8
  subst hrep
  rcases (by omega:m=0∨m=1∨m=2∨m=3∨m=4∨m=5∨m=6∨m=7) with rfl | rfl | rfl | rfl | rfl | rfl | rfl | rfl <;> rfl
 | c :: w,k+1,r,hs,hk,hr,h8=>by
  have hc:=hs c (by simp)
  have ih:=unB_word w k r (fun x hx=>hs x (by simp [hx])) (by simpa using hk) hr h8
  obtain ⟨v,hv⟩:∃v:Nat,signAt c=v:=⟨(signAt c).toNat,by omega⟩
  have hv38:v≤38:=by have:=signAt_le c; omega
  have hcs:signOf v=c:=sign_of hv
  rw [List.flatMap_cons,List.append_assoc]
  have hcode:codeOf c=if v < 24 then bitsOf v 5 else bitsOf (72+v) 7:=by rw [←hcs]; exact codeOf_sign (by omega)
  rw [hcode,unB]
  split
  ·rename_i h24
   have hl:(bitsOf v 5).length=5:=bitsOf_len _ _
   rw [if_neg (by rw [List.length_append,hl]; omega),List.take_left' hl,List.drop_left' hl,numOf_bitsOf,Nat.mod_eq_of_lt (by omega),if_pos h24,ih,hcs]
  ·rename_i h24
   have hl:(bitsOf (72+v) 7).length=7:=bitsOf_len _ _
   have e5:24≤numOf ((bitsOf (72+v) 7++(w.flatMap codeOf++r)).take 5):=by
    have:(bitsOf (72+v) 7).take 5=bitsOf ((72+v) / 4) 5:=by simp [bitsOf,Nat.div_div_eq_div_mul]
    rw [List.take_append_of_le_length (by omega),this,numOf_bitsOf,Nat.mod_eq_of_lt (by omega)]
    omega
   rw [if_neg (by rw [List.length_append,hl]; omega),if_neg (by omega),if_neg (by rw [List.length_append,hl]; omega),List.take_left' hl,List.drop_left' hl,numOf_bitsOf,Nat.mod_eq_of_lt (by omega),if_neg (by omega),ih]
   rw [show 72+v - 72=v by omega,hcs]
end
end Go.Proofs.YtaamlddnpamomaaGreatDoor
