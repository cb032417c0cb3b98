/- A part of the proof: contracts of functions, or plain facts on which these lean. -/
import Derived.Test.YtldogccmhncnoaaGreatMk16
import Derived.Test.YtldogccmhncnoaaGreatMk20
import Derived.Test.YtldogccmhncnoaaGreatMk23
namespace Go.Proofs.YtldogccmhncnoaaGreat
open Go
set_option linter.unusedVariables false
set_option linter.unusedSimpArgs false
set_option maxRecDepth 100000
set_option maxHeartbeats 16000000

section
open Go
def mdig (k:Nat):List UInt8:=if h:k=0 then [] else mdig (k / 10)++[UInt8.ofNat (48+k % 10)]
termination_by k
decreasing_by omega
theorem mdig_zero:mdig 0=[]:=by rw [mdig]; simp
theorem mdig_pos {k:Nat} (h:0 < k):mdig k=mdig (k / 10)++[UInt8.ofNat (48+k % 10)]:=by
 rw [mdig,dif_neg (by omega)]
theorem mdig_len:∀k:Nat,(mdig k).length≤k:=by
 intro k
 induction k using Nat.strongRecOn with
 | _ k ih =>
  by_cases h:k=0
  ·subst h; rw [mdig_zero]; exact Nat.le_refl _
  ·rw [mdig_pos (by omega),List.length_append]
   have:=ih (k / 10) (by omega)
   simp only [List.length_cons,List.length_nil]
   omega
def mtext (k:Nat):List UInt8:=if k=0 then [109,48] else 109 :: mdig k
def mkF (k:Nat):Fd:=⟨mtext k,mtext (k+1),decide ((k+2) % 3=0)⟩
def mkFs:Nat→Nat→List Fd
 | 0,_=>[]
 | n+1,k=>mkF k :: mkFs n (k+3)
theorem mkFs_len:∀n k,(mkFs n k).length=n
 | 0,_=>rfl
 | n+1,k=>by rw [mkFs,List.length_cons,mkFs_len n]
theorem mkFs_snoc:∀n k,mkFs (n+1) k=mkFs n k++[mkF (k+3 * n)]
 | 0,k=>rfl
 | n+1,k=>by
  rw [mkFs,mkFs_snoc n (k+3),mkFs,List.cons_append,show k+3+3 * n=k+3 * (n+1) from by omega]
theorem mkFs_get:∀n k i,i < n→(mkFs n k).getD i ⟨[],[],false⟩=mkF (k+3 * i)
 | 0,_,_,h=>by omega
 | n+1,k,0,_=>rfl
 | n+1,k,i+1,h=>by
  rw [mkFs,List.getD_cons_succ,mkFs_get n (k+3) i (by omega),show k+3+3 * i=k+3 * (i+1) from by omega]
def mkS (s:St) (k:Nat):St :=
 let h:=3 * s.head.length
 let g:=3 * s.got.length
 { s with id:=k,state:=(k+1:Nat),head:=mkFs s.head.length (k+2),say:=mtext (k+2+h),begun:=decide ((k+3+h) % 3=0),said:=decide ((k+4+h) % 3=0),sent:=(k+5+h:Nat),got:=mkFs s.got.length (k+6+h),text:=mtext (k+6+h+g),heard:=decide ((k+7+h+g) % 3=0),send:=(k+8+h+g:Nat),room:=(k+9+h+g:Nat) }
def cntS (s:St):Nat:=10+3 * s.head.length+3 * s.got.length
def mkSs:List St→Nat→List St
 | [],_=>[]
 | s :: l,k=>mkS s k :: mkSs l (k+cntS s)
def cntSs:List St→Nat
 | []=>0
 | s :: l=>cntS s+cntSs l
theorem mkSs_len:∀l k,(mkSs l k).length=l.length
 | [],_=>rfl
 | s :: l,k=>by rw [mkSs,List.length_cons,List.length_cons,mkSs_len l]
theorem cntSs_app:∀l m,cntSs (l++m)=cntSs l+cntSs m
 | [],m=>by simp [cntSs]
 | s :: l,m=>by rw [List.cons_append,cntSs,cntSs,cntSs_app l m]; omega
def mkFr (k:Nat):Fr:=⟨k,decide ((k+1) % 3=0),(k+2:Nat),mtext (k+3)⟩
def mkFrs:Nat→Nat→List Fr
 | 0,_=>[]
 | n+1,k=>mkFr k :: mkFrs n (k+4)
theorem mkFrs_len:∀n k,(mkFrs n k).length=n
 | 0,_=>rfl
 | n+1,k=>by rw [mkFrs,List.length_cons,mkFrs_len n]
theorem mkFrs_snoc:∀n k,mkFrs (n+1) k=mkFrs n k++[mkFr (k+4 * n)]
 | 0,k=>rfl
 | n+1,k=>by
  rw [mkFrs,mkFrs_snoc n (k+4),mkFrs,List.cons_append,show k+4+4 * n=k+4 * (n+1) from by omega]
def markE (e:En) (k:Nat):En :=
 let k1:=k+3 * e.out.length
 let k2:=k1+3 * e.inn.length
 let k3:=k2+cntSs e.strs
 { e with out:=mkFs e.out.length k,inn:=mkFs e.inn.length k1,strs:=mkSs e.strs k2,wait:=mkFrs e.wait.length k3 }
def cntE (e:En):Nat:=3 * e.out.length+3 * e.inn.length+cntSs e.strs+4 * e.wait.length
theorem cntSs_le:∀(l:List St) (B:Nat),(∀s ∈ l,s.head.length≤B∧s.got.length≤B)→cntSs l≤l.length * (10+6 * B)
 | [],B,_=>by simp [cntSs]
 | s :: l,B,h=>by
  have h1:=h s (List.mem_cons_self ..)
  have h2:=cntSs_le l B fun t ht=>h t (List.mem_cons_of_mem _ ht)
  rw [cntSs,cntS,List.length_cons,Nat.add_mul,Nat.one_mul]
  omega
end
section
open Go
def mkX (x:XS) (k:Nat):XS:=(mkS x.1 k,x.2.1,x.2.2)
def cntX (ls:List XS):Nat:=cntSs (ls.map Prod.fst)
def mkXs:List XS→Nat→List XS
 | [],_=>[]
 | x :: ls,k=>mkX x k :: mkXs ls (k+cntS x.1)
theorem mkXs_len:∀ls k,(mkXs ls k).length=ls.length
 | [],_=>rfl
 | x :: ls,k=>by rw [mkXs,List.length_cons,List.length_cons,mkXs_len ls]
theorem mkXs_fst:∀ls k,(mkXs ls k).map Prod.fst=mkSs (ls.map Prod.fst) k
 | [],_=>rfl
 | x :: ls,k=>by rw [mkXs,List.map_cons,List.map_cons,mkSs,mkXs_fst ls]; rfl
theorem mkXs_fb:∀ls k,fb (mkXs ls k)=fb ls
 | [],_=>rfl
 | x :: ls,k=>by
  have:=mkXs_fb ls (k+cntS x.1)
  unfold fb at this ⊢
  rw [mkXs,List.flatMap_cons,List.flatMap_cons,this]
  rfl
theorem mkXs_app:∀ls ms k,mkXs (ls++ms) k=mkXs ls k++mkXs ms (k+cntX ls)
 | [],ms,k=>by simp [mkXs,cntX,cntSs]
 | x :: ls,ms,k=>by
  rw [List.cons_append,mkXs,mkXs,mkXs_app ls ms,List.cons_append]
  congr 3
  simp only [cntX,List.map_cons,cntSs]
  omega
theorem cntX_app (ls ms:List XS):cntX (ls++ms)=cntX ls+cntX ms:=by rw [cntX,List.map_append,cntSs_app]; rfl
def mkTo (ls:List XS) (k i:Nat):List XS:=mkXs (ls.take i) k++ls.drop i
theorem mkTo_zero (ls:List XS) (k:Nat):mkTo ls k 0=ls:=by simp [mkTo,mkXs]
theorem mkTo_all (ls:List XS) (k:Nat):mkTo ls k ls.length=mkXs ls k:=by simp [mkTo]
theorem mkTo_len (ls:List XS) (k i:Nat):(mkTo ls k i).length=ls.length:=by
 rw [mkTo,List.length_append,mkXs_len,←List.length_append,List.take_append_drop]
theorem mkTo_fb (ls:List XS) (k i:Nat):fb (mkTo ls k i)=fb ls:=by
 rw [mkTo,fb_app,mkXs_fb,←fb_app,List.take_append_drop]
theorem mkTo_get (ls:List XS) (k:Nat) {i:Nat} (h:i < ls.length):(mkTo ls k i).getD i xs0=ls.getD i xs0:=by
 rw [mkTo,List.getD_eq_getElem?_getD,List.getElem?_append_right (by rw [mkXs_len,List.length_take]; omega),mkXs_len,List.length_take,Nat.min_eq_left (by omega),List.getElem?_drop,List.getD_eq_getElem?_getD]
 simp
theorem take_xs {ls:List XS} {i:Nat} (h:i < ls.length):ls.take (i+1)=ls.take i++[ls.getD i xs0]:=by
 rw [List.take_add_one,List.getD_eq_getElem?_getD,List.getElem?_eq_getElem h]
 rfl
theorem mkTo_succ (ls:List XS) (k:Nat) {i:Nat} (h:i < ls.length):mkTo ls k (i+1)=(mkTo ls k i).set i (mkX (ls.getD i xs0) (k+cntX (ls.take i))):=by
 have hl:(mkXs (ls.take i) k).length=i:=by rw [mkXs_len,List.length_take]; omega
 have hd:ls.drop i=ls.getD i xs0 :: ls.drop (i+1):=by
  rw [List.drop_eq_getElem_cons h,List.getD_eq_getElem?_getD,List.getElem?_eq_getElem h]; rfl
 rw [mkTo,mkTo,take_xs h,mkXs_app,List.append_assoc,List.set_append_right _ _ (by omega),hl,Nat.sub_self,hd]
 rfl
theorem cntX_succ {ls:List XS} {i:Nat} (h:i < ls.length):cntX (ls.take (i+1))=cntX (ls.take i)+cntS (ls.getD i xs0).1:=by
 rw [take_xs h,cntX_app]
 simp [cntX,cntSs]
end
section
open Go
def sumL {α:Type} (f:α→Nat):List α→Nat
 | []=>0
 | a :: l=>f a+sumL f l
section
variable {α:Type} {f:α→Nat}
theorem sumL_app:∀l k:List α,sumL f (l++k)=sumL f l+sumL f k
 | [],k=>by simp [sumL]
 | a :: l,k=>by rw [List.cons_append,sumL,sumL,sumL_app l k]; omega
theorem sumL_snoc {l:List α} {i:Nat} (d:α) (h:i < l.length):sumL f (l.take (i+1))=sumL f (l.take i)+f (l.getD i d):=by
 rw [List.take_add_one,List.getElem?_eq_getElem h,sumL_app,List.getD_eq_getElem?_getD,List.getElem?_eq_getElem h]
 simp [sumL]
theorem sumL_part (l:List α) (i:Nat):sumL f (l.take i)≤sumL f l:=by
 conv=>rhs; rw [←List.take_append_drop i l,sumL_app]
 omega
theorem sumL_mem {l:List α} {a:α} (h:a ∈ l):f a≤sumL f l:=by
 induction l with
 | nil=>cases h
 | cons b l ih =>
  rw [sumL]
  rcases List.mem_cons.1 h with rfl | h
  ·omega
  ·have:=ih h; omega
end
def cF (f:Fd):Nat:=f.name.length+f.val.length
def cFs (l:List Fd):Nat:=l.length+sumL cF l
def cS (s:St):Nat:=cFs s.head+s.say.length+cFs s.got+s.text.length
def cSs (l:List St):Nat:=l.length+sumL cS l
def cFr (f:Fr):Nat:=f.body.length
def cFrs (l:List Fr):Nat:=l.length+sumL cFr l
def cE (e:En):Nat:=cFs e.out+cFs e.inn+e.came.length+cSs e.strs+cFrs e.wait
def subN (left:Int) (n:Nat):Int:=if (n:Int)≤left then left - n else -1
theorem subN_in {left:Int} {n:Nat} (h:(n:Int)≤left):subN left n=left - n:=if_pos h
theorem subN_no {left:Int} {n:Nat} (h:¬(n:Int)≤left):subN left n=-1:=if_neg h
theorem cFs_b {l:List Fd} (h:cFs l≤1048576):FdsB l:=by
 unfold cFs at h
 refine ⟨by omega,fun f hf=>?_⟩
 have:=sumL_mem (f:=cF) hf
 have e:cF f=f.name.length+f.val.length:=rfl
 exact ⟨by omega,by omega⟩
theorem cS_b {s:St} (h:cS s≤1048576):StB s:=by
 unfold cS at h
 exact ⟨cFs_b (by omega),cFs_b (by omega),by omega,by omega⟩
theorem cE_b {e:En} (h:cE e≤1048576):EnB e:=by
 unfold cE at h
 have hs:cSs e.strs≤1048576:=by omega
 have hw:cFrs e.wait≤1048576:=by omega
 unfold cSs at hs
 unfold cFrs at hw
 refine ⟨fun s hm=>cS_b ?_,by omega,by omega,cFs_b (by omega),cFs_b (by omega),by omega⟩
 have:=sumL_mem (f:=cS) hm
 omega
theorem cntSs_c:∀l:List St,cntSs l≤10 * l.length+3 * sumL cS l
 | []=>by simp [cntSs]
 | s :: l=>by
  have:=cntSs_c l
  have e1:cntS s=10+3 * s.head.length+3 * s.got.length:=rfl
  have e2:cS s=s.head.length+sumL cF s.head+s.say.length+(s.got.length+sumL cF s.got)+s.text.length:=rfl
  rw [cntSs,sumL,List.length_cons]
  omega
theorem cntE_c (e:En):cntE e≤10 * cE e:=by
 have:=cntSs_c e.strs
 have e1:cntE e=3 * e.out.length+3 * e.inn.length+cntSs e.strs+4 * e.wait.length:=rfl
 have e2:cE e=e.out.length+sumL cF e.out+(e.inn.length+sumL cF e.inn)+e.came.length+(e.strs.length+sumL cS e.strs)+(e.wait.length+sumL cFr e.wait):=rfl
 omega
theorem EnW.few {N:Nat} {e:En} (h:EnW N e):e.strs.length≤7:=by
 have:=stsOk_len h.sts
 omega
theorem size_few:∀l:List Fd,4 * l.length≤fdsSize l
 | []=>by simp
 | f :: l=>by
  have:=size_few l
  simp only [fdsSize,fdSize,List.map_cons,List.sum_cons,List.length_cons] at this ⊢
  omega
theorem tab_few {l:List Fd} {m:Int} (h:tableOk l m=true):l.length≤16:=by
 have:=size_few l
 unfold tableOk at h
 simp only [Bool.and_eq_true,decide_eq_true_eq] at h
 omega
theorem cntE_w {N:Nat} {e:En} (h:EnW N e):cntE e≤1000+4 * N:=by
 have hl:e.strs.length≤7:=h.few
 have h1:e.out.length≤16:=tab_few h.out
 have h2:e.inn.length≤16:=tab_few h.inn
 have h3:=cntSs_le e.strs 6 fun s hs=>by
  obtain ⟨i,hi,rfl⟩:=List.getElem_of_mem hs
  have:=stOk_iff.1 (h.st hi)
  rw [stAt,getD_lt st0 hi] at this
  exact ⟨(headOk_iff.1 this.2.2.1).2,(headOk_iff.1 this.2.2.2.1).2⟩
 have h4:=h.len
 unfold cntE
 omega
theorem cntE_zero:cntE en0=0:=rfl
def pad {α:Type} (d:α) (l:List α) (i:Nat):List α:=l.take i++List.replicate (l.length - i) d
section
variable {α:Type} {d:α} {l:List α} {i:Nat}
theorem pad_zero:pad d l 0=List.replicate l.length d:=by simp [pad]
theorem pad_all:pad d l l.length=l:=by simp [pad]
theorem pad_len (h:i≤l.length):(pad d l i).length=l.length:=by simp [pad]; omega
theorem pad_set (h:i < l.length):(pad d l i).set i (l.getD i d)=pad d l (i+1):=by
 have hl:(l.take i).length=i:=by rw [List.length_take]; omega
 unfold pad
 rw [List.set_append_right _ _ (by omega),hl,Nat.sub_self,show l.length - i=(l.length - (i+1))+1 by omega,List.replicate_succ,List.set_cons_zero,List.take_add_one,List.getElem?_eq_getElem h,List.getD_eq_getElem?_getD,List.getElem?_eq_getElem h,List.append_assoc]
 rfl
theorem app_rep_set {hs:List α} {n:Nat} (x:α) (h:hs.length < n):(hs++List.replicate (n - hs.length) d).set hs.length x=(hs++[x])++List.replicate (n - (hs++[x]).length) d:=by
 rw [List.set_append_right _ _ (Nat.le_refl _),Nat.sub_self,show n - hs.length=(n - (hs.length+1))+1 by omega,List.replicate_succ,List.set_cons_zero,List.length_append]
 simp
end
theorem rep_cells {α:Type} (g:α→List V) (d:α) (zs:List V) (hz:g d=zs):∀n,(List.replicate n zs).flatten=(List.replicate n d).flatMap g
 | 0=>rfl
 | n+1=>by rw [List.replicate_succ,List.flatten_cons,List.replicate_succ,List.flatMap_cons,rep_cells g d zs hz n,hz]
def fdC (f:Fd):List V:=[.str f.name,.str f.val,.bool f.never]
theorem fdC_len (f:Fd):(fdC f).length=3:=rfl
theorem fcs_put {l:List Fd} {i:Nat} (f:Fd) (h:i < l.length):splice (fcs l) (i * 3) (fdC f)=fcs (l.set i f):=fl_set fdC_len f h
theorem xsC_put {ls:List XS} {i:Nat} (x:XS) (h:i < ls.length):splice (xsC ls) (i * 12) (xsF x)=xsC (ls.set i x):=fl_set xsF_len x h
theorem frmsC_put {l:List Fr} {i:Nat} (f:Fr) (h:i < l.length):splice (frmsC l) (i * 4) (frmC f)=frmsC (l.set i f):=fl_set frmC_len f h
end
section
open Go
def mxL:Nat:=9223372036854775807
def ZF (f:Fd):Prop:=f.name.length≤mxL∧f.val.length≤mxL
def ZL {α:Type} (B:α→Prop) (l:List α):Prop:=l.length≤mxL∧∀m ∈ l,B m
def ZFr (f:Fr):Prop:=f.body.length≤mxL
def ZS (s:St):Prop:=ZL ZF s.head∧s.say.length≤mxL∧ZL ZF s.got∧s.text.length≤mxL
def ZE (e:En):Prop:=ZL ZF e.out∧ZL ZF e.inn∧e.came.length≤mxL∧ZL ZS e.strs∧ZL ZFr e.wait
end
section
open Go
inductive BorD (S:List Blk):V→V→Prop
 | one {v v':V}:BorC S v v'→BorD S v v'
 | arr {xs cs:List V} {p sz:Nat}:S[p]?=some (.cells sz cs)→(xs.flatMap V.cells).length=cs.length→(∀(i:Nat) (a b:V),(xs.flatMap V.cells)[i]?=some a→cs[i]?=some b→BorC S a b)→BorD S (.rows none xs) (.heap p xs.length)
inductive BorE (S:List Blk):V→V→Prop
 | one {v v':V}:BorD S v v'→BorE S v v'
 | agg {cs cs':List V}:cs.length=cs'.length→(∀(i:Nat) (a b:V),cs[i]?=some a→cs'[i]?=some b→BorD S a b)→BorE S (.agg cs) (.agg cs')
theorem BorD.vr {G:Gh} {w:World} {S:List Blk} (hR:Rel G w S) {v v':V} {c:Value} (h:BorD S v v') (hv:VR G w v' c):VR (allFrozen G w) w v c:=by
 cases h with
 | one h=>exact h.vr hR hv
 | @arr xs cs p sz hp hl hb =>
  generalize hn:xs.length=n at hv
  cases hv with
  | heapNil h0 =>
   have:xs=[]:=List.length_eq_zero_iff.1 hn
   subst this
   exact .rowsNil (fun τ hτ=>by cases hτ)
  | @heap _ _ cap h0 hk hcap hlim =>
   obtain ⟨arr,ty,f1,f2,f3,f4,f5,f6⟩:=hR.live p _ hp rfl hk
   have hlt:=hR.lt p _ hp rfl hk
   have hlen:(arr.toList.take (xs.flatMap V.cells).length).length=(xs.flatMap V.cells).length:=List.length_take_of_le (by have:arr.toList.length=arr.size:=rfl; omega)
   have hrow:=VR.rows (G:=allFrozen G w) (w:=w) (tok:=none) (xs:=xs) (b:=G.blk p) (off:=0) (cap:=cap) (arr.toList.take (xs.flatMap V.cells).length) hlen.symm
    (fun i v u hv hu=>by
     rw [List.getElem?_take] at hu
     split at hu
     ·have hi:i < cs.length:=by rw [←hl]; exact (List.getElem?_eq_some_iff.1 hv).1
      exact (hb i v _ hv (List.getElem?_eq_getElem hi)).vr hR ((f6 i _ u (List.getElem?_eq_getElem hi) (by simpa using hu)).1)
     ·cases hu)
    (fun u hu=>by
     obtain ⟨i,hi,rfl⟩:=List.getElem_of_mem hu
     have hi':i < cs.length:=by omega
     simp only [List.getElem_take]
     have:=(f6 i _ arr[i] (List.getElem?_eq_getElem hi') (Array.getElem?_eq_getElem (by omega))).2
     simpa using this)
    (fun i u hu=>by
     rw [List.getElem?_take] at hu
     split at hu
     ·rw [cell_blk f1,Nat.zero_add]; simpa using hu
     ·cases hu)
    (by
     rw [hlen,Nat.zero_add]
     unfold allFrozen
     simp only
     rw [if_pos hlt,f1,hl]
     exact Nat.le_trans f4 (Nat.le_max_right _ _))
    (by omega)
    (fun τ hτ=>by cases hτ)
   rw [hn] at hrow
   exact hrow
theorem BorE.vr {G:Gh} {w:World} {S:List Blk} (hR:Rel G w S) {v v':V} {c:Value} (h:BorE S v v') (hv:VR G w v' c):VR (allFrozen G w) w v c:=by
 cases h with
 | one h=>exact h.vr hR hv
 | agg hl h =>
  cases hv with
  | agg hl' hv ho =>
   refine .agg (hl.trans hl') (fun i a u ha hu=>?_) ho
   have hi:i < _:=(List.getElem?_eq_some_iff.1 ha).1
   have hb:=List.getElem?_eq_getElem (show i < _ by rw [←hl]; exact hi)
   exact (h i a _ ha hb).vr hR (hv i _ u hb hu)
def BorM (S:List Blk) (xs ys:List V):Prop:=xs.length=ys.length∧∀(i:Nat) (a b:V),xs[i]?=some a→ys[i]?=some b→BorE S a b
theorem BorM.all {G:Gh} {w:World} {S:List Blk} (hR:Rel G w S) {xs ys:List V} {cs:List Value} (h:BorM S xs ys) (hv:AllR G w ys cs):AllR (allFrozen G w) w xs cs:=by
 refine ⟨h.1.trans hv.1,fun i a u ha hu=>?_⟩
 have hb:=List.getElem?_eq_getElem (show i < ys.length by rw [←h.1]; exact (List.getElem?_eq_some_iff.1 ha).1)
 exact (h.2 i a _ ha hb).vr hR (hv.2 i _ u hb hu)
theorem VCall.borrow2 {P:Program} {f:FuncId} {xs ys:List V} {x:V} {S:List Blk} (hf:Enters P f) (h:∀S,VCall P f xs S fun r S'=>r=x∧S'=S) (hx:Bare x) (hb:BorM S xs ys):VCall P f ys S fun r S'=>r=x∧S'=S:=by
 refine .inl ⟨hf,x,S,⟨rfl,rfl⟩,fun G w cargs hA hR=>?_⟩
 have hA0:=hb.all hR hA
 rcases h [] with ⟨_,r,S',⟨rfl,rfl⟩,hd⟩ | ⟨r,⟨rfl,_⟩,hd⟩
 ·refine Calls.mono (hd _ w cargs hA0 (rel_none hR)) ?_
  rintro e w' ⟨c,G',rfl,hv,hR',hE⟩
  obtain ⟨h1,h2⟩:=still hR hE
  exact ⟨c,G,rfl,Bare.vr hv hx,h1,h2⟩
 ·obtain ⟨c,hc,_⟩:=hd _ w cargs hA0
  exact absurd hc (xcall_no hf cargs w c)
end
section
open Go
def Pw (R:V→V→Prop) (xs ys:List V):Prop:=xs.length=ys.length∧∀(i:Nat) (a b:V),xs[i]?=some a→ys[i]?=some b→R a b
section
variable {R Q:V→V→Prop} {x y:V} {xs ys us vs:List V}
theorem Pw.nil:Pw R [] []:=⟨rfl,fun i a b h=>by simp at h⟩
theorem Pw.cons (h:R x y) (g:Pw R xs ys):Pw R (x :: xs) (y :: ys):=⟨by simp [g.1],fun i a b ha hb=>by
 cases i with
 | zero=>cases ha; cases hb; exact h
 | succ i=>exact g.2 i a b (by simpa using ha) (by simpa using hb)⟩
theorem Pw.app (h:Pw R xs ys) (g:Pw R us vs):Pw R (xs++us) (ys++vs):=⟨by simp [h.1,g.1],fun i a b ha hb=>by
 rcases Nat.lt_or_ge i xs.length with q | q
 ·rw [List.getElem?_append_left q] at ha
  rw [List.getElem?_append_left (by rw [←h.1]; exact q)] at hb
  exact h.2 i a b ha hb
 ·rw [List.getElem?_append_right q] at ha
  rw [List.getElem?_append_right (by rw [←h.1]; exact q),←h.1] at hb
  exact g.2 _ a b ha hb⟩
theorem Pw.mono (h:Pw R xs ys) (hRQ:∀a b,R a b→Q a b):Pw Q xs ys:=⟨h.1,fun i a b ha hb=>hRQ a b (h.2 i a b ha hb)⟩
end
def erC (e:En):List V:=enC (.rows none (e.strs.map stV)) (.rows none (e.wait.map frV)) e
def erV (e:En):V:=.agg (erC e)
@[push_cast] theorem erC_eq (e:En):erC e=enC (.rows none (e.strs.map stV)) (.rows none (e.wait.map frV)) e:=rfl
@[push_cast] theorem erV_eq (e:En):erV e=.agg (erC e):=rfl
def worC (w:Wo):List V:=erC w.caller++erC w.answerer++[.str w.up,.str w.down]
def worV (w:Wo):V:=.agg (worC w)
@[push_cast] theorem worC_eq (w:Wo):worC w=erC w.caller++erC w.answerer++[.str w.up,.str w.down]:=rfl
@[push_cast] theorem worV_eq (w:Wo):worV w=.agg (worC w):=rfl
section
variable {S:List Blk}
theorem st_cells (l:List St):(l.map stV).flatMap V.cells=strsC l:=by rw [List.flatMap_map]; rfl
theorem frm_cells (l:List Fr):(l.map frV).flatMap V.cells=frmsC l:=by rw [List.flatMap_map]; rfl
theorem pw_str {s:St} {vh vg:V} (h:FL S s.head vh) (g:FL S s.got vg):Pw (BorC S) (strC s) (strX s vh vg) :=
 .cons (.same (.int _ _)) (.cons (.same (.int _ _)) (.cons h.bor (.cons (.same (.str _)) (.cons (.same (.bool _)) (.cons (.same (.bool _)) (.cons (.same (.int _ _)) (.cons g.bor (.cons (.same (.str _)) (.cons (.same (.bool _)) (.cons (.same (.int _ _)) (.cons (.same (.int _ _)) .nil)))))))))))
theorem pw_strs:∀{ls:List XS},(∀x ∈ ls,FL S x.1.head x.2.1∧FL S x.1.got x.2.2)→Pw (BorC S) (strsC (ls.map Prod.fst)) (xsC ls)
 | [],_=>.nil
 | x :: ls,h=>(pw_str (h x (List.mem_cons_self ..)).1 (h x (List.mem_cons_self ..)).2).app (pw_strs fun y hy=>h y (List.mem_cons_of_mem _ hy))
theorem pw_frms:∀(l:List Fr),Pw (BorC S) (frmsC l) (frmsC l)
 | []=>.nil
 | f :: l=>(show Pw (BorC S) (frmC f) (frmC f) from .cons (.same (.int _ _)) (.cons (.same (.bool _)) (.cons (.same (.int _ _)) (.cons (.same (.str _)) .nil)))).app (pw_frms l)
theorem EnX.pw {vo vi:V} {b c:Nat} {ls:List XS} {e:En} (h:EnX S vo vi b c ls e):Pw (BorD S) (erC e) (enX vo vi (.heap b e.strs.length) (.heap c e.wait.length) e):=by
 have h1:BorD S (.rows none (e.strs.map stV)) (.heap b e.strs.length):=by
  have:=BorD.arr (S:=S) (xs:=e.strs.map stV) h.hb (by rw [st_cells,←h.strs]; exact (pw_strs h.heads).1) (by rw [st_cells,←h.strs]; exact (pw_strs h.heads).2)
  rwa [List.length_map] at this
 have h2:BorD S (.rows none (e.wait.map frV)) (.heap c e.wait.length):=by
  have:=BorD.arr (S:=S) (xs:=e.wait.map frV) h.hc (by rw [frm_cells]) (by rw [frm_cells]; exact (pw_frms e.wait).2)
  rwa [List.length_map] at this
 exact .cons (.one (.same (.bool _))) (.cons (.one h.out.bor) (.cons (.one (.same (.int _ _))) (.cons (.one h.inn.bor) (.cons (.one (.same (.int _ _))) (.cons (.one (.same (.str _))) (.cons h1 (.cons (.one (.same (.int _ _))) (.cons (.one (.same (.int _ _))) (.cons h2 (.cons (.one (.same (.bool _))) .nil))))))))))
theorem EnX.borE {vo vi:V} {b c:Nat} {ls:List XS} {e:En} (h:EnX S vo vi b c ls e):BorE S (erV e) (xV vo vi b c e):=.agg h.pw.1 h.pw.2
theorem WX.borE {p q:XP} {w:Wo} (h:WX S p q w):BorE S (worV w) (pV p q w):=by
 have hw:=((EnX.pw h.caller).app (EnX.pw h.answerer)).app (us:=[.str w.up,.str w.down]) (vs:=[.str w.up,.str w.down]) (.cons (.one (.same (.str _))) (.cons (.one (.same (.str _))) .nil))
 exact .agg hw.1 hw.2
theorem FL.borE {l:List Fd} {v:V} (h:FL S l v):BorE S (.rows none (l.map fV)) v:=.one (.one h.bor)
theorem borM_of:∀{xs ys:List V},Pw (BorE S) xs ys→BorM S xs ys:=fun h=>h
theorem borE_int (k:IntKind) (n:Int):BorE S (.int k n) (.int k n):=.one (.one (.same (.int _ _)))
end
end
section
open Go
theorem upd_app {S S':List Blk} (h:Upd [] S S'):∃X,S'=S++X:=by
 refine ⟨S'.drop S.length,?_⟩
 apply List.ext_getElem?
 intro j
 rcases Nat.lt_or_ge j S.length with q | q
 ·rw [List.getElem?_append_left q]
  have h1:S[j]?=some S[j]:=List.getElem?_eq_getElem q
  rw [h1]
  exact h.get h1 (by simp)
 ·rw [List.getElem?_append_right q,List.getElem?_drop,show S.length+(j - S.length)=j by omega]
theorem dig_byte (j:Nat):UInt8.ofNat (IntKind.u8.wrap (48+Int.tmod (j:Int) 10)).toNat=UInt8.ofNat (48+j % 10):=by
 have e:Int.tmod (j:Int) 10=((j % 10:Nat):Int):=tmod_nat j 10
 rw [e,u8_fit _ (by omega)]
 congr 1
theorem markText_ok (k:Nat) (hk:k≤100000000) (S:List Blk):VCall Tryz.prog 69 [.int .i64 k] S fun r S'=>r=.str (mtext k)∧S'=S:=by
 refine VCall.en hD Tryz.func69 Tryz.ntmps69 Tryz.results69 ?_
 by_cases h0:(k:Int)≤0
 ·have:k=0:=by omega
  subst this
  simp -implicitDefEqProofs (maxSteps:=1000000) (disch:=omega) only [push_cast,simprocAttr,↓gd]
  exact fin0 (by simp [mtext])
 simp -implicitDefEqProofs (maxSteps:=1000000) (disch:=omega) only [push_cast,simprocAttr,h0,↓gd]
 refine wpV_loop (fun m t S'=>∃(o:List UInt8),m≤k∧t 0=.int .i64 m∧t 3=.str o∧mdig m++o=mdig k∧Upd [] S S') k ⟨[],Nat.le_refl _,rfl,rfl,by simp,Upd.refl _ _⟩ ?_
 rintro j t S' ⟨o,hjk,h0',h3,ho,hu⟩
 have hol:=congrArg List.length ho
 rw [List.length_append] at hol
 have hml:=mdig_len k
 have hmj:=mdig_len j
 have hdb:=dig_byte j
 refine wpV_of0 hD ?_
 by_cases hj:0 < j
 ·have hj':(j:Int) > 0:=by omega
  have hdv:Int.tdiv (j:Int) 10=((j / 10:Nat):Int):=rfl
  have htm0:0≤Int.tmod (j:Int) 10∧Int.tmod (j:Int) 10 < 10:=by
   have e:Int.tmod (j:Int) 10=((j % 10:Nat):Int):=tmod_nat j 10
   omega
  simp -implicitDefEqProofs (maxSteps:=1000000) (disch:=omega) only [push_cast,simprocAttr,h0',h3,hj',hdb,hdv,↓gd]
  repeat refine And.intro (by omega) ?_
  have e10:Int.tmod (j:Int) 10=((j % 10:Nat):Int):=tmod_nat j 10
  refine ⟨j / 10,by omega,UInt8.ofNat (48+j % 10) :: o,by omega,?_,?_,?_,hu.app _⟩
  ·rfl
  ·rw [e10,show ((48:Int)+((j % 10:Nat):Int)).toNat=48+j % 10 by omega]
  ·rw [←ho,mdig_pos hj,List.append_assoc]
   rfl
 ·have:j=0:=by omega
  subst this
  rw [mdig_zero,List.nil_append] at ho
  simp -implicitDefEqProofs (maxSteps:=1000000) (disch:=omega) only [push_cast,simprocAttr,h0',h3,↓gd]
  obtain ⟨X,rfl⟩:=upd_app hu
  have e:mtext k=109 :: mdig k:=by rw [mtext,if_neg (by omega)]
  rw [ho,e]
  exact ⟨by omega,fin1 (.str _) rfl⟩
end
section
open Go
theorem mem_getD {α:Type} (d:α) {l:List α} {i:Nat} (h:i < l.length):l.getD i d ∈ l:=by
 rw [List.getD_eq_getElem?_getD,List.getElem?_eq_getElem h]; exact List.getElem_mem h
theorem getD_frV {l:List Fr} {i:Nat} (h:i < l.length):(l.map frV).getD i .junk=frV (l.getD i fr0):=by
 rw [List.getD_eq_getElem?_getD,List.getElem?_map,List.getElem?_eq_getElem h,List.getD_eq_getElem?_getD,List.getElem?_eq_getElem h]; rfl
theorem getD_stV {l:List St} {i:Nat} (h:i < l.length):(l.map stV).getD i .junk=stV (l.getD i st0):=by
 rw [List.getD_eq_getElem?_getD,List.getElem?_map,List.getElem?_eq_getElem h,List.getD_eq_getElem?_getD,List.getElem?_eq_getElem h]; rfl
@[push_cast] theorem all_frV_len (l:List Fr):(l.map frV).all (lenIs 4)=true:=by
 rw [List.all_eq_true]; intro v hv; obtain ⟨f,_,rfl⟩:=List.mem_map.1 hv; rfl
@[push_cast] theorem all_stV_len (l:List St):(l.map stV).all (lenIs 12)=true:=by
 rw [List.all_eq_true]; intro v hv; obtain ⟨f,_,rfl⟩:=List.mem_map.1 hv; rfl
theorem eqField_self (f:Fd) (hz:True) (S:List Blk):VCall Tryz.prog 95 [fV f,fV f] S fun r S'=>r=.bool true∧S'=S:=by
 refine VCall.en hD Tryz.func95 Tryz.ntmps95 Tryz.results95 ?_
 simp -implicitDefEqProofs (maxSteps:=1000000) (disch:=omega) only [push_cast,simprocAttr,decide_true,Bool.and_self,↓gd]
 exact fin1 (.bool _) rfl
theorem eqFieldS_self (a:List Fd) (hz:∀f ∈ a,True) (ha:a.length≤2000000) (S:List Blk):VCall Tryz.prog 65 [.rows none (a.map fV),.rows none (a.map fV)] S fun r S'=>r=.bool true∧S'=S:=by
 refine VCall.ex hD (fun _=>false) (fun id=>if id=6 then [8,8,8,8,8,8,8,8,10,10] else []) Tryz.func65 Tryz.ntmps65 Tryz.results65 ?_
 simp -implicitDefEqProofs (maxSteps:=1000000) (disch:=omega) only [push_cast,simprocAttr,↓gd]
 refine wpV_loop (fun m t S'=>∃i:Nat,m=a.length - i∧i≤a.length∧t 0=.rows none (a.map fV)∧t 1=.rows none (a.map fV)∧t 5=.int .i64 i∧S'=S) a.length ⟨0,by omega,by omega,rfl,rfl,rfl,rfl⟩ ?_
 rintro m t S' ⟨i,rfl,hi,h0,h1,h5,rfl⟩
 refine wpV_of hD (fun _=>false) (fun id=>if id=6 then [8,8,8,8,8,8,8,8,10,10] else []) (by kernel_rfl) ?_
 by_cases hil:i < a.length
 ·have hil':(i:Int) < a.length:=by omega
  have hg:=getD_fV hil
  have hzz:=hz _ (mem_getD fd0 hil)
  generalize a.getD i fd0=f at *
  simp -implicitDefEqProofs (maxSteps:=1000000) (disch:=omega) only [push_cast,simprocAttr,h0,h1,h5,hil',hg,↓gd]
  repeat refine And.intro (by omega) ?_
  refine ((eqField_self f hzz _).as (by rfl)).to ?_
  simp -implicitDefEqProofs (maxSteps:=1000000) (disch:=omega) only [push_cast,simprocAttr,h0,h1,h5,↓gd]
  exact ⟨a.length - (i+1),by omega,i+1,rfl,by omega,by simp⟩
 ·have:i=a.length:=by omega
  subst this
  have hil':¬((a.length:Nat):Int) < a.length:=by omega
  simp -implicitDefEqProofs (maxSteps:=1000000) (disch:=omega) only [push_cast,simprocAttr,h0,h1,h5,hil',↓gd]
  exact fin0 rfl
theorem eqTable_self (a:List Fd) (m:Int) (ha:a.length≤2000000) (S:List Blk):VCall Tryz.prog 28 [tV a m,tV a m] S fun r S'=>r=.bool true∧S'=S:=by
 refine VCall.en hD Tryz.func28 Tryz.ntmps28 Tryz.results28 ?_
 simp -implicitDefEqProofs (maxSteps:=1000000) (disch:=omega) only [push_cast,simprocAttr,↓gd]
 refine ((eqFieldS_self a (fun _ _=>trivial) ha _).as rfl).to ?_
 simp -implicitDefEqProofs (maxSteps:=1000000) (disch:=omega) only [push_cast,simprocAttr,↓gd]
 exact fin1 (.bool _) rfl
theorem eqFrame_self (f:Fr) (hz:True) (S:List Blk):VCall Tryz.prog 67 [frV f,frV f] S fun r S'=>r=.bool true∧S'=S:=by
 refine VCall.en hD Tryz.func67 Tryz.ntmps67 Tryz.results67 ?_
 simp -implicitDefEqProofs (maxSteps:=1000000) (disch:=omega) only [push_cast,simprocAttr,decide_true,Bool.and_self,↓gd]
 exact fin1 (.bool _) rfl
theorem eqFrameS_self (a:List Fr) (hz:∀f ∈ a,True) (ha:a.length≤2000000) (S:List Blk):VCall Tryz.prog 31 [.rows none (a.map frV),.rows none (a.map frV)] S fun r S'=>r=.bool true∧S'=S:=by
 refine VCall.ex hD (fun _=>false) (fun id=>if id=6 then [8,8,8,8,8,8,8,8,10,10] else []) Tryz.func31 Tryz.ntmps31 Tryz.results31 ?_
 simp -implicitDefEqProofs (maxSteps:=1000000) (disch:=omega) only [push_cast,simprocAttr,↓gd]
 refine wpV_loop (fun m t S'=>∃i:Nat,m=a.length - i∧i≤a.length∧t 0=.rows none (a.map frV)∧t 1=.rows none (a.map frV)∧t 5=.int .i64 i∧S'=S) a.length ⟨0,by omega,by omega,rfl,rfl,rfl,rfl⟩ ?_
 rintro m t S' ⟨i,rfl,hi,h0,h1,h5,rfl⟩
 refine wpV_of hD (fun _=>false) (fun id=>if id=6 then [8,8,8,8,8,8,8,8,10,10] else []) (by kernel_rfl) ?_
 by_cases hil:i < a.length
 ·have hil':(i:Int) < a.length:=by omega
  have hg:=getD_frV hil
  have hzz:=hz _ (mem_getD fr0 hil)
  generalize a.getD i fr0=f at *
  simp -implicitDefEqProofs (maxSteps:=1000000) (disch:=omega) only [push_cast,simprocAttr,h0,h1,h5,hil',hg,↓gd]
  repeat refine And.intro (by omega) ?_
  refine ((eqFrame_self f hzz _).as (by rfl)).to ?_
  simp -implicitDefEqProofs (maxSteps:=1000000) (disch:=omega) only [push_cast,simprocAttr,h0,h1,h5,↓gd]
  exact ⟨a.length - (i+1),by omega,i+1,rfl,by omega,by simp⟩
 ·have:i=a.length:=by omega
  subst this
  have hil':¬((a.length:Nat):Int) < a.length:=by omega
  simp -implicitDefEqProofs (maxSteps:=1000000) (disch:=omega) only [push_cast,simprocAttr,h0,h1,h5,hil',↓gd]
  exact fin0 rfl
theorem eqFlow_self (s q:Int) (S:List Blk):VCall Tryz.prog 30 [.agg [.int .i64 s,.int .i64 q],.agg [.int .i64 s,.int .i64 q]] S fun r S'=>r=.bool true∧S'=S:=by
 refine VCall.en hD Tryz.func30 Tryz.ntmps30 Tryz.results30 ?_
 simp -implicitDefEqProofs (maxSteps:=1000000) (disch:=omega) only [push_cast,simprocAttr,decide_true,Bool.and_self,↓gd]
 exact fin1 (.bool _) rfl
theorem eqStream_self (s:St) (hb:StB s) (S:List Blk):VCall Tryz.prog 66 [stV s,stV s] S fun r S'=>r=.bool true∧S'=S:=by
 have h1:=hb.head.1
 have h2:=hb.got.1
 refine VCall.en hD Tryz.func66 Tryz.ntmps66 Tryz.results66 ?_
 simp -implicitDefEqProofs (maxSteps:=1000000) (disch:=omega) only [push_cast,simprocAttr,decide_true,Bool.and_self,↓gd]
 refine ((eqFieldS_self s.head (fun _ _=>trivial) h1 _).as rfl).to ?_
 simp -implicitDefEqProofs (maxSteps:=1000000) (disch:=omega) only [push_cast,simprocAttr,↓gd]
 refine ((eqFieldS_self s.got (fun _ _=>trivial) h2 _).as rfl).to ?_
 simp -implicitDefEqProofs (maxSteps:=1000000) (disch:=omega) only [push_cast,simprocAttr,↓gd]
 refine ((eqFlow_self s.send s.room _).as rfl).to ?_
 simp -implicitDefEqProofs (maxSteps:=1000000) (disch:=omega) only [push_cast,simprocAttr,↓gd]
 exact fin1 (.bool _) rfl
theorem eqStreamS_self (a:List St) (hz:∀f ∈ a,StB f) (ha:a.length≤2000000) (S:List Blk):VCall Tryz.prog 29 [.rows none (a.map stV),.rows none (a.map stV)] S fun r S'=>r=.bool true∧S'=S:=by
 refine VCall.ex hD (fun _=>false) (fun id=>if id=6 then [8,8,8,8,8,8,8,8,10,10] else []) Tryz.func29 Tryz.ntmps29 Tryz.results29 ?_
 simp -implicitDefEqProofs (maxSteps:=1000000) (disch:=omega) only [push_cast,simprocAttr,↓gd]
 refine wpV_loop (fun m t S'=>∃i:Nat,m=a.length - i∧i≤a.length∧t 0=.rows none (a.map stV)∧t 1=.rows none (a.map stV)∧t 5=.int .i64 i∧S'=S) a.length ⟨0,by omega,by omega,rfl,rfl,rfl,rfl⟩ ?_
 rintro m t S' ⟨i,rfl,hi,h0,h1,h5,rfl⟩
 refine wpV_of hD (fun _=>false) (fun id=>if id=6 then [8,8,8,8,8,8,8,8,10,10] else []) (by kernel_rfl) ?_
 by_cases hil:i < a.length
 ·have hil':(i:Int) < a.length:=by omega
  have hg:=getD_stV hil
  have hzz:=hz _ (mem_getD st0 hil)
  generalize a.getD i st0=f at *
  simp -implicitDefEqProofs (maxSteps:=1000000) (disch:=omega) only [push_cast,simprocAttr,h0,h1,h5,hil',hg,↓gd]
  repeat refine And.intro (by omega) ?_
  refine ((eqStream_self f hzz _).as (by rfl)).to ?_
  simp -implicitDefEqProofs (maxSteps:=1000000) (disch:=omega) only [push_cast,simprocAttr,h0,h1,h5,↓gd]
  exact ⟨a.length - (i+1),by omega,i+1,rfl,by omega,by simp⟩
 ·have:i=a.length:=by omega
  subst this
  have hil':¬((a.length:Nat):Int) < a.length:=by omega
  simp -implicitDefEqProofs (maxSteps:=1000000) (disch:=omega) only [push_cast,simprocAttr,h0,h1,h5,hil',↓gd]
  exact fin0 rfl
theorem eqEnd_self (e:En) (hb:EnB e) (S:List Blk):VCall Tryz.prog 8 [erV e,erV e] S fun r S'=>r=.bool true∧S'=S:=by
 have h1:=hb.out.1
 have h2:=hb.inn.1
 have h3:=hb.len
 have h4:=hb.wait
 refine VCall.en hD Tryz.func8 Tryz.ntmps8 Tryz.results8 ?_
 simp -implicitDefEqProofs (maxSteps:=1000000) (disch:=omega) only [push_cast,simprocAttr,decide_true,Bool.and_self,↓gd]
 refine ((eqTable_self e.out e.outM h1 _).as rfl).to ?_
 simp -implicitDefEqProofs (maxSteps:=1000000) (disch:=omega) only [push_cast,simprocAttr,↓gd]
 refine ((eqTable_self e.inn e.innM h2 _).as rfl).to ?_
 simp -implicitDefEqProofs (maxSteps:=1000000) (disch:=omega) only [push_cast,simprocAttr,↓gd]
 refine ((eqStreamS_self e.strs hb.sts (by omega) _).as rfl).to ?_
 simp -implicitDefEqProofs (maxSteps:=1000000) (disch:=omega) only [push_cast,simprocAttr,↓gd]
 refine ((eqFlow_self e.send e.room _).as rfl).to ?_
 simp -implicitDefEqProofs (maxSteps:=1000000) (disch:=omega) only [push_cast,simprocAttr,↓gd]
 refine ((eqFrameS_self e.wait (fun _ _=>trivial) (by omega) _).as rfl).to ?_
 simp -implicitDefEqProofs (maxSteps:=1000000) (disch:=omega) only [push_cast,simprocAttr,↓gd]
 exact fin1 (.bool _) rfl
end
end Go.Proofs.YtldogccmhncnoaaGreat
