/- A part of the proof: contracts of functions, or plain facts on which these lean. -/
import Derived.Test.YtldogccmhncnoaaMp12
import Derived.Test.YtldogccmhncnoaaMp13
import Derived.Test.YtldogccmhncnoaaMp14
namespace Go.Proofs.Ytldogccmhncnoaa
open Go
set_option linter.unusedVariables false
set_option linter.unusedSimpArgs false
set_option maxRecDepth 100000
set_option maxHeartbeats 16000000

section
open Go
inductive Bare:V→Prop
 | int (k:IntKind) (n:Int):Bare (.int k n)
 | bool (b:Bool):Bare (.bool b)
 | str (s:List UInt8):Bare (.str s)
 | agg {cs:List V}:(∀v ∈ cs,Bare v)→Bare (.agg cs)
 | tup {cs:List V}:(∀v ∈ cs,Bare v)→Bare (.tup cs)
theorem Bare.vr {G G':Gh} {w w':World} {v:V} {c:Value} (hv:VR G w v c):Bare v→VR G' w' v c:=by
 induction hv with
 | int k n=>exact fun _=>.int k n
 | bool b=>exact fun _=>.bool b
 | str s=>exact fun _=>.str s
 | agg hl _ ho ih=>intro h; cases h with | agg h=>exact .agg hl (fun i v u hv hu=>ih i v u hv hu (h v (List.mem_of_getElem? hv))) ho
 | tup hl _ ih=>intro h; cases h with | tup h=>exact .tup hl (fun i v u hv hu=>ih i v u hv hu (h v (List.mem_of_getElem? hv)))
 | _=>intro h; cases h
inductive BorC (S:List Blk):V→V→Prop
 | same {v:V}:Cl 0 v→BorC S v v
 | arr {xs:List V} {p sz:Nat}:S[p]?=some (.cells sz (xs.flatMap V.cells))→(∀u ∈ xs.flatMap V.cells,Bare u)→BorC S (.rows none xs) (.heap p xs.length)
inductive Bor (S:List Blk):V→V→Prop
 | one {v v':V}:BorC S v v'→Bor S v v'
 | agg {cs cs':List V}:cs.length=cs'.length→(∀(i:Nat) (a b:V),cs[i]?=some a→cs'[i]?=some b→BorC S a b)→Bor S (.agg cs) (.agg cs')
def allFrozen (G:Gh) (w:World):Gh:={ G with n:=0,p:=fun b=>if b < w.heap.size then max (G.p b) (match w.heap[b]? with | some (.cells arr _ _)=>arr.size | _=>0) else 0 }
theorem allFrozen_ext {G:Gh} {w:World} {S:List Blk} (hR:Rel G w S):Ext (G.cut 0) w (allFrozen G w) w:=by
 refine ⟨Nat.le_refl _,fun j hj=>absurd hj (Nat.not_lt_zero _),fun b=>?_,fun _ _ _=>rfl⟩
 show G.p b≤_
 unfold allFrozen
 simp only
 split
 ·exact Nat.le_max_left _ _
 ·rename_i h
  rw [hR.fresh b (by omega)]
  exact Nat.zero_le _
theorem BorC.vr {G:Gh} {w:World} {S:List Blk} (hR:Rel G w S) {v v':V} {c:Value} (h:BorC S v v') (hv:VR G w v' c):VR (allFrozen G w) w v c:=by
 cases h with
 | same hc=>exact (VR.cut (G':=G.cut 0) hv (fun j hj=>⟨rfl,rfl,rfl,rfl,rfl⟩) rfl hc).ext (allFrozen_ext hR)
 | @arr xs p sz hp hb =>
  generalize hn:xs.length=n at hv
  cases hv with
  | heapNil h0 =>
   have:xs=[]:=List.length_eq_zero_iff.1 hn
   subst this
   exact .rowsNil (fun τ hτ=>by cases hτ)
  | @heap _ _ cap h0 hk hcap hlim =>
   obtain ⟨arr,ty,f1,f2,f3,f4,f5,f6⟩:=hR.live p _ hp rfl hk
   have hlt:=hR.lt p _ hp rfl hk
   have hlen:(arr.toList.take (xs.flatMap V.cells).length).length=(xs.flatMap V.cells).length:=List.length_take_of_le (by have:arr.toList.length=arr.size:=rfl; omega)
   have hrow:=VR.rows (G:=allFrozen G w) (w:=w) (tok:=none) (xs:=xs) (b:=G.blk p) (off:=0) (cap:=cap) (arr.toList.take (xs.flatMap V.cells).length) hlen.symm
    (fun i v u hv hu=>by
     rw [List.getElem?_take] at hu
     split at hu
     ·exact Bare.vr ((f6 i v u hv (by simpa using hu)).1) (hb v (List.mem_of_getElem? hv))
     ·cases hu)
    (fun u hu=>by
     obtain ⟨i,hi,rfl⟩:=List.getElem_of_mem hu
     have hi':i < (xs.flatMap V.cells).length:=by omega
     simp only [List.getElem_take]
     have:=(f6 i _ arr[i] (List.getElem?_eq_getElem hi') (Array.getElem?_eq_getElem (by omega))).2
     simpa using this)
    (fun i u hu=>by
     rw [List.getElem?_take] at hu
     split at hu
     ·rw [cell_blk f1,Nat.zero_add]; simpa using hu
     ·cases hu)
    (by
     rw [hlen,Nat.zero_add]
     unfold allFrozen
     simp only
     rw [if_pos hlt,f1]
     exact Nat.le_trans f4 (Nat.le_max_right _ _))
    (by omega)
    (fun τ hτ=>by cases hτ)
   rw [hn] at hrow
   exact hrow
theorem Bor.vr {G:Gh} {w:World} {S:List Blk} (hR:Rel G w S) {v v':V} {c:Value} (h:Bor S v v') (hv:VR G w v' c):VR (allFrozen G w) w v c:=by
 cases h with
 | one h=>exact h.vr hR hv
 | agg hl h =>
  cases hv with
  | agg hl' hv ho =>
   refine .agg (hl.trans hl') (fun i a u ha hu=>?_) ho
   have hi:i < _:=(List.getElem?_eq_some_iff.1 ha).1
   have hb:=List.getElem?_eq_getElem (show i < _ by rw [←hl]; exact hi)
   exact (h i a _ ha hb).vr hR (hv i _ u hb hu)
theorem xcall_no {P:Program} {f:FuncId} (h:Enters P f) (cargs:Array Value) (w:World) (c:Value):(callFunc f cargs).run P w≠.ok (.value c) w:=by
 obtain ⟨fn,hfn,hbody,hname⟩:=h
 intro hr
 simp [callFunc,hfn,hbody,hname] at hr
 have hne:¬fn.name= "runtime.NumGoroutine":=by simpa using hname
 simp [hne] at hr
 split at hr
 ·rename_i hb; rw [hb] at hbody; cases hbody
 ·cases hr
def BorL (S:List Blk) (asV bs:List V):Prop:=asV.length=bs.length∧∀(i:Nat) (a b:V),asV[i]?=some a→bs[i]?=some b→Bor S a b
theorem BorL.all {G:Gh} {w:World} {S:List Blk} (hR:Rel G w S) {asV bs:List V} {cs:List Value} (h:BorL S asV bs) (hv:AllR G w bs cs):AllR (allFrozen G w) w asV cs:=by
 refine ⟨h.1.trans hv.1,fun i a u ha hu=>?_⟩
 have hb:=List.getElem?_eq_getElem (show i < bs.length by rw [←h.1]; exact (List.getElem?_eq_some_iff.1 ha).1)
 exact (h.2 i a _ ha hb).vr hR (hv.2 i _ u hb hu)
theorem rel_none {G:Gh} {w:World} {S:List Blk} (hR:Rel G w S):Rel (allFrozen G w) w []:=by
 refine ⟨rfl,fun b hb=>?_,fun j B h=>by simp at h,fun j B h=>by simp at h,fun j sz cs h=>by simp at h,fun i j B C h=>by simp at h⟩
 unfold allFrozen
 simp only
 rw [if_neg (by omega)]
theorem still {G:Gh} {w w':World} {S:List Blk} (hR:Rel G w S) {G0 G':Gh} {S':List Blk} (hE:Evol G0 w [] G' w' S'):Rel G w' S∧Evol G w S G w' S:=by
 have hno:∀b,¬Owns G0 [] b:=by rintro b ⟨j,B,h,_⟩; simp at h
 have hheap:∀b,b < w.heap.size→w'.heap[b]?=w.heap[b]?:=fun b hb=>hE.other b hb (hno b)
 have hext:Ext G w G w':=by
  refine ⟨Nat.le_refl _,fun _ _=>⟨rfl,rfl,rfl,rfl,rfl⟩,fun _=>Nat.le_refl _,fun b o ho=>cell_same (hheap b ?_) o⟩
  rcases Nat.lt_or_ge b w.heap.size with g | g
  ·exact g
  ·rw [hR.fresh b g] at ho; exact absurd ho (Nat.not_lt_zero _)
 refine ⟨⟨hR.n,fun b hb=>hR.fresh b (Nat.le_trans hE.size hb),fun j B hj hl hk=>Nat.lt_of_lt_of_le (hR.lt j B hj hl hk) hE.size,fun j B hj hl hk=>?_,hR.vac,hR.inj⟩,⟨hext,hE.size,hE.os,hE.tape,hE.output,fun b hb _=>hheap b hb,fun b hb h=>h,fun _ _ _=>rfl⟩⟩
 exact (hR.live j B hj hl hk).keep hext (hR.get_lt hj) rfl (hheap _ (hR.lt j B hj hl hk))
end
section
open Go
def tailR:Nat→List UInt8→Option (Nat × Nat)
 | 0,_=>none
 | _+1,[]=>none
 | k+1,c :: r=>if c.toNat < 128 then some (c.toNat,1) else match tailR k r with
  | some (v,n)=>some (c.toNat % 128+128 * v,n+1)
  | none=>none
def numR (b:List UInt8) (bits:Nat):Option (Nat × Nat) :=
 match b with
 | []=>none
 | c :: r=>if c.toNat % 2 ^ bits < 2 ^ bits - 1 then some (c.toNat % 2 ^ bits,1) else match tailR 3 r with
  | some (v,n)=>if 2 ^ bits - 1+v≤9999∧numTail v=r.take n then some (2 ^ bits - 1+v,n+1) else none
  | none=>none
theorem tailR_bound:∀(k:Nat) (r:List UInt8) (v n:Nat),tailR k r=some (v,n)→v < 128 ^ k∧n≤k∧n≤r.length∧1≤n
 | 0,_,v,n,h=>by simp [tailR] at h
 | k+1,[],v,n,h=>by simp [tailR] at h
 | k+1,c :: r,v,n,h=>by
  rw [tailR] at h
  split at h
  ·simp only [Option.some.injEq,Prod.mk.injEq] at h
   obtain ⟨rfl,rfl⟩:=h
   have:0 < 128 ^ k:=Nat.pow_pos (by decide)
   rw [Nat.pow_succ]
   refine ⟨by omega,by omega,by simp,by omega⟩
  ·split at h
   ·rename_i v' n' h'
    simp only [Option.some.injEq,Prod.mk.injEq] at h
    obtain ⟨rfl,rfl⟩:=h
    obtain ⟨h1,h2,h3,h4⟩:=tailR_bound k r v' n' h'
    rw [Nat.pow_succ]
    refine ⟨by omega,by omega,by simpa using h3,by omega⟩
   ·cases h
theorem numR_bound {b:List UInt8} {bits v n:Nat} (hb:bits≤7) (h:numR b bits=some (v,n)):v≤9999∧1≤n∧n≤4∧n≤b.length:=by
 have hp:2 ^ bits≤2 ^ 7:=Nat.pow_le_pow_right (by omega) hb
 unfold numR at h
 split at h
 ·cases h
 ·rename_i c r
  split at h
  ·simp only [Option.some.injEq,Prod.mk.injEq] at h
   obtain ⟨rfl,rfl⟩:=h
   refine ⟨by omega,by omega,by omega,by simp⟩
  ·split at h
   ·rename_i v' n' h'
    split at h
    ·rename_i hc
     simp only [Option.some.injEq,Prod.mk.injEq] at h
     obtain ⟨rfl,rfl⟩:=h
     obtain ⟨h1,h2,h3,h4⟩:=tailR_bound 3 r v' n' h'
     refine ⟨hc.1,by omega,by omega,by simpa using h3⟩
    ·cases h
   ·cases h
theorem by8_toNat {n:Nat} (h:n < 256):(by8 n).toNat=n:=by simp [by8]; omega
end
section
open Go
def signOf (n:Nat):UInt8:=signs.getD n 0
def unB:Nat→List Nat→List UInt8 × List Nat
 | 0,l=>([],l)
 | k+1,l =>
  if l.length < 5 then ([],l) else
  if numOf (l.take 5) < 24 then (signOf (numOf (l.take 5)) :: (unB k (l.drop 5)).1,(unB k (l.drop 5)).2) else
  if l.length < 7 then ([],l) else
  if 39≤numOf (l.take 7) - 72 then ([],l) else (signOf (numOf (l.take 7) - 72) :: (unB k (l.drop 7)).1,(unB k (l.drop 7)).2)
def bitsB (b:List UInt8):List Nat:=b.flatMap fun c=>bitsOf c.toNat 8
def unO (b:List UInt8):List UInt8:=(unB (bitsB b).length (bitsB b)).1
def unL (b:List UInt8):List Nat:=(unB (bitsB b).length (bitsB b)).2
def unOk (b:List UInt8):Bool:=(unL b).all (fun x=>decide (x=1)) && decide ((unL b).length < 8) && decide ((unO b).length≤16)
def unpackM (b:List UInt8):Option (List UInt8):=if b.length≤16 then (if unOk b then some (unO b) else none) else none
theorem numOf_bitsOf (n k:Nat):numOf (bitsOf n k)=n % 2 ^ k:=by
 induction k generalizing n with
 | zero=>simp [bitsOf,numOf,Nat.mod_one]
 | succ k ih =>
  rw [bitsOf,numOf_append,ih]
  rw [Nat.pow_succ,Nat.mul_comm (2 ^ k) 2,Nat.mod_mul]
  omega
theorem bitsOf_numOf':∀(n:Nat) (l:List Nat),l.length=n→(∀b ∈ l,b≤1)→bitsOf (numOf l) n=l
 | 0,l,h,_=>by
  have:l=[]:=List.length_eq_zero_iff.1 h
  subst this
  rfl
 | n+1,l,h,hb=>by
  have hne:l≠[]:=fun e=>by subst e; simp at h
  have hdl:l.dropLast++[l.getLast hne]=l:=List.dropLast_concat_getLast hne
  have ha:=hb (l.getLast hne) (List.getLast_mem hne)
  have ih:=bitsOf_numOf' n l.dropLast (by simp; omega) (fun b hx=>hb b (List.dropLast_subset _ hx))
  conv=>{ lhs; rw [←hdl] }
  rw [numOf_append,bitsOf,show (2 * numOf l.dropLast+l.getLast hne) / 2=numOf l.dropLast by omega,show (2 * numOf l.dropLast+l.getLast hne) % 2=l.getLast hne by omega,ih,hdl]
theorem bitsOf_numOf (l:List Nat) (h:∀b ∈ l,b≤1):bitsOf (numOf l) l.length=l:=bitsOf_numOf' _ l rfl h
theorem bitsB_len (b:List UInt8):(bitsB b).length=8 * b.length:=by
 induction b with
 | nil=>rfl
 | cons c b ih=>simp only [bitsB,List.flatMap_cons,List.length_append,bitsOf_len,List.length_cons] at ih ⊢; omega
theorem bitsB_le (b:List UInt8):∀x ∈ bitsB b,x≤1:=fun x hx=>by
 obtain ⟨c,_,hc⟩:=List.mem_flatMap.1 hx
 exact bitsOf_le _ _ x hc
theorem bytes8_bitsB (b:List UInt8):bytes8 (bitsB b)=b:=by
 induction b with
 | nil=>rw [bytes8_end (by simp [bitsB])]
 | cons c b ih =>
  have e:bitsB (c :: b)=bitsOf c.toNat 8++bitsB b:=rfl
  rw [e,bytes8_step (by simp [bitsOf_len])]
  rw [List.take_left' (bitsOf_len _ _),List.drop_left' (bitsOf_len _ _),ih,numOf_bitsOf]
  congr 1
  have:=c.toNat_lt
  rw [Nat.mod_eq_of_lt (by omega)]
  simp [by8]
theorem bitsB_bytes8:∀(n:Nat) (l:List Nat),l.length=8 * n→(∀b ∈ l,b≤1)→bitsB (bytes8 l)=l
 | 0,l,h,_=>by rw [bytes8_end (by omega)]; have:l=[]:=List.length_eq_zero_iff.1 (by omega); rw [this]; rfl
 | n+1,l,h,hb=>by
  rw [bytes8_step (by omega)]
  have hl8:(l.take 8).length=8:=by simp; omega
  have h8b:∀b ∈ l.take 8,b≤1:=fun b hx=>hb b (List.mem_of_mem_take hx)
  have hlt:=numOf_lt (l.take 8) h8b
  rw [hl8] at hlt
  have ih:=bitsB_bytes8 n (l.drop 8) (by simp; omega) (fun b hx=>hb b (List.mem_of_mem_drop hx))
  show bitsOf (by8 (numOf (l.take 8))).toNat 8++bitsB (bytes8 (l.drop 8))=l
  rw [ih,by8_toNat hlt]
  have:=bitsOf_numOf (l.take 8) h8b
  rw [hl8] at this
  rw [this,List.take_append_drop]
theorem sign_at:∀v,v < 39→signAt (signOf v)=v:=by decide
theorem codeOf_sign {v:Nat} (h:v < 39):codeOf (signOf v)=if v < 24 then bitsOf v 5 else bitsOf (72+v) 7:=by
 unfold codeOf
 rw [sign_at v h]
 by_cases g:v < 24
 ·rw [if_pos g,if_pos (by omega)]; rfl
 ·rw [if_neg g,if_neg (by omega)]; rfl
theorem unB_codes:∀(k:Nat) (l:List Nat),(∀b ∈ l,b≤1)→l=(unB k l).1.flatMap codeOf++(unB k l).2∧∀c ∈ (unB k l).1,0≤signAt c
 | 0,l,_=>by simp [unB]
 | k+1,l,hb=>by
  rw [unB]
  split
  ·simp
  ·rename_i h5
   have hl5:(l.take 5).length=5:=by simp; omega
   have hb5:∀b ∈ l.take 5,b≤1:=fun b hx=>hb b (List.mem_of_mem_take hx)
   have e5:=bitsOf_numOf (l.take 5) hb5
   rw [hl5] at e5
   split
   ·rename_i h24
    obtain ⟨i1,i2⟩:=unB_codes k (l.drop 5) (fun b hx=>hb b (List.mem_of_mem_drop hx))
    refine ⟨?_,?_⟩
    ·rw [List.flatMap_cons,codeOf_sign (by omega),if_pos h24,e5,List.append_assoc,←i1,List.take_append_drop]
    ·intro c hc
     rcases List.mem_cons.1 hc with rfl | hc
     ·rw [sign_at _ (by omega)]; omega
     ·exact i2 c hc
   ·rename_i h24
    split
    ·simp
    ·rename_i h7
     have hl7:(l.take 7).length=7:=by simp; omega
     have hb7:∀b ∈ l.take 7,b≤1:=fun b hx=>hb b (List.mem_of_mem_take hx)
     have e7:=bitsOf_numOf (l.take 7) hb7
     rw [hl7] at e7
     have h96:96≤numOf (l.take 7):=by
      have e:l.take 7=l.take 5++(l.drop 5).take 2:=by rw [←List.take_add]
      obtain ⟨x,y,hxy⟩:∃x y,(l.drop 5).take 2=[x,y]:=by
       match hq:(l.drop 5).take 2 with
       | [x,y]=>exact ⟨x,y,rfl⟩
       | []=>have:=congrArg List.length hq; simp at this; omega
       | [x]=>have:=congrArg List.length hq; simp at this; omega
       | x :: y :: z :: r=>have:=congrArg List.length hq; simp at this; omega
      rw [e,hxy,show l.take 5++[x,y]=(l.take 5++[x])++[y] by simp,numOf_append,numOf_append]
      omega
     split
     ·simp
     ·rename_i h39
      obtain ⟨i1,i2⟩:=unB_codes k (l.drop 7) (fun b hx=>hb b (List.mem_of_mem_drop hx))
      refine ⟨?_,?_⟩
      ·rw [List.flatMap_cons,codeOf_sign (by omega),if_neg (by omega),show 72+(numOf (l.take 7) - 72)=numOf (l.take 7) by omega,e7,List.append_assoc,←i1,List.take_append_drop]
      ·intro c hc
       rcases List.mem_cons.1 hc with rfl | hc
       ·rw [sign_at _ (by omega)]; omega
       ·exact i2 c hc
theorem un_bits (b:List UInt8):bitsB b=(unO b).flatMap codeOf++unL b:=(unB_codes _ _ (bitsB_le b)).1
theorem un_signs (b:List UInt8):∀c ∈ unO b,0≤signAt c:=(unB_codes _ _ (bitsB_le b)).2
theorem pad8_len (l:List Nat):(pad8 l).length % 8=0:=by simp [pad8]; omega
theorem pad8_le {l:List Nat} (h:∀b ∈ l,b≤1):∀b ∈ pad8 l,b≤1:=by
 intro b hb
 simp only [pad8,List.mem_append] at hb
 rcases hb with hb | hb
 ·exact h b hb
 ·rw [(List.mem_replicate.1 hb).2]; exact Nat.le_refl _
theorem codes_le (w:List UInt8):∀b ∈ w.flatMap codeOf,b≤1:=fun b hb=>by
 obtain ⟨c,_,hc⟩:=List.mem_flatMap.1 hb
 exact codeOf_le c b hc
theorem bitsB_pack (w:List UInt8):bitsB (pack w)=pad8 (w.flatMap codeOf):=by
 have h:=pad8_len (w.flatMap codeOf)
 exact bitsB_bytes8 ((pad8 (w.flatMap codeOf)).length / 8) _ (by omega) (pad8_le (codes_le w))
theorem un_pack (b:List UInt8):pack (unO b)=b↔((unL b).all (fun x=>decide (x=1))=true∧(unL b).length < 8):=by
 have h1:=un_bits b
 have h2:=bitsB_len b
 rw [h1,List.length_append] at h2
 constructor
 ·intro h
  have h3:=bitsB_pack (unO b)
  rw [h,h1,pad8] at h3
  have h4:=List.append_cancel_left h3
  rw [h4]
  refine ⟨?_,by rw [List.length_replicate]; omega⟩
  rw [List.all_eq_true]
  intro x hx
  simpa using (List.mem_replicate.1 hx).2
 ·rintro ⟨h3,h4⟩
  have h5:unL b=List.replicate (unL b).length 1:=by
   rw [List.eq_replicate_iff]
   refine ⟨rfl,fun x hx=>?_⟩
   simpa using List.all_eq_true.1 h3 x hx
  have h6:pad8 ((unO b).flatMap codeOf)=bitsB b:=by
   rw [h1,pad8]
   congr 1
   conv=>{ rhs; rw [h5] }
   congr 1
   omega
  rw [pack,h6,bytes8_bitsB]
end
section
open Go
def nrV:Option (Nat × Nat)→V
 | some (v,n)=>.tup [.int .i64 v,.int .i64 n,.bool true]
 | none=>.tup [.int .i64 0,.int .i64 0,.bool false]
theorem and_p {x p bits:Nat} (hp:p=2 ^ bits) (hb:bits≤8) (hx:x < 256):intBits .and .i64 (x:Int) (1 * (p:Int) - 1)=((x % p:Nat):Int):=by
 have hp1:1≤p:=by rw [hp]; exact Nat.one_le_two_pow
 have hp2:p≤2 ^ 8:=by rw [hp]; exact Nat.pow_le_pow_right (by omega) hb
 rw [show (1 * (p:Int) - 1)=((p - 1:Nat):Int) by omega,and_nat (by omega) (by omega),hp,Nat.and_two_pow_sub_one_eq_mod]
theorem NumRead_ok (b:List UInt8) (bits:Nat) (hb:3≤bits∧bits≤7) (hl:b.length≤1000000000) (S:List Blk) :
  VCall Try.prog 35 [.str b,.int .i64 bits] S fun r S'=>r=nrV (numR b bits)∧S'=S:=by
 cases b with
 | nil =>
  refine VCall.ex hD (fun _=>false) (fun id=>if id=13 then [7,7,7,7,7,7,7,12,12,12,12,12] else []) Try.func35 Try.ntmps35 Try.results35 ?_
  simp -implicitDefEqProofs (disch:=omega) only [push_cast,simprocAttr,↓gd]
  exact fin0 rfl
 | cons c r =>
  obtain ⟨p,hp⟩:∃p,p=2 ^ bits:=⟨_,rfl⟩
  have hp2:p≤2 ^ 7:=by rw [hp]; exact Nat.pow_le_pow_right (by omega) (by omega)
  have hp1:2≤p:=by rw [hp,show bits=(bits - 1)+1 by omega,Nat.pow_succ]; have:=Nat.one_le_two_pow (n:=bits - 1); omega
  have e2:(2:Int) ^ min bits 64=p:=by rw [hp,show min bits 64=bits by omega]; simp
  have hc:=c.toNat_lt
  have hw:IntKind.i64.wrap (c.toNat:Int)=c.toNat:=i64_fit _ (by omega)
  have ea:=and_p (x:=c.toNat) hp (by omega) (by omega)
  obtain ⟨m,hm⟩:∃m,m=c.toNat % p:=⟨_,rfl⟩
  obtain ⟨h,hh⟩:∃h,h=c.toNat / p:=⟨_,rfl⟩
  rw [←hm] at ea
  have hmp:m < p:=by rw [hm]; exact Nat.mod_lt _ (by omega)
  have hcm:h * p+m=c.toNat:=by rw [hh,hm,Nat.mul_comm]; exact Nat.div_add_mod _ _
  have hfd:Int.fdiv (c.toNat:Int) (p:Int)=(h:Int):=by
   rw [hh,Int.fdiv_eq_ediv_of_nonneg _ (Int.natCast_nonneg _)]; rfl
  have h0:(c :: r).getD 0 0=c:=rfl
  have hne:(c :: r=[])=False:=by simp
  have hl':r.length≤1000000000:=by simp at hl; omega
  have hh8:h < 2 ^ (8 - bits):=by
   rw [hh,Nat.div_lt_iff_lt_mul (by omega),hp,←Nat.pow_add,show 8 - bits+bits=8 by omega]; omega
  have hh256:h≤256:=by rw [hh]; exact Nat.le_trans (Nat.div_le_self _ _) (by omega)
  refine VCall.ex hD (fun _=>false) (fun id=>if id=13 then [7,7,7,7,7,7,7,12,12,12,12,12] else []) Try.func35 Try.ntmps35 Try.results35 ?_
  simp -implicitDefEqProofs (disch:=omega) only [push_cast,simprocAttr,hne,h0,↓gd]
  refine (in_t (by omega) _).to ?_
  simp -implicitDefEqProofs (disch:=omega) only [push_cast,simprocAttr,hne,h0,e2,hw,ea,↓gd]
  refine ⟨by omega,by omega,fun hmt=>?_,fun hmt=>?_⟩
  ·have hmp2:m=p - 1:=by omega
   have hex:∀v k:Nat,tailR 3 r=some (v,k)→(if 0≤((p - 1+v:Nat):Int)∧((p - 1+v:Nat):Int)≤9999∧h < 2 ^ (8 - bits) then numW ((p - 1+v:Nat):Int).toNat bits h else [])=(if p - 1+v≤9999 then c :: numTail v else []):=by
    intro v k _
    by_cases g:p - 1+v≤9999
    ·rw [if_pos ⟨by omega,by omega,hh8⟩,if_pos g,Int.toNat_natCast,numW,←hp,if_neg (by omega),show h * p+(p - 1)=c.toNat by omega,Nat.add_sub_cancel_left]
     simp [by8]
    ·rw [if_neg (by omega),if_neg g]
   have hnr:∀v k:Nat,tailR 3 r=some (v,k)→numR (c :: r) bits=if p - 1+v≤9999∧numTail v=r.take k then some (p - 1+v,k+1) else none:=by
    intro v k ht
    rw [numR,←hp,←hm,if_neg (by omega),ht]
   have hnn:tailR 3 r=none→numR (c :: r) bits=none:=by
    intro ht
    rw [numR,←hp,←hm,if_neg (by omega),ht]
   refine wpV_loop (fun x t S'=>∃k s z w q acc:Nat,x=3 - k∧k≤3∧k≤r.length∧s=7 * k∧z=1+k∧q=128 ^ k∧w=p - 1+acc∧acc < q∧tailR 3 r=(tailR (3 - k) (r.drop k)).map (fun y=>(acc+q * y.1,k+y.2))∧t 0=.str (c :: r)∧t 1=.int .i64 bits∧t 8=.int .i64 w∧t 9=.int .i64 z∧t 10=.int .i64 s∧S'=S) 3
    ⟨0,0,1,p - 1,1,0,rfl,by omega,by omega,rfl,rfl,rfl,rfl,by omega,by simp,rfl,rfl,?_,rfl,rfl,rfl⟩ ?_
   ·simp only [putT]
    simp
    omega
   rintro x t S' ⟨k,s,z,w,q,acc,rfl,hk3,hkr,hs,hz,hq,hw',hacc,htr,h0',h1,h8,h9,h10,rfl⟩
   have hq3:q≤2097152:=by rw [hq]; exact Nat.pow_le_pow_right (by decide) hk3
   refine wpV_of hD (fun _=>false) (fun id=>if id=13 then [7,7,7,7,7,7,7,12,12,12,12,12] else []) (by kernel_rfl) ?_
   by_cases hlast:k=r.length
   ·have htn:tailR 3 r=none:=by
     rw [htr,hlast,List.drop_length]
     cases hx:3 - r.length <;> rfl
    have hz':(z:Int)=(r.length:Int)+1:=by omega
    simp -implicitDefEqProofs (disch:=omega) only [push_cast,simprocAttr,h0',h1,h8,h9,h10,hz',↓gd]
    exact fin0 (by rw [hnn htn]; rfl)
   have hz':¬(z:Int)=(r.length:Int)+1:=by omega
   by_cases h3:k=3
   ·have htn:tailR 3 r=none:=by rw [htr,h3]; rfl
    have hs':(s:Int) > 14:=by omega
    simp -implicitDefEqProofs (disch:=omega) only [push_cast,simprocAttr,h0',h1,h8,h9,h10,hz',hs',↓gd]
    exact fin0 (by rw [hnn htn]; rfl)
   have hs':¬(s:Int) > 14:=by omega
   obtain ⟨d,hd⟩:∃d,d=r.getD k 0:=⟨_,rfl⟩
   have hzd:(c :: r).getD z 0=d:=by rw [hz,Nat.add_comm,hd]; rfl
   have hdl:=d.toNat_lt
   have hdw:IntKind.i64.wrap (d.toNat:Int)=d.toNat:=i64_fit _ (by omega)
   have hda:=and127 d.toNat (by omega)
   obtain ⟨u,hu⟩:∃u,u=d.toNat % 128:=⟨_,rfl⟩
   rw [←hu] at hda
   have hq2:q≤16384:=by rw [hq]; exact Nat.pow_le_pow_right (by decide) (by omega:k≤2)
   have hsh:(2:Int) ^ min s 64=q:=by
    rw [hs,show min (7 * k) 64=7 * k by omega,Int.pow_mul,hq]
    simp
   obtain ⟨g,hg⟩:∃g,g=u * q:=⟨_,rfl⟩
   have hug:(u:Int) * (q:Int)=g:=by rw [hg]; simp
   have hgb:g≤127 * 16384:=by rw [hg]; exact Nat.mul_le_mul (by omega) hq2
   have hrd:r.drop k=d :: r.drop (k+1):=by
    rw [List.drop_eq_getElem_cons (by omega),hd,List.getD,List.getElem?_eq_getElem (by omega)]; rfl
   have ez:(z:Int)+1 - 1=z:=by omega
   have htd:tailR (3 - k) (r.drop k)=if d.toNat < 128 then some (d.toNat,1) else (tailR (3 - (k+1)) (r.drop (k+1))).map (fun y=>(u+128 * y.1,y.2+1)):=by
    rw [hrd,show 3 - k=(3 - (k+1))+1 by omega,tailR]
    split
    ·rfl
    ·rw [hu]
     cases tailR (3 - (k+1)) (r.drop (k+1)) <;> rfl
   have htk:List.take ((z:Int)+1).toNat (c :: r)=c :: r.take (k+1):=by rw [show ((z:Int)+1).toNat=(k+1)+1 by omega]; rfl
   simp -implicitDefEqProofs (disch:=omega) only [push_cast,simprocAttr,h0',h1,h8,h9,h10,hz',hs',hzd,hdw,hda,hsh,hug,ez,h0,hw,e2,hfd,↓gd]
   refine ⟨by omega,by omega,by omega,by omega,by omega,fun hd128=>⟨by omega,by omega,?_⟩,fun hd128=>?_⟩
   ·have hud:u=d.toNat:=by omega
    obtain ⟨v,hv⟩:∃v,v=acc+g:=⟨_,rfl⟩
    have ht3:tailR 3 r=some (v,k+1):=by
     rw [htr,htd,if_pos (by omega),Option.map_some,hv,hg,hud,Nat.mul_comm q]
    refine ((NumWrite_ok ((p - 1+v:Nat):Int) bits h (by omega) hb hh256 _).as (by rw [show (w:Int)+g=((p - 1+v:Nat):Int) by omega])).to ?_
    rw [hex v (k+1) ht3]
    have hnr2:=hnr v (k+1) ht3
    by_cases g9:p - 1+v≤9999
    ·rw [if_pos g9]
     simp -implicitDefEqProofs (disch:=omega) only [push_cast,simprocAttr,h0',h1,h8,h9,h10,htk,↓gd]
     by_cases gt:numTail v=r.take (k+1)
     ·rw [if_pos ⟨g9,gt⟩] at hnr2
      refine ⟨by omega,by omega,fun g=>absurd (by rw [gt]) g,fun _=>fin0 ?_⟩
      rw [hnr2,nrV]
      congr 3
      ·omega
      ·congr 2; omega
     ·rw [if_neg (fun h=>gt h.2)] at hnr2
      refine ⟨by omega,by omega,fun g=>fin0 ?_,fun g=>absurd (List.cons.inj g).2 gt⟩
      rw [hnr2]; rfl
    ·rw [if_neg (fun h=>g9 h.1)] at hnr2
     rw [if_neg g9]
     simp -implicitDefEqProofs (disch:=omega) only [push_cast,simprocAttr,h0',h1,h8,h9,h10,htk,↓gd]
     refine ⟨by omega,by omega,fin0 ?_⟩
     rw [hnr2]; rfl
   ·have hgq:g≤127 * q:=by rw [hg]; exact Nat.mul_le_mul_right _ (by omega)
    refine ⟨3 - (k+1),by omega,k+1,s+7,z+1,w+g,q * 128,acc+g,rfl,by omega,by omega,by omega,by omega,by rw [hq,Nat.pow_succ],by omega,by omega,?_,by simp,by simp,by simp⟩
    rw [htr,htd,if_neg (by omega),Option.map_map]
    congr 1
    funext y
    simp only [Function.comp_apply,Prod.mk.injEq]
    refine ⟨?_,by omega⟩
    rw [Nat.mul_add,hg,Nat.mul_comm u q,Nat.mul_assoc]
    omega
  ·have hnw:(if 0≤(m:Int)∧(m:Int)≤9999∧h < 2 ^ (8 - bits) then numW (m:Int).toNat bits h else [])=[c]:=by
    rw [if_pos ⟨by omega,by omega,hh8⟩,Int.toNat_natCast,numW,←hp,if_pos (by omega),hcm]
    simp [by8]
   rw [hfd]
   refine ⟨by omega,by omega,(NumWrite_ok m bits h (by omega) hb hh256 _).to ?_⟩
   rw [hnw]
   simp -implicitDefEqProofs (disch:=omega) only [push_cast,simprocAttr,hne,h0,↓gd]
   refine ⟨by omega,fin0 ?_⟩
   rw [numR,←hp,←hm,if_pos (by omega)]
   rfl
def unV (o:Option (List UInt8)):V:=match o with
 | some w=>.tup [.str w,.bool true]
 | none=>.tup [.str [],.bool false]
theorem wordOk_un (b:List UInt8):wordOk (unO b)=decide ((unO b).length≤16):=by
 rw [wordOk,List.all_eq_true.2 (fun c hc=>by simpa using un_signs b c hc),Bool.true_and]
theorem top2 {x:List Nat} (h5:5≤x.length) (hb:∀b ∈ x,b≤1):(numOf (x.take 2)=3)↔¬numOf (x.take 5) < 24:=by
 match x,h5 with
 | p :: q :: r :: s :: t :: y,_ =>
  have h1:=hb p (by simp)
  have h2:=hb q (by simp)
  have h3:=hb r (by simp)
  have h4:=hb s (by simp)
  have h5:=hb t (by simp)
  simp only [List.take_succ_cons,List.take_zero,numOf,List.foldl_cons,List.foldl_nil]
  omega
theorem unpack_end (b:List UInt8) (h16:b.length≤16) (S':List Blk) :
  unV (unpackM b)=if wordOk (unO b)=true∧pack (unO b)=b then .tup [.str (unO b),.bool true] else .tup [.str [],.bool false]:=by
 have hp:=un_pack b
 rw [unpackM,if_pos h16,unOk,wordOk_un]
 simp only [hp]
 by_cases h1:(unL b).all (fun x=>decide (x=1))=true
 ·by_cases h2:(unL b).length < 8
  ·by_cases h3:(unO b).length≤16 <;> simp [h1,h2,h3,unV]
  ·simp [h2,unV]
 ·simp [h1,unV]
theorem num57 {x:List Nat} (h7:7≤x.length) (hb:∀b ∈ x,b≤1):4 * numOf (x.take 5)≤numOf (x.take 7)∧numOf (x.take 7)≤4 * numOf (x.take 5)+3∧numOf (x.take 7) < 128:=by
 match x,h7 with
 | p :: q :: r :: s :: t :: u :: v :: y,_ =>
  have h1:=hb p (by simp)
  have h2:=hb q (by simp)
  have h3:=hb r (by simp)
  have h4:=hb s (by simp)
  have h5:=hb t (by simp)
  have h6:=hb u (by simp)
  have h7:=hb v (by simp)
  simp only [List.take_succ_cons,List.take_zero,numOf,List.foldl_cons,List.foldl_nil]
  omega
section
variable {k:Nat} {x:List Nat}
theorem unB_lt5 (h:x.length < 5):unB (k+1) x=([],x):=by rw [unB,if_pos h]
theorem unB_5 (h:5≤x.length) (h24:numOf (x.take 5) < 24):unB (k+1) x=(signOf (numOf (x.take 5)) :: (unB k (x.drop 5)).1,(unB k (x.drop 5)).2):=by
 rw [unB,if_neg (by omega),if_pos h24]
theorem unB_lt7 (h:x.length < 7) (h24:¬numOf (x.take 5) < 24):unB (k+1) x=([],x):=by
 rw [unB]
 by_cases h5:x.length < 5
 ·rw [if_pos h5]
 ·rw [if_neg h5,if_neg h24,if_pos h]
theorem unB_bad (h:7≤x.length) (h24:¬numOf (x.take 5) < 24) (h39:39≤numOf (x.take 7) - 72):unB (k+1) x=([],x):=by
 rw [unB,if_neg (by omega),if_neg h24,if_neg (by omega),if_pos h39]
theorem unB_7 (h:7≤x.length) (h24:¬numOf (x.take 5) < 24) (h39:¬39≤numOf (x.take 7) - 72):unB (k+1) x=(signOf (numOf (x.take 7) - 72) :: (unB k (x.drop 7)).1,(unB k (x.drop 7)).2):=by
 rw [unB,if_neg (by omega),if_neg h24,if_neg (by omega),if_neg h39]
end
theorem WordUnpack_ok (b:List UInt8) (hb:b.length≤1000000) (S:List Blk):VCall Try.prog 51 [.str b] S fun r S'=>r=unV (unpackM b)∧S'=S:=by
 by_cases h16:b.length≤16
 ·have h16':¬(b.length:Int) > 16:=by omega
  have hL:=bitsB_len b
  obtain ⟨L,hLd⟩:∃L,L=bitsB b:=⟨_,rfl⟩
  have hLle:∀x ∈ L,x≤1:=by rw [hLd]; exact bitsB_le b
  rw [←hLd] at hL
  refine VCall.en hD Try.func51 Try.ntmps51 Try.results51 ?_
  simp -implicitDefEqProofs (disch:=omega) only [push_cast,simprocAttr,h16',↓gd]
  refine wpV_loop (fun m t S'=>∃(i:Nat),m=b.length - i∧i≤b.length∧t 0=.str b∧t 4=.ptr S.length 0∧t 16=.int .i64 b.length∧t 17=.int .i64 i∧RowAt S' S.length S.length (bitsB (b.take i))∧S.length < S'.length∧∀j,j < S.length→S'[j]?=S[j]?) b.length
   ⟨0,by omega,by omega,rfl,rfl,rfl,rfl,⟨Nat.le_refl _,.inl ⟨by simp,by simp [bitsB]⟩⟩,by simp,fun j hj=>by rw [List.getElem?_append_left hj]⟩ ?_
  rintro m t S' ⟨i,rfl,hi,h0,h4,h16,h17,hR,hlt,hold⟩
  have hbl:=bitsB_len (b.take i)
  have hti:(b.take i).length≤16:=by simp; omega
  refine wpV_of0 hD ?_
  simp -implicitDefEqProofs (disch:=omega) only [push_cast,simprocAttr,h0,h4,h16,h17,↓gd]
  refine ⟨fun h=>⟨by omega,by omega,?_⟩,fun h=>?_⟩
  ·have hil:i < b.length:=by omega
   obtain ⟨c,hc⟩:∃c,c=b.getD i 0:=⟨_,rfl⟩
   have hc256:=c.toNat_lt
   rw [←hc,i64_fit _ (by omega)]
   refine ((add_ok S.length c.toNat 8 S.length _ (by omega) (by omega) (by omega) S' hR).as (by simp)).mono ?_
   rintro r S2 ⟨hR2,hl2,ho2⟩
   simp -implicitDefEqProofs (disch:=omega) only [push_cast,simprocAttr,h0,h4,h16,h17,↓gd]
   refine ⟨b.length - (i+1),by omega,i+1,rfl,by omega,by simp,?_,by omega,fun j hj=>(ho2 j hj).trans (hold j hj)⟩
   rw [take_get8 hil,bitsB,List.flatMap_append,←hc]
   simpa [bitsB] using hR2
  ·have:i=b.length:=by omega
   subst this
   rw [List.take_length,←hLd] at hR
   have hin:RowAt S' S.length S.length L:=hR
   refine wpV_mono (k:=fun e t S2=>e=.exit 2∧t 0=.str b∧OutAt S' S2 (t 6) (unO b)) ?_ ?_
   ·rcases hR with ⟨_,⟨hSb,hl0⟩ | ⟨τ,hτ0,hτb,hSb,hSτ⟩⟩
    ·refine wpV_loop (fun m t S2=>t 0=.str b∧t 4=.ptr S.length 0∧t 6=.nils∧t 7=.int .i64 0∧S2=S') 0 ⟨h0,h4,rfl,rfl,rfl⟩ ?_
     clear h0 h4 h16 h17
     rintro m t S2 ⟨h0,h4,h6,h7,rfl⟩
     refine wpV_of0 hD ?_
     simp -implicitDefEqProofs (disch:=omega) only [push_cast,simprocAttr,h0,h4,h6,h7,hSb,↓gd]
     refine .inl ⟨rfl,?_,rfl⟩
     rw [unO,←hLd,hl0]
     rfl
    ·refine wpV_loop (fun m t S2=>∃(a f:Nat) (o:List UInt8),m=L.length - a∧a≤L.length∧L.length≤a+f∧o.length≤a∧unO b=o++(unB f (L.drop a)).1∧t 0=.str b∧t 4=.ptr S.length 0∧OutAt S' S2 (t 6) o∧t 7=.int .i64 a) L.length
      ⟨0,L.length,[],by omega,by omega,by omega,by simp,by rw [unO,←hLd]; simp,h0,h4,.inl ⟨rfl,rfl,rfl⟩,rfl⟩ ?_
     clear h0 h4 h16 h17
     rintro m t S2 ⟨a,f,o,rfl,ha,hf,hol,hun,h0,h4,h6,h7⟩
     have hSb2:S2[S.length]?=some (.cells 0 [.rows (some τ) (L.map b8V)]):=by rw [h6.old _ hlt]; exact hSb
     have hxl:(L.drop a).length=L.length - a:=by simp
     have hxb:∀x ∈ L.drop a,x≤1:=fun x hx=>hLle x (List.mem_of_mem_drop hx)
     have hstop:(unB f (L.drop a)).1=[]→OutAt S' S2 (t 6) (unO b):=fun e=>by rw [hun,e,List.append_nil]; exact h6
     refine wpV_of0 hD ?_
     by_cases hal:a < L.length
     ·have hal':(a:Int) < L.length:=by omega
      obtain ⟨k,rfl⟩:∃k,f=k+1:=⟨f - 1,by omega⟩
      by_cases h2:a+2≤L.length
      ·have h2':(a:Int)+2≤L.length:=by omega
       simp -implicitDefEqProofs (disch:=omega) only [push_cast,simprocAttr,h0,h4,h7,hSb2,hal',h2',↓gd]
       refine ((number_ok L a 2 (by omega) (by omega) (by omega) hLle S2).as (by simp)).to ?_
       by_cases ht2:numOf ((L.drop a).take 2)=3
       ·have ht2':((numOf ((L.drop a).take 2):Nat):Int)=3:=by omega
        by_cases h7l:a+7≤L.length
        ·have h7l':¬((a:Int)+7 > L.length):=by omega
         simp -implicitDefEqProofs (disch:=omega) only [push_cast,simprocAttr,h0,h4,h7,hSb2,ht2',h7l',↓gd]
         refine ((number_ok L a 7 (by omega) (by omega) (by omega) hLle S2).as (by simp)).to ?_
         have h24:=(top2 (x:=L.drop a) (by omega) hxb).1 ht2
         obtain ⟨n1,n2,n3⟩:=num57 (x:=L.drop a) (by omega) hxb
         by_cases h39:39≤numOf ((L.drop a).take 7) - 72
         ·have hst:=hstop (by rw [unB_bad (by omega) h24 h39])
          generalize numOf ((L.drop a).take 7)=v at h39 n1 n2 n3
          have hv:IntKind.i64.wrap ((v:Int) - 72)=((v - 72:Nat):Int):=by rw [show (v:Int) - 72=((v - 72:Nat):Int) by omega]; exact i64_fit _ (by omega)
          have h39':(39:Int)≤((v - 72:Nat):Int):=by omega
          generalize v - 72=w at hv h39'
          simp -implicitDefEqProofs (disch:=omega) only [push_cast,simprocAttr,h0,h4,h7,hSb2,hv,h39',↓gd]
          exact hst
         have hst:=unB_7 (k:=k) (x:=L.drop a) (by omega) h24 h39
         have hnx:∀(S3:List Blk) (v6:V),OutAt S' S3 v6 (o++[signOf (numOf ((L.drop a).take 7) - 72)])→∃m',m' < L.length - a∧∃(a_1 f:Nat) (o_1:List UInt8),m'=L.length - a_1∧a_1≤L.length∧L.length≤a_1+f∧o_1.length≤a_1∧unO b=o_1++(unB f (L.drop a_1)).1∧OutAt S' S3 v6 o_1∧V.int IntKind.i64 ((a:Int)+7)=V.int IntKind.i64 a_1:=fun S3 v6 hO =>
          ⟨L.length - (a+7),by omega,a+7,k,o++[signOf (numOf ((L.drop a).take 7) - 72)],rfl,by omega,by omega,by simp; omega,by rw [hun,hst,List.drop_drop]; simp,hO,by simp⟩
         generalize numOf ((L.drop a).take 7)=v at h39 n1 n2 n3 hnx
         have hv:IntKind.i64.wrap ((v:Int) - 72)=((v - 72:Nat):Int):=by rw [show (v:Int) - 72=((v - 72:Nat):Int) by omega]; exact i64_fit _ (by omega)
         have h39':¬(39:Int)≤((v - 72:Nat):Int):=by omega
         generalize v - 72=w at hv h39' hnx
         rcases h6 with ⟨h6,rfl,rfl⟩ | ⟨σ,h6,hT⟩
         ·simp -implicitDefEqProofs (disch:=omega) only [push_cast,simprocAttr,h0,h4,h6,h7,hSb2,hv,h39',↓gd]
          refine ⟨by omega,by omega,hnx _ _ (.inr ⟨_,?_,⟨⟨_,rfl⟩,Nat.le_succ _,by simp⟩⟩)⟩
          rfl
         ·have hat:=hT.at
          simp -implicitDefEqProofs (disch:=omega) only [push_cast,simprocAttr,h0,h4,h6,h7,hSb2,hat,hv,h39',↓gd]
          refine ⟨by omega,by omega,by omega,hnx _ _ (.inr ⟨_,?_,hT.step1 _⟩)⟩
          rw [List.map_append]; rfl
        ·have h7l':((a:Int)+7 > L.length):=by omega
         simp -implicitDefEqProofs (disch:=omega) only [push_cast,simprocAttr,h0,h4,h7,hSb2,ht2',h7l',↓gd]
         refine hstop ?_
         by_cases h5:5≤(L.drop a).length
         ·rw [unB_lt7 (by omega) ((top2 h5 hxb).1 ht2)]
         ·rw [unB_lt5 (by omega)]
       ·have ht2':¬((numOf ((L.drop a).take 2):Nat):Int)=3:=by omega
        by_cases h5l:a+5≤L.length
        ·have h5l':¬((a:Int)+5 > L.length):=by omega
         simp -implicitDefEqProofs (disch:=omega) only [push_cast,simprocAttr,h0,h4,h7,hSb2,ht2',h5l',↓gd]
         refine ((number_ok L a 5 (by omega) (by omega) (by omega) hLle S2).as (by simp)).to ?_
         have h24:numOf ((L.drop a).take 5) < 24:=by
          have:=top2 (x:=L.drop a) (by omega) hxb
          by_cases g:numOf ((L.drop a).take 5) < 24
          ·exact g
          ·exact absurd (this.2 g) ht2
         have hst:=unB_5 (k:=k) (x:=L.drop a) (by omega) h24
         have hnx:∀(S3:List Blk) (v6:V),OutAt S' S3 v6 (o++[signOf (numOf ((L.drop a).take 5))])→∃m',m' < L.length - a∧∃(a_1 f:Nat) (o_1:List UInt8),m'=L.length - a_1∧a_1≤L.length∧L.length≤a_1+f∧o_1.length≤a_1∧unO b=o_1++(unB f (L.drop a_1)).1∧OutAt S' S3 v6 o_1∧V.int IntKind.i64 ((a:Int)+5)=V.int IntKind.i64 a_1:=fun S3 v6 hO =>
          ⟨L.length - (a+5),by omega,a+5,k,o++[signOf (numOf ((L.drop a).take 5))],rfl,by omega,by omega,by simp; omega,by rw [hun,hst,List.drop_drop]; simp,hO,by simp⟩
         generalize numOf ((L.drop a).take 5)=w at h24 hnx
         have hv:IntKind.i64.wrap ((w:Int) - 0)=(w:Int):=by rw [Int.sub_zero]; exact i64_fit _ (by omega)
         have h39':¬(39:Int)≤(w:Int):=by omega
         rcases h6 with ⟨h6,rfl,rfl⟩ | ⟨σ,h6,hT⟩
         ·simp -implicitDefEqProofs (disch:=omega) only [push_cast,simprocAttr,h0,h4,h6,h7,hSb2,hv,h39',↓gd]
          refine ⟨by omega,by omega,hnx _ _ (.inr ⟨_,?_,⟨⟨_,rfl⟩,Nat.le_succ _,by simp⟩⟩)⟩
          rfl
         ·have hat:=hT.at
          simp -implicitDefEqProofs (disch:=omega) only [push_cast,simprocAttr,h0,h4,h6,h7,hSb2,hat,hv,h39',↓gd]
          refine ⟨by omega,by omega,by omega,hnx _ _ (.inr ⟨_,?_,hT.step1 _⟩)⟩
          rw [List.map_append]; rfl
        ·have h5l':((a:Int)+5 > L.length):=by omega
         simp -implicitDefEqProofs (disch:=omega) only [push_cast,simprocAttr,h0,h4,h7,hSb2,ht2',h5l',↓gd]
         exact hstop (by rw [unB_lt5 (by omega)])
      ·have h2':¬((a:Int)+2≤L.length):=by omega
       have h5l':((a:Int)+5 > L.length):=by omega
       simp -implicitDefEqProofs (disch:=omega) only [push_cast,simprocAttr,h0,h4,h7,hSb2,hal',h2',h5l',↓gd]
       exact hstop (by rw [unB_lt5 (by omega)])
     ·have hal':¬((a:Int) < L.length):=by omega
      simp -implicitDefEqProofs (disch:=omega) only [push_cast,simprocAttr,h0,h4,h7,hSb2,hal',↓gd]
      refine hstop ?_
      cases f with
      | zero=>rfl
      | succ k=>rw [unB_lt5 (by omega)]
   ·rintro _ t2 S2 ⟨rfl,h0,h6⟩
    have hun:=unpack_end b (by omega) S
    have hol:(unO b).length≤1000:=by
     have h1:=un_bits b
     have h2:=congrArg List.length h1
     rw [List.length_append] at h2
     have h3:∀w:List UInt8,w.length≤(w.flatMap codeOf).length:=by
      intro w
      induction w with
      | nil=>simp
      | cons c w ih =>
       have:1≤(codeOf c).length:=by unfold codeOf; split <;> simp [bitsOf_len]
       simp only [List.flatMap_cons,List.length_append,List.length_cons]; omega
     have:=h3 (unO b)
     rw [bitsB_len] at h2
     omega
    have hfin:∀(Y:List Blk) (v:V),(∃s x,v=.tup [.str s,.bool x])→v=unV (unpackM b)→S2=S++Y→∃r S3,Wk S v S2 r S3∧r=unV (unpackM b)∧S3=S:=by
     rintro Y _ ⟨s,x,rfl⟩ hv rfl
     exact fin1 (Cl.two (.str _) (.bool _)) hv
    obtain ⟨Y,hY⟩:∃Y,S2=S++Y:=by
     obtain ⟨X,rfl⟩:=grown (by omega) hold
     rcases h6 with ⟨_,_,rfl⟩ | ⟨σ,_,⟨Z,rfl⟩,_,_⟩
     ·exact ⟨X,rfl⟩
     ·exact ⟨X++Z,by rw [List.append_assoc]⟩
    have hconv:t2 6=.nils∧unO b=[]∨∃tok,t2 6=.rows tok ((unO b).map u8V):=by
     rcases h6 with ⟨h1,h2,_⟩ | ⟨σ,h1,_⟩
     ·exact .inl ⟨h1,h2⟩
     ·exact .inr ⟨_,h1⟩
    rcases hconv with ⟨h6,he⟩ | ⟨tok,h6⟩
    ·simp -implicitDefEqProofs (disch:=omega) only [push_cast,simprocAttr,h0,h6,↓gd]
     refine ((WordOk_ok (unO b) (by omega) _).as (by rw [he])).to ?_
     cases hw:wordOk (unO b)
     ·simp -implicitDefEqProofs (disch:=omega) only [push_cast,simprocAttr,h0,h6,↓gd]
      exact hfin Y _ ⟨_,_,rfl⟩ (by rw [hun,if_neg (by simp [hw])]) hY
     ·simp -implicitDefEqProofs (disch:=omega) only [push_cast,simprocAttr,h0,h6,↓gd]
      refine ((WordPack_ok (unO b) (by omega) _).as (by rw [he])).to ?_
      rw [if_pos hw]
      by_cases hp:pack (unO b)=b
      ·simp -implicitDefEqProofs (disch:=omega) only [push_cast,simprocAttr,h0,h6,hp,↓gd]
       exact hfin Y _ ⟨_,_,rfl⟩ (by rw [hun,if_pos ⟨hw,hp⟩]; rw [he]) hY
      ·simp -implicitDefEqProofs (disch:=omega) only [push_cast,simprocAttr,h0,h6,hp,↓gd]
       exact hfin Y _ ⟨_,_,rfl⟩ (by rw [hun,if_neg (fun h=>hp h.2)]) hY
    ·simp -implicitDefEqProofs (disch:=omega) only [push_cast,simprocAttr,h0,h6,↓gd]
     refine (WordOk_ok (unO b) (by omega) _).to ?_
     cases hw:wordOk (unO b)
     ·simp -implicitDefEqProofs (disch:=omega) only [push_cast,simprocAttr,h0,h6,↓gd]
      exact hfin Y _ ⟨_,_,rfl⟩ (by rw [hun,if_neg (by simp [hw])]) hY
     ·simp -implicitDefEqProofs (disch:=omega) only [push_cast,simprocAttr,h0,h6,↓gd]
      refine (WordPack_ok (unO b) (by omega) _).to ?_
      rw [if_pos hw]
      by_cases hp:pack (unO b)=b
      ·simp -implicitDefEqProofs (disch:=omega) only [push_cast,simprocAttr,h0,h6,hp,↓gd]
       exact hfin Y _ ⟨_,_,rfl⟩ (by rw [hun,if_pos ⟨hw,hp⟩]) hY
      ·simp -implicitDefEqProofs (disch:=omega) only [push_cast,simprocAttr,h0,h6,hp,↓gd]
       exact hfin Y _ ⟨_,_,rfl⟩ (by rw [hun,if_neg (fun h=>hp h.2)]) hY
 ·have h16':(b.length:Int) > 16:=by omega
  refine VCall.en hD Try.func51 Try.ntmps51 Try.results51 ?_
  simp -implicitDefEqProofs (disch:=omega) only [push_cast,simprocAttr,h16',↓gd]
  refine fin0 ?_
  rw [unpackM,if_neg h16]
  rfl
end
end Go.Proofs.Ytldogccmhncnoaa
