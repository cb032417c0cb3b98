/- A part of the proof: contracts of functions, or plain facts on which these lean. -/
import Derived.Shelf.Spec.SlicesGrow
import Derived.Test.YtldogccmhncnoaaGreatMk13
namespace Go.Proofs.YtldogccmhncnoaaGreat
open Go
set_option linter.unusedVariables false
set_option linter.unusedSimpArgs false
set_option maxRecDepth 100000
set_option maxHeartbeats 16000000

section
open Go
def b8V (n:Nat):V:=u8V (by8 n)
@[push_cast] theorem all_b8_len (l:List Nat):(l.map b8V).all (lenIs 1)=true:=by induction l <;> simp_all [lenIs,b8V,u8V,V.cells]
theorem bitsOf_cons (n m:Nat):bitsOf n (m+1)=(n / 2 ^ m % 2) :: bitsOf n m:=by
 induction m generalizing n with
 | zero=>simp [bitsOf]
 | succ m ih =>
  rw [bitsOf,ih,bitsOf]
  simp [Nat.div_div_eq_div_mul,Nat.pow_succ,Nat.mul_comm]
def RowAt (S:List Blk) (b n0:Nat) (l:List Nat):Prop :=
 n0≤b∧((S[b]?=some (.cells 0 [.nils])∧l=[])∨∃τ,n0≤τ∧τ≠b∧S[b]?=some (.cells 0 [.rows (some τ) (l.map b8V)])∧S[τ]?=some (.right 1))
theorem add_ok (b n many n0:Nat) (l:List Nat) (hn:n < 256) (hm:many≤8) (hl:l.length≤1000000) (S:List Blk) (hR:RowAt S b n0 l) :
  VCall Tryz.prog 122 [.ptr b 0,.int .i64 n,.int .i64 many] S fun r S'=>RowAt S' b n0 (l++bitsOf n many)∧S.length≤S'.length∧∀j,j < n0→S'[j]?=S[j]?:=by
 refine VCall.ex hD (fun _=>false) (fun id=>if id=3 then [12,10,10,10,9,9,9,9,9,10,12,12,13] else []) Tryz.func122 Tryz.ntmps122 Tryz.results122 ?_
 simp -implicitDefEqProofs (disch:=omega) only [push_cast,simprocAttr,↓gd]
 refine wpV_loop (fun m t S'=>∃d,m≤many∧d.length≤8∧t 0=.ptr b 0∧t 1=.int .i64 n∧t 2=.int .i64 ((m:Int) - 1)∧d++bitsOf n m=bitsOf n many∧RowAt S' b n0 (l++d)∧S.length≤S'.length∧∀j,j < n0→S'[j]?=S[j]?) many
  ⟨[],by omega,by simp,rfl,rfl,rfl,rfl,by simpa using hR,by omega,fun _ _=>rfl⟩ ?_
 rintro m t S' ⟨d,hmm,hd8,h0,h1,h2,hbits,⟨hb0,hrow⟩,hlen,hold⟩
 refine wpV_of hD (fun _=>false) (fun id=>if id=3 then [12,10,10,10,9,9,9,9,9,10,12,12,13] else []) (by kernel_rfl) ?_
 have hbit:∀k:Nat,k≤8→V.int .u8 (IntKind.u8.wrap (intBits .and .i64 (Int.fdiv (n:Int) (2 ^ min k 64)) 1))=b8V (n / 2 ^ k % 2):=by
  intro k hk
  have h1:n / 2 ^ k≤n:=Nat.div_le_self _ _
  rw [show min k 64=k by omega,fdiv_pow,show (1:Int)=((1:Nat):Int) from rfl,and_nat (by omega) (by decide),show (1:Nat)=2 ^ 1 - 1 from rfl,Nat.and_two_pow_sub_one_eq_mod,u8V_of]
  rfl
 have hbl:b < S'.length:=by
  rcases Nat.lt_or_ge b S'.length with g | g
  ·exact g
  ·rcases hrow with ⟨h,_⟩ | ⟨_,_,_,h,_⟩ <;> (rw [List.getElem?_eq_none g] at h; cases h)
 rcases hrow with ⟨hSb,hl0⟩ | ⟨τ,hτ0,hτb,hSb,hSτ⟩
 ·simp -implicitDefEqProofs (disch:=omega) only [push_cast,simprocAttr,h0,h1,h2,hSb,↓gd]
  refine ⟨fun h=>?_,fun h=>?_⟩
  ·obtain ⟨k,rfl⟩:∃k,m=k+1:=⟨m - 1,by omega⟩
   obtain ⟨hla,hda⟩:=List.append_eq_nil_iff.1 hl0
   subst hla hda
   refine ⟨h,k,by omega,[n / 2 ^ k % 2],by omega,by simp,by congr 1; omega,by rw [←hbits,bitsOf_cons]; simp,⟨hb0,.inr ⟨S'.length+1,by omega,by omega,?_,?_⟩⟩,by omega,fun j hj=>?_⟩
   ·rw [show (((k+1:Nat):Int) - 1).toNat=k by omega,hbit k (by omega),List.getElem?_set_self (by simp; omega)]
    simp
   ·rw [List.getElem?_set_ne (by omega),List.getElem?_append_right (by omega)]
    simp
   ·rw [List.getElem?_set_ne (by omega),List.getElem?_append_left (by omega)]
    exact hold j hj
  ·have:m=0:=by omega
   subst this
   have hd:d=bitsOf n many:=by simpa [bitsOf] using hbits
   exact ⟨_,_,Wk.refl _ _ _,⟨hb0,.inl ⟨hSb,by rw [←hd]; exact hl0⟩⟩,hlen,hold⟩
 ·have hg:((S'++[Blk.right 1]).set τ .dead++[.right 1])[b]?=some (Blk.cells 0 [V.rows (some τ) (List.map b8V (l++d))]):=by
   rw [List.getElem?_append_left (by simp; omega),List.getElem?_set_ne hτb,List.getElem?_append_left hbl,hSb]
  simp only [List.map_append] at hg
  simp -implicitDefEqProofs (disch:=omega) only [push_cast,simprocAttr,h0,h1,h2,hSb,hSτ,hg,↓gd]
  refine ⟨fun h=>?_,fun h=>?_⟩
  ·obtain ⟨k,rfl⟩:∃k,m=k+1:=⟨m - 1,by omega⟩
   have hdl:d.length+(k+1)=many:=by have:=congrArg List.length hbits; simpa [bitsOf_len] using this
   refine ⟨h,by omega,k,by omega,d++[n / 2 ^ k % 2],by omega,by simp; omega,by congr 1; omega,by rw [←hbits,bitsOf_cons]; simp,⟨hb0,.inr ⟨S'.length+1,by omega,by omega,?_,?_⟩⟩,by omega,fun j hj=>?_⟩
   ·rw [show (((k+1:Nat):Int) - 1).toNat=k by omega,hbit k (by omega),List.getElem?_set_self (by simp; omega)]
    simp
   ·rw [List.getElem?_set_ne (by omega),List.getElem?_append_right (by simp)]
    simp
   ·rw [List.getElem?_set_ne (by omega),List.getElem?_append_left (by simp; omega),List.getElem?_set_ne (by omega),List.getElem?_append_left (by omega)]
    exact hold j hj
  ·have:m=0:=by omega
   subst this
   have hd:d=bitsOf n many:=by simpa [bitsOf] using hbits
   exact ⟨_,_,Wk.refl _ _ _,⟨hb0,.inr ⟨τ,hτ0,hτb,by rw [←hd]; exact hSb,hSτ⟩⟩,hlen,hold⟩
theorem getD_b8 {l:List Nat} {i:Nat} (h:i < l.length):(l.map b8V).getD i .junk=b8V (l.getD i 0):=by
 simp [List.getD,List.getElem?_eq_getElem h]
theorem b8V_eq {n:Nat} (h:n≤1):b8V n=.int .u8 (n:Int):=by
 rcases (by omega:n=0∨n=1) with rfl | rfl <;> rfl
theorem number_ok (l:List Nat) (a n:Nat) (hl:l.length≤1000000) (han:a+n≤l.length) (hn:n≤8) (hb:∀b ∈ l,b≤1) (S:List Blk) :
  VCall Tryz.prog 123 [.rows none (l.map b8V),.int .i64 a,.int .i64 n] S fun r S'=>r=.int .i64 (numOf ((l.drop a).take n))∧S'=S:=by
 obtain ⟨q,hq⟩:∃q,q=(l.drop a).take n:=⟨_,rfl⟩
 have hqn:q.length=n:=by rw [hq]; simp; omega
 have hqb:∀b ∈ q,b≤1:=fun b h=>by rw [hq] at h; exact hb b (List.mem_of_mem_drop (List.mem_of_mem_take h))
 have ech:List.drop a (List.take (a+n) (l.map b8V))=q.map b8V:=by rw [hq,List.drop_take,Nat.add_sub_cancel_left,List.map_take,List.map_drop]
 have e1:((a:Int)+(n:Int)).toNat=a+n:=by omega
 rw [←hq]
 refine VCall.en hD Tryz.func123 Tryz.ntmps123 Tryz.results123 ?_
 simp -implicitDefEqProofs (disch:=omega) only [push_cast,simprocAttr,e1,ech,↓gd]
 refine ⟨by omega,by omega,by omega,?_⟩
 refine wpV_loop (fun m t S'=>∃i:Nat,m=n - i∧i≤n∧t 7=.int .i64 (numOf (q.take i))∧t 15=.rows none (q.map b8V)∧t 16=.int .i64 n∧t 17=.int .i64 i∧S'=S) n ⟨0,by omega,by omega,rfl,rfl,congrArg (fun (x:Nat)=>V.int .i64 (x:Int)) hqn,rfl,rfl⟩ ?_
 rintro m t S' ⟨i,rfl,hi,h7,h15,h16,h17,rfl⟩
 have hlt:=numOf_lt (q.take i) (fun b hbb=>hqb b (List.mem_of_mem_take hbb))
 have hp:2 ^ (q.take i).length≤2 ^ 8:=Nat.pow_le_pow_right (by omega) (by simp; omega)
 refine wpV_of0 hD ?_
 simp -implicitDefEqProofs (disch:=omega) only [push_cast,simprocAttr,h7,h15,h16,h17,↓gd]
 refine ⟨fun h=>?_,fun h=>fin0 ?_⟩
 ·have hil:i < q.length:=by omega
  have hbi:q.getD i 0≤1:=by rw [List.getD,List.getElem?_eq_getElem hil]; exact hqb _ (List.getElem_mem hil)
  rw [getD_b8 hil,b8V_eq hbi]
  simp -implicitDefEqProofs (disch:=omega) only [push_cast,simprocAttr,h7,h15,h16,h17,↓gd]
  refine ⟨by omega,by omega,n - (i+1),by omega,i+1,rfl,by omega,?_,by simp⟩
  have hx:numOf (q.take i)≤256:=by omega
  have e2:IntKind.i64.wrap ((numOf (q.take i):Int) * 2 ^ min 1 64)=((numOf (q.take i) * 2:Nat):Int):=by
   rw [show ((numOf (q.take i):Int) * 2 ^ min 1 64)=((numOf (q.take i) * 2:Nat):Int) by simp]
   exact i64_fit _ (by omega)
  rw [e2,or_nat (by omega) (by omega),or_add (p:=2) (bits:=1) rfl rfl (by omega),take_getD hil,numOf_append,Nat.mul_comm]
 ·have:i=n:=by omega
  subst this
  rw [List.take_of_length_le (by omega)]
theorem wordOk_signs {w:List UInt8} (h:wordOk w=true):(∀c ∈ w,0≤signAt c)∧w.length≤16:=by
 simp only [wordOk,Bool.and_eq_true,List.all_eq_true,decide_eq_true_eq] at h
 exact h
theorem grown {S S':List Blk} (h:S.length≤S'.length) (ho:∀j,j < S.length→S'[j]?=S[j]?):∃X,S'=S++X:=by
 refine ⟨S'.drop S.length,List.ext_getElem? (fun j=>?_)⟩
 rcases Nat.lt_or_ge j S.length with g | g
 ·rw [ho j g,List.getElem?_append_left g]
 ·rw [List.getElem?_append_right g,List.getElem?_drop]; congr 1; omega
def OutAt (S S':List Blk) (v:V) (o:List UInt8):Prop:=(v=.nils∧o=[]∧S'=S)∨∃τ,v=.rows (some τ) (o.map u8V)∧Tok S S' τ 1
theorem OutAt.old {S S':List Blk} {v:V} {o:List UInt8} (h:OutAt S S' v o) (j:Nat) (hj:j < S.length):S'[j]?=S[j]?:=by
 rcases h with ⟨_,_,rfl⟩ | ⟨τ,_,⟨X,rfl⟩,_,_⟩
 ·rfl
 ·exact List.getElem?_append_left hj
theorem WordPack_ok (w:List UInt8) (hw:w.length≤1000) (S:List Blk):VCall Tryz.prog 115 [.str w] S fun r S'=>r=.str (if wordOk w then pack w else [])∧S'=S:=by
 cases hok:wordOk w with
 | false =>
  refine VCall.en hD Tryz.func115 Tryz.ntmps115 Tryz.results115 ?_
  simp -implicitDefEqProofs (disch:=omega) only [push_cast,simprocAttr,↓gd]
  refine (WordOk_ok w (by omega) S).to ?_
  rw [hok]
  simp -implicitDefEqProofs (disch:=omega) only [push_cast,simprocAttr,↓gd]
  exact fin0 rfl
 | true =>
  obtain ⟨hs,h16⟩:=wordOk_signs hok
  refine VCall.en hD Tryz.func115 Tryz.ntmps115 Tryz.results115 ?_
  simp -implicitDefEqProofs (disch:=omega) only [push_cast,simprocAttr,↓gd]
  refine (WordOk_ok w (by omega) S).to ?_
  rw [hok]
  simp -implicitDefEqProofs (disch:=omega) only [push_cast,simprocAttr,↓gd]
  refine wpV_loop (fun m t S'=>∃(i:Nat),m=w.length - i∧i≤w.length∧t 0=.str w∧t 3=.ptr S.length 0∧t 12=.int .i64 w.length∧t 13=.int .i64 i∧RowAt S' S.length S.length ((w.take i).flatMap codeOf)∧S.length < S'.length∧∀j,j < S.length→S'[j]?=S[j]?) w.length
   ⟨0,by omega,by omega,rfl,rfl,rfl,rfl,⟨Nat.le_refl _,.inl ⟨by simp,by simp⟩⟩,by simp,fun j hj=>by rw [List.getElem?_append_left hj]⟩ ?_
  rintro m t S' ⟨i,rfl,hi,h0,h3,h12,h13,hR,hlt,hold⟩
  have hlen:((w.take i).flatMap codeOf).length≤7000:=by have:=codes_len (w.take i); simp only [List.length_take] at this; omega
  refine wpV_of0 hD ?_
  simp -implicitDefEqProofs (disch:=omega) only [push_cast,simprocAttr,h0,h3,h12,h13,↓gd]
  refine ⟨fun h=>⟨by omega,by omega,?_⟩,fun h=>?_⟩
  ·have hil:i < w.length:=by omega
   obtain ⟨c,hc⟩:∃c,c=w.getD i 0:=⟨_,rfl⟩
   have hcm:c ∈ w:=by rw [hc,List.getD,List.getElem?_eq_getElem hil]; exact List.getElem_mem hil
   obtain ⟨k,hk⟩:∃k:Nat,signAt c=k:=⟨(signAt c).toNat,by have:=hs c hcm; omega⟩
   have hk38:=signAt_le c
   rw [←hc]
   refine (indexByte_ok signs c S').to ?_
   rw [show Lib.indexByte signs c=(k:Int) from hk]
   simp -implicitDefEqProofs (disch:=omega) only [push_cast,simprocAttr,h0,h3,h12,h13,↓gd]
   refine ⟨fun g=>?_,fun g=>?_⟩
   ·have hcode:codeOf c=bitsOf k 5:=by unfold codeOf; rw [if_pos (by omega),hk]; rfl
    refine ((add_ok S.length k 5 S.length _ (by omega) (by omega) (by omega) S' hR).as (by simp)).mono ?_
    rintro r S2 ⟨hR2,hl2,ho2⟩
    simp -implicitDefEqProofs (disch:=omega) only [push_cast,simprocAttr,h0,h3,h12,h13,↓gd]
    refine ⟨w.length - (i+1),by omega,i+1,rfl,by omega,by simp,?_,by omega,fun j hj=>(ho2 j hj).trans (hold j hj)⟩
    rw [take_get8 hil,List.flatMap_append,←hc]
    simpa [hcode] using hR2
   ·have hcode:codeOf c=bitsOf (72+k) 7:=by unfold codeOf; rw [if_neg (by omega),hk]; rfl
    refine ((add_ok S.length (72+k) 7 S.length _ (by omega) (by omega) (by omega) S' hR).as (by simp; omega)).mono ?_
    rintro r S2 ⟨hR2,hl2,ho2⟩
    simp -implicitDefEqProofs (disch:=omega) only [push_cast,simprocAttr,h0,h3,h12,h13,↓gd]
    refine ⟨w.length - (i+1),by omega,i+1,rfl,by omega,by simp,?_,by omega,fun j hj=>(ho2 j hj).trans (hold j hj)⟩
    rw [take_get8 hil,List.flatMap_append,←hc]
    simpa [hcode] using hR2
  ·have:i=w.length:=by omega
   subst this
   rw [List.take_length] at hR hlen
   refine wpV_loop (fun m t S'=>∃(l:List Nat),m=(8 - l.length % 8) % 8∧pad8 l=pad8 (w.flatMap codeOf)∧l.length+(8 - l.length % 8) % 8≤7100∧(∀b ∈ l,b≤1)∧t 3=.ptr S.length 0∧RowAt S' S.length S.length l∧S.length < S'.length∧∀j,j < S.length→S'[j]?=S[j]?) _
    ⟨w.flatMap codeOf,rfl,rfl,by omega,fun b hb=>by obtain ⟨c,_,hc⟩:=List.mem_flatMap.1 hb; exact codeOf_le c b hc,h3,hR,hlt,hold⟩ ?_
   clear h0 h3 h12 h13 hR hlt hold hlen h
   rintro m t S' ⟨l,rfl,hpad,hlen,hle,h3,hR,hlt,hold⟩
   have e8:Int.tmod (l.length:Int) 8=((l.length % 8:Nat):Int):=tmod_nat l.length 8
   have hRR:=hR
   refine wpV_of0 hD ?_
   rcases hR with ⟨_,⟨hSb,hl0⟩ | ⟨τ,hτ0,hτb,hSb,hSτ⟩⟩
   ·simp -implicitDefEqProofs (disch:=omega) only [push_cast,simprocAttr,h3,hSb,↓gd]
    subst hl0
    have hp0:pack w=[]:=by rw [pack,←hpad]; simp [pad8,bytes8_end]
    refine wpV_loop (fun m t S2=>t 3=.ptr S.length 0∧t 6=.nils∧t 7=.int .i64 0∧S2=S') 0 ⟨h3,rfl,rfl,rfl⟩ ?_
    rintro m t S2 ⟨h3,h6,h7,rfl⟩
    refine wpV_of0 hD ?_
    simp -implicitDefEqProofs (disch:=omega) only [push_cast,simprocAttr,h3,h6,h7,hSb,↓gd]
    obtain ⟨X,rfl⟩:=grown (by omega) hold
    exact fin1 (.str _) (by rw [hp0])
   ·simp -implicitDefEqProofs (disch:=omega) only [push_cast,simprocAttr,h3,hSb,e8,↓gd]
    refine ⟨fun g=>?_,fun g=>?_⟩
    ·refine ((add_ok S.length 1 1 S.length l (by omega) (by omega) (by omega) S' hRR).as (by simp)).mono ?_
     rintro r S2 ⟨hR2,hl2,ho2⟩
     simp -implicitDefEqProofs (disch:=omega) only [push_cast,simprocAttr,h3,↓gd]
     refine ⟨(8 - (l.length+1) % 8) % 8,by omega,l++[1],by simp,?_,by simp; omega,?_,by simpa [bitsOf] using hR2,by omega,fun j hj=>(ho2 j hj).trans (hold j hj)⟩
     ·rw [pad8_step (by omega),hpad]
     ·intro b hb
      rcases List.mem_append.1 hb with g | g
      ·exact hle b g
      ·rw [List.mem_singleton.1 g]; exact Nat.le_refl _
    ·rw [pad8_done (by omega)] at hpad
     have hl8:l.length % 8=0:=by omega
     clear e8 hRR
     refine wpV_loop (fun m t S2=>∃(i:Nat) (o:List UInt8),m=l.length - i∧i≤l.length∧i % 8=0∧o.length≤i∧o++bytes8 (l.drop i)=bytes8 l∧t 3=.ptr S.length 0∧OutAt S' S2 (t 6) o∧t 7=.int .i64 i) l.length
      ⟨0,[],by omega,by omega,rfl,by simp,by simp,h3,.inl ⟨rfl,rfl,rfl⟩,rfl⟩ ?_
     clear h3
     rintro m t S2 ⟨i,o,rfl,hi,hi8,ho,hob,h3,h6,h7⟩
     have hltS:∀{j:Nat} {B:Blk},S'[j]?=some B→j < S'.length:=fun {j} {B} hj=>by
      rcases Nat.lt_or_ge j S'.length with g | g
      ·exact g
      ·rw [List.getElem?_eq_none g] at hj; cases hj
     have hSb2:S2[S.length]?=some (.cells 0 [.rows (some τ) (l.map b8V)]):=by rw [h6.old _ hlt]; exact hSb
     refine wpV_of0 hD ?_
     rcases h6 with ⟨h6,rfl,rfl⟩ | ⟨σ,h6,hT⟩
     ·simp -implicitDefEqProofs (disch:=omega) only [push_cast,simprocAttr,h3,h6,h7,hSb2,↓gd]
      refine ⟨fun g=>?_,fun g=>?_⟩
      ·refine (number_ok l i 8 (by omega) (by omega) (by omega) hle S2).to ?_
       simp -implicitDefEqProofs (disch:=omega) only [push_cast,simprocAttr,h3,h6,h7,hSb2,↓gd]
       refine ⟨l.length - (i+8),by omega,i+8,[by8 (numOf ((l.drop i).take 8))],rfl,by omega,by omega,by simp,?_,.inr ⟨_,?_,⟨⟨_,rfl⟩,Nat.le_succ _,by simp⟩⟩,by simp⟩
       ·rw [←hob,bytes8_step (l:=l.drop i) (by simp; omega)]
        simp [List.drop_drop]
       ·simp [u8V_of]
      ·have:i=l.length:=by omega
       subst this
       rw [List.drop_length,bytes8_end (by simp)] at hob
       obtain ⟨X,rfl⟩:=grown (by omega) hold
       refine fin1 (.str _) ?_
       rw [pack,←hpad,←hob]
       rfl
     ·have hat:=hT.at
      simp -implicitDefEqProofs (disch:=omega) only [push_cast,simprocAttr,h3,h6,h7,hSb2,hat,↓gd]
      refine ⟨fun g=>?_,fun g=>?_⟩
      ·refine (number_ok l i 8 (by omega) (by omega) (by omega) hle S2).to ?_
       simp -implicitDefEqProofs (disch:=omega) only [push_cast,simprocAttr,h3,h6,h7,hSb2,hat,↓gd]
       refine ⟨by omega,l.length - (i+8),by omega,i+8,o++[by8 (numOf ((l.drop i).take 8))],rfl,by omega,by omega,by simp; omega,?_,.inr ⟨_,?_,hT.step1 _⟩,by simp⟩
       ·rw [←hob,bytes8_step (l:=l.drop i) (by simp; omega)]
        simp [List.drop_drop]
       ·simp [u8V_of]
      ·have:i=l.length:=by omega
       subst this
       rw [List.drop_length,bytes8_end (by simp)] at hob
       obtain ⟨X,rfl⟩:=grown (by omega) hold
       obtain ⟨⟨Y,rfl⟩,_,_⟩:=hT
       rw [List.append_assoc]
       refine fin1 (.str _) ?_
       rw [pack,←hpad,←hob]
       simp
end
section
open Go
theorem numW_len (n bits head:Nat):(numW n bits head).length≤n+2:=by
 unfold numW
 split
 ·simp
 ·have:=numTail_len (n - (2 ^ bits - 1)); simp only [List.length_cons]; omega
def wordW (w:List UInt8):List UInt8:=if (pack w).length < w.length then numW (pack w).length 7 1++pack w else numW w.length 7 0++w
theorem l2Write_ok (w:List UInt8) (hw:w.length≤1000) (hs:∀c ∈ w,0≤signAt c) (S:List Blk):VCall Tryz.prog 110 [.str w] S fun r S'=>r=.str (wordW w)∧S'=S:=by
 refine VCall.en hD Tryz.func110 Tryz.ntmps110 Tryz.results110 ?_
 simp -implicitDefEqProofs (disch:=omega) only [push_cast,simprocAttr,↓gd]
 refine (l2Pack_ok w hw hs S).to ?_
 simp -implicitDefEqProofs (disch:=omega) only [push_cast,simprocAttr,↓gd]
 refine ⟨fun h=>?_,fun h=>?_⟩
 ·refine (l1Write_ok (pack w).length 7 1 (by omega) (by omega) (by omega) S).to ?_
  simp -implicitDefEqProofs (disch:=omega) only [push_cast,simprocAttr,↓gd]
  refine ⟨by have:=numW_len (pack w).length 7 1; omega,fin0 ?_⟩
  rw [wordW,if_pos (by omega)]
 ·refine (l1Write_ok w.length 7 0 (by omega) (by omega) (by omega) S).to ?_
  simp -implicitDefEqProofs (disch:=omega) only [push_cast,simprocAttr,↓gd]
  refine ⟨by have:=numW_len w.length 7 0; omega,fin0 ?_⟩
  rw [wordW,if_neg (by omega)]
theorem WordWrite_ok (w:List UInt8) (hw:w.length≤1000) (S:List Blk):VCall Tryz.prog 105 [.str w] S fun r S'=>r=.str (if wordOk w then wordW w else [])∧S'=S:=by
 refine VCall.en hD Tryz.func105 Tryz.ntmps105 Tryz.results105 ?_
 simp -implicitDefEqProofs (disch:=omega) only [push_cast,simprocAttr,↓gd]
 refine (WordOk_ok w (by omega) S).to ?_
 cases hok:wordOk w
 ·simp -implicitDefEqProofs (disch:=omega) only [push_cast,simprocAttr,↓gd]
  exact fin0 rfl
 ·obtain ⟨hs,h16⟩:=wordOk_signs hok
  simp -implicitDefEqProofs (disch:=omega) only [push_cast,simprocAttr,↓gd]
  refine (WordPack_ok w hw S).to ?_
  rw [hok]
  simp -implicitDefEqProofs (disch:=omega) only [push_cast,simprocAttr,↓gd]
  refine ⟨fun h=>?_,fun h=>?_⟩
  ·refine ((NumWrite_ok (pack w).length 7 1 (by omega) (by omega) (by omega) S).as (by simp)).to ?_
   rw [if_pos ⟨by omega,by omega,by decide⟩]
   simp -implicitDefEqProofs (disch:=omega) only [push_cast,simprocAttr,↓gd]
   refine ⟨by have:=numW_len (pack w).length 7 1; omega,fin0 ?_⟩
   rw [wordW,if_pos (by omega)]
  ·refine ((NumWrite_ok w.length 7 0 (by omega) (by omega) (by omega) S).as (by simp)).to ?_
   rw [if_pos ⟨by omega,by omega,by decide⟩]
   simp -implicitDefEqProofs (disch:=omega) only [push_cast,simprocAttr,↓gd]
   refine ⟨by have:=numW_len w.length 7 0; omega,fin0 ?_⟩
   rw [wordW,if_neg (by omega)]
structure Fd where
 name:List UInt8
 val:List UInt8
 never:Bool
def fV (f:Fd):V:=.agg [.str f.name,.str f.val,.bool f.never]
theorem fV_eq (f:Fd):fV f=.agg [.str f.name,.str f.val,.bool f.never]:=rfl
attribute [push_cast] fV_eq
@[push_cast] theorem all_fV_len (l:List Fd):(l.map fV).all (lenIs 3)=true:=by induction l <;> simp_all [lenIs,fV,V.cells]
def fd0:Fd:=⟨[],[],false⟩
theorem getD_fV {l:List Fd} {i:Nat} (h:i < l.length):(l.map fV).getD i .junk=fV (l.getD i fd0):=by
 simp [List.getD,List.getElem?_eq_getElem h]
def FdB (f:Fd):Prop:=f.name.length≤2000000∧f.val.length≤2000000
def FdsB (l:List Fd):Prop:=l.length≤2000000∧∀f ∈ l,FdB f
def fieldOk (f:Fd):Bool:=wordOk f.name && wordOk f.val && decide (f.name≠[])
theorem sFieldOk_ok (f:Fd) (hf:FdB f) (S:List Blk):VCall Tryz.prog 76 [fV f] S fun r S'=>r=.bool (fieldOk f)∧S'=S:=by
 obtain ⟨h1,h2⟩:=hf
 refine VCall.en hD Tryz.func76 Tryz.ntmps76 Tryz.results76 ?_
 simp -implicitDefEqProofs (disch:=omega) only [push_cast,simprocAttr,↓gd]
 refine (sWordOk_ok f.name (by omega) _).to ?_
 cases hn:wordOk f.name
 ·simp -implicitDefEqProofs (disch:=omega) only [push_cast,simprocAttr,↓gd]
  exact fin1 (.bool _) (by simp [fieldOk,hn])
 ·by_cases h0:f.name=[]
  ·simp -implicitDefEqProofs (disch:=omega) only [push_cast,simprocAttr,h0,↓gd]
   exact fin1 (.bool _) (by simp [fieldOk,h0])
  ·simp -implicitDefEqProofs (disch:=omega) only [push_cast,simprocAttr,h0,↓gd]
   refine (sWordOk_ok f.val (by omega) _).to ?_
   simp -implicitDefEqProofs (disch:=omega) only [push_cast,simprocAttr,↓gd]
   exact fin1 (.bool _) (by simp [fieldOk,hn,h0])
theorem FieldOk_ok (f:Fd) (hf:FdB f) (S:List Blk):VCall Tryz.prog 88 [fV f] S fun r S'=>r=.bool (fieldOk f)∧S'=S:=by
 obtain ⟨h1,h2⟩:=hf
 refine VCall.en hD Tryz.func88 Tryz.ntmps88 Tryz.results88 ?_
 simp -implicitDefEqProofs (disch:=omega) only [push_cast,simprocAttr,↓gd]
 refine (WordOk_ok f.name (by omega) _).to ?_
 cases hn:wordOk f.name
 ·simp -implicitDefEqProofs (disch:=omega) only [push_cast,simprocAttr,↓gd]
  exact fin1 (.bool _) (by simp [fieldOk,hn])
 ·simp -implicitDefEqProofs (disch:=omega) only [push_cast,simprocAttr,↓gd]
  refine (WordOk_ok f.val (by omega) _).to ?_
  cases hv:wordOk f.val
  ·simp -implicitDefEqProofs (disch:=omega) only [push_cast,simprocAttr,↓gd]
   exact fin1 (.bool _) (by simp [fieldOk,hv])
  ·simp -implicitDefEqProofs (disch:=omega) only [push_cast,simprocAttr,↓gd]
   exact fin1 (.bool _) (by simp [fieldOk,hn,hv])
end
section
open Go
def fixedFds:List Fd:=[⟨[58,112,97,116,104],[],false⟩,⟨[58,115,116,97,116,117,115],[48],false⟩,⟨[58,115,116,97,116,117,115],[49,50],false⟩,⟨[107,105,110,100],[116,101,120,116],false⟩,⟨[115,105,122,101],[],false⟩,⟨[116,101],[116,114,97,105,108,101,114,115],false⟩]
theorem sTableFixed_ok (S:List Blk):VCall Tryz.prog 124 [] S fun r S'=>r=.rows (some S.length) (fixedFds.map fV)∧S'=S++[.right 3]:=by
 refine VCall.en hD Tryz.func124 Tryz.ntmps124 Tryz.results124 ?_
 simp -implicitDefEqProofs (disch:=omega) only [push_cast,simprocAttr,↓gd]
 exact ⟨_,_,Wk.refl _ _ _,rfl,rfl⟩
theorem TableFixed_ok (S:List Blk):VCall Tryz.prog 114 [] S fun r S'=>r=.rows (some S.length) (fixedFds.map fV)∧S'=S++[.right 3]:=by
 refine VCall.en hD Tryz.func114 Tryz.ntmps114 Tryz.results114 ?_
 simp -implicitDefEqProofs (disch:=omega) only [push_cast,simprocAttr,↓gd]
 exact ⟨_,_,Wk.refl _ _ _,rfl,rfl⟩
def fdSize (f:Fd):Nat:=f.name.length+f.val.length+4
def fdsSize (l:List Fd):Nat:=(l.map fdSize).sum
theorem fdsSize_append (l:List Fd) (f:Fd):fdsSize (l++[f])=fdsSize l+fdSize f:=by simp [fdsSize]
theorem take_fd {l:List Fd} {i:Nat} (h:i < l.length):l.take (i+1)=l.take i++[l.getD i fd0]:=by
 rw [List.take_succ_eq_append_getElem h,List.getD,List.getElem?_eq_getElem h]; rfl
theorem fdsSize_le (l:List Fd) (h:∀f ∈ l,FdB f):fdsSize l≤l.length * 4000004:=by
 induction l with
 | nil=>simp [fdsSize]
 | cons f l ih =>
  obtain ⟨h1,h2⟩:=h f (by simp)
  have:=ih (fun g hg=>h g (by simp [hg]))
  simp only [fdsSize,List.map_cons,List.sum_cons,List.length_cons,fdSize] at this ⊢
  omega
theorem getD_fd_mem {l:List Fd} {i:Nat} (h:i < l.length):l.getD i fd0 ∈ l:=by
 rw [List.getD,List.getElem?_eq_getElem h]; exact List.getElem_mem h
theorem l3One_ok (f:Fd) (hf:FdB f) (S:List Blk):VCall Tryz.prog 97 [fV f] S fun r S'=>r=.int .i64 (fdSize f)∧S'=S:=by
 obtain ⟨h1,h2⟩:=hf
 refine VCall.en hD Tryz.func97 Tryz.ntmps97 Tryz.results97 ?_
 simp -implicitDefEqProofs (disch:=omega) only [push_cast,simprocAttr,↓gd]
 exact fin1 (.int _ _) (by simp [fdSize])
theorem l3Size_ok (l:List Fd) (hl:FdsB l) (S:List Blk):VCall Tryz.prog 77 [.rows none (l.map fV)] S fun r S'=>r=.int .i64 (fdsSize l)∧S'=S:=by
 obtain ⟨hlen,hb⟩:=hl
 refine VCall.en hD Tryz.func77 Tryz.ntmps77 Tryz.results77 ?_
 simp -implicitDefEqProofs (disch:=omega) only [push_cast,simprocAttr,↓gd]
 refine wpV_loop (fun m t S'=>∃i:Nat,m=l.length - i∧i≤l.length∧t 0=.rows none (l.map fV)∧t 3=.int .i64 (fdsSize (l.take i))∧t 4=.int .i64 i∧S'=S) l.length ⟨0,by omega,by omega,rfl,rfl,rfl,rfl⟩ ?_
 rintro m t S' ⟨i,rfl,hi,h0,h3,h4,rfl⟩
 refine wpV_of0 hD ?_
 have hsz:=fdsSize_le (l.take i) (fun f hf=>hb f (List.mem_of_mem_take hf))
 have hti:(l.take i).length≤2000000:=by simp; omega
 simp -implicitDefEqProofs (disch:=omega) only [push_cast,simprocAttr,h0,h3,h4,↓gd]
 refine ⟨fun h=>⟨by omega,by omega,?_⟩,fun h=>fin0 ?_⟩
 ·have hil:i < l.length:=by omega
  have hfb:=hb _ (getD_fd_mem hil)
  rw [getD_fV hil]
  simp -implicitDefEqProofs (disch:=omega) only [push_cast,simprocAttr,h0,h3,h4,↓gd]
  refine (l3One_ok (l.getD i fd0) hfb S').to ?_
  have hone:fdSize (l.getD i fd0)≤4000004:=by obtain ⟨a,b⟩:=hfb; unfold fdSize; omega
  simp -implicitDefEqProofs (disch:=omega) only [push_cast,simprocAttr,h0,h3,h4,↓gd]
  refine ⟨l.length - (i+1),by omega,i+1,rfl,by omega,?_,by simp⟩
  rw [take_fd hil,fdsSize_append]
  simp
 ·have:i=l.length:=by omega
  subst this
  rw [List.take_length]
theorem size_ok (l:List Fd) (max:Int) (hl:FdsB l) (S:List Blk):VCall Tryz.prog 89 [.agg [.rows none (l.map fV),.int .i64 max]] S fun r S'=>r=.int .i64 (fdsSize l)∧S'=S:=by
 obtain ⟨hlen,hb⟩:=hl
 refine VCall.en hD Tryz.func89 Tryz.ntmps89 Tryz.results89 ?_
 simp -implicitDefEqProofs (disch:=omega) only [push_cast,simprocAttr,↓gd]
 refine wpV_loop (fun m t S'=>∃i:Nat,m=l.length - i∧i≤l.length∧t 7=.rows none (l.map fV)∧t 3=.int .i64 (fdsSize (l.take i))∧t 8=.int .i64 l.length∧t 9=.int .i64 i∧∃X,S'=S++X) l.length ⟨0,by omega,by omega,rfl,rfl,rfl,rfl,_,rfl⟩ ?_
 rintro m t S' ⟨i,rfl,hi,h7,h3,h8,h9,X,rfl⟩
 refine wpV_of0 hD ?_
 have hsz:=fdsSize_le (l.take i) (fun f hf=>hb f (List.mem_of_mem_take hf))
 have hti:(l.take i).length≤2000000:=by simp; omega
 simp -implicitDefEqProofs (disch:=omega) only [push_cast,simprocAttr,h7,h3,h8,h9,↓gd]
 refine ⟨fun h=>?_,fun h=>fin1 (.int _ _) ?_⟩
 ·have hil:i < l.length:=by omega
  have hfb:=hb _ (getD_fd_mem hil)
  have hone:fdSize (l.getD i fd0)≤4000004:=by obtain ⟨a,b⟩:=hfb; unfold fdSize; omega
  obtain ⟨hna,hva⟩:=hfb
  rw [getD_fV hil]
  simp -implicitDefEqProofs (disch:=omega) only [push_cast,simprocAttr,h7,h3,h8,h9,↓gd]
  refine ⟨by omega,by omega,l.length - (i+1),by omega,i+1,rfl,by omega,?_,by simp,_,rfl⟩
  rw [take_fd hil,fdsSize_append]
  simp [fdSize]
 ·have:i=l.length:=by omega
  subst this
  rw [List.take_length]
def tableOk (l:List Fd) (max:Int):Bool:=l.all (fun f=>fieldOk f && !f.never) && (decide (0≤max) && decide (max≤64)) && decide ((fdsSize l:Int)≤max)
theorem all_fd_bad {p:Fd→Bool} {w:List Fd} {i:Nat} (h:i < w.length) (hb:p (w.getD i fd0)=false):w.all p=false:=by
 rw [Bool.eq_false_iff]
 intro ha
 have:=List.all_eq_true.1 ha _ (getD_fd_mem h)
 rw [hb] at this; cases this
theorem all_fd_succ {p:Fd→Bool} {w:List Fd} {i:Nat} (h:i < w.length) (h1:(w.take i).all p=true) (h2:p (w.getD i fd0)=true):(w.take (i+1)).all p=true:=by
 rw [take_fd h,List.all_append,h1]
 simpa using h2
theorem sTableOk_ok (l:List Fd) (max:Int) (hl:FdsB l) (S:List Blk):VCall Tryz.prog 43 [.agg [.rows none (l.map fV),.int .i64 max]] S fun r S'=>r=.bool (tableOk l max)∧S'=S:=by
 have hl':=hl
 obtain ⟨hlen,hb⟩:=hl
 refine VCall.ex hD (fun _=>false) (fun id=>if id=6 then [2,2,6,6,6,6,12,12,12,12,12,12] else []) Tryz.func43 Tryz.ntmps43 Tryz.results43 ?_
 simp -implicitDefEqProofs (disch:=omega) only [push_cast,simprocAttr,↓gd]
 refine wpV_loop (fun m t S'=>∃i:Nat,m=l.length - i∧i≤l.length∧(l.take i).all (fun f=>fieldOk f && !f.never)=true∧t 1=.ptr S.length 0∧t 3=.int .i64 i∧S'=S++[.cells 0 [.rows none (l.map fV),.int .i64 max]]) l.length ⟨0,by omega,by omega,by simp,rfl,rfl,rfl⟩ ?_
 rintro m t S' ⟨i,rfl,hi,hno,h1,h3,rfl⟩
 refine wpV_of hD (fun _=>false) (fun id=>if id=6 then [2,2,6,6,6,6,12,12,12,12,12,12] else []) (by kernel_rfl) ?_
 simp -implicitDefEqProofs (disch:=omega) only [push_cast,simprocAttr,h1,h3,↓gd]
 refine ⟨fun h=>⟨by omega,by omega,?_⟩,fun h=>?_⟩
 ·have hil:i < l.length:=by omega
  have hfb:=hb _ (getD_fd_mem hil)
  have hgd:=getD_fV hil
  generalize hf:l.getD i fd0=f at hfb hgd
  simp -implicitDefEqProofs (disch:=omega) only [push_cast,simprocAttr,h1,h3,hgd,↓gd]
  refine (sFieldOk_ok f hfb _).to ?_
  cases hok:fieldOk f
  ·simp -implicitDefEqProofs (disch:=omega) only [push_cast,simprocAttr,h1,h3,↓gd]
   exact fin1 (.bool _) (by rw [tableOk,all_fd_bad hil (by rw [hf,hok]; rfl)]; rfl)
  ·cases hne:f.never
   ·simp -implicitDefEqProofs (disch:=omega) only [push_cast,simprocAttr,h1,h3,hgd,hne,↓gd]
    exact ⟨by omega,by omega,l.length - (i+1),by omega,i+1,rfl,by omega,all_fd_succ hil hno (by rw [hf,hok,hne]; rfl),by simp⟩
   ·simp -implicitDefEqProofs (disch:=omega) only [push_cast,simprocAttr,h1,h3,hgd,hne,↓gd]
    exact ⟨by omega,by omega,fin1 (.bool _) (by rw [tableOk,all_fd_bad hil (by rw [hf,hok,hne]; rfl)]; rfl)⟩
 ·have:i=l.length:=by omega
  subst this
  rw [List.take_length] at hno
  refine (l6In_ok max 0 64 _).to ?_
  cases hin:(decide ((0:Int)≤max) && decide (max≤64))
  ·simp -implicitDefEqProofs (disch:=omega) only [push_cast,simprocAttr,h1,h3,↓gd]
   exact fin1 (.bool _) (by rw [tableOk,hin]; simp)
  ·simp -implicitDefEqProofs (disch:=omega) only [push_cast,simprocAttr,h1,h3,↓gd]
   refine (l3Size_ok l hl' _).to ?_
   simp -implicitDefEqProofs (disch:=omega) only [push_cast,simprocAttr,h1,h3,↓gd]
   exact fin1 (.bool _) (by rw [tableOk,hin,hno]; simp)
theorem any_at {p:Fd→Bool} {l:List Fd} {i:Nat} (h:i < l.length) (h1:(l.take i).any p=false) (h2:p (l.getD i fd0)=true):l.any p=true :=
 List.any_eq_true.2 ⟨_,getD_fd_mem h,h2⟩
theorem findIdx_at {p:Fd→Bool} {l:List Fd} {i:Nat} (h:i < l.length) (h1:(l.take i).any p=false) (h2:p (l.getD i fd0)=true):l.findIdx p=i:=by
 rw [List.getD,List.getElem?_eq_getElem h,Option.getD_some] at h2
 rw [List.findIdx_eq h]
 refine ⟨h2,fun j hj=>?_⟩
 have:=List.any_eq_false.1 h1 l[j] (by rw [List.mem_take_iff_getElem]; exact ⟨j,by omega,rfl⟩)
 simpa using this
theorem IndexFunc_ok (l:List Fd) (fid:Nat) (caps:List V) (p:Fd→Bool) (hlen:l.length≤2000000) (S:List Blk) (hp:∀g ∈ l,VCall Tryz.prog fid (eraseArgs (fV g :: caps)) S fun r S'=>r=.bool (p g)∧S'=S) :
  VCall Tryz.prog 101 [.rows none (l.map fV),.fn fid caps] S fun r S'=>r=.int .i64 (if l.any p then (l.findIdx p:Int) else -1)∧S'=S:=by
 refine VCall.en hD Tryz.func101 Tryz.ntmps101 Tryz.results101 ?_
 simp -implicitDefEqProofs (disch:=omega) only [push_cast,simprocAttr,↓gd]
 refine wpV_loop (fun m t S'=>∃i:Nat,m=l.length - i∧i≤l.length∧(l.take i).any p=false∧t 0=.rows none (l.map fV)∧t 1=.fn fid caps∧t 7=.int .i64 l.length∧t 8=.int .i64 i∧S'=S) l.length ⟨0,by omega,by omega,by simp,rfl,rfl,rfl,rfl,rfl⟩ ?_
 rintro m t S' ⟨i,rfl,hi,hno,h0,h1,h7,h8,rfl⟩
 refine wpV_of0 hD ?_
 simp -implicitDefEqProofs (disch:=omega) only [push_cast,simprocAttr,h0,h1,h7,h8,↓gd]
 refine ⟨fun h=>?_,fun h=>?_⟩
 ·have hil:i < l.length:=by omega
  have hgd:=getD_fV hil
  have hpf:=hp _ (getD_fd_mem hil)
  generalize hf:l.getD i fd0=f at hgd hpf
  simp -implicitDefEqProofs (disch:=omega) only [push_cast,simprocAttr,h0,h1,h7,h8,hgd,↓gd]
  refine ⟨by omega,by omega,(hpf.as rfl).to ?_⟩
  cases hpv:p f
  ·simp -implicitDefEqProofs (disch:=omega) only [push_cast,simprocAttr,h0,h1,h7,h8,↓gd]
   refine ⟨l.length - (i+1),by omega,i+1,rfl,by omega,?_,by simp⟩
   rw [take_fd hil,List.any_append,hno,hf]; simp [hpv]
  ·simp -implicitDefEqProofs (disch:=omega) only [push_cast,simprocAttr,h0,h1,h7,h8,↓gd]
   refine fin0 ?_
   rw [any_at hil hno (by rw [hf,hpv]),findIdx_at hil hno (by rw [hf,hpv])]; rfl
 ·have:i=l.length:=by omega
  subst this
  rw [List.take_length] at hno
  refine fin0 ?_
  rw [hno]; rfl
theorem ContainsFunc_ok (l:List Fd) (fid:Nat) (caps:List V) (p:Fd→Bool) (hlen:l.length≤2000000) (S:List Blk) (hp:∀g ∈ l,VCall Tryz.prog fid (eraseArgs (fV g :: caps)) S fun r S'=>r=.bool (p g)∧S'=S) :
  VCall Tryz.prog 86 [.rows none (l.map fV),.fn fid caps] S fun r S'=>r=.bool (l.any p)∧S'=S:=by
 refine VCall.en hD Tryz.func86 Tryz.ntmps86 Tryz.results86 ?_
 simp -implicitDefEqProofs (disch:=omega) only [push_cast,simprocAttr,↓gd]
 refine (IndexFunc_ok l fid caps p hlen S hp).to ?_
 cases h:l.any p
 ·simp -implicitDefEqProofs (disch:=omega) only [push_cast,simprocAttr,↓gd]
  exact fin0 rfl
 ·simp -implicitDefEqProofs (disch:=omega) only [push_cast,simprocAttr,↓gd]
  exact fin0 (by simp)
theorem tableOk1_ok (f:Fd) (hf:FdB f) (S:List Blk):VCall Tryz.prog 87 [fV f] S fun r S'=>r=.bool (!fieldOk f || f.never)∧S'=S:=by
 refine VCall.en hD Tryz.func87 Tryz.ntmps87 Tryz.results87 ?_
 simp -implicitDefEqProofs (disch:=omega) only [push_cast,simprocAttr,↓gd]
 refine (FieldOk_ok f hf _).to ?_
 cases hok:fieldOk f
 ·simp -implicitDefEqProofs (disch:=omega) only [push_cast,simprocAttr,↓gd]
  exact fin1 (.bool _) rfl
 ·simp -implicitDefEqProofs (disch:=omega) only [push_cast,simprocAttr,↓gd]
  exact fin1 (.bool _) (by simp)
theorem headOk1_ok (f:Fd) (hf:FdB f) (S:List Blk):VCall Tryz.prog 99 [fV f] S fun r S'=>r=.bool (!fieldOk f)∧S'=S:=by
 refine VCall.en hD Tryz.func99 Tryz.ntmps99 Tryz.results99 ?_
 simp -implicitDefEqProofs (disch:=omega) only [push_cast,simprocAttr,↓gd]
 refine (FieldOk_ok f hf _).to ?_
 simp -implicitDefEqProofs (disch:=omega) only [push_cast,simprocAttr,↓gd]
 exact fin1 (.bool _) rfl
theorem any_not_all (l:List Fd):l.any (fun f=>!fieldOk f || f.never)=!l.all (fun f=>fieldOk f && !f.never):=by
 induction l with
 | nil=>rfl
 | cons f l ih=>simp only [List.any_cons,List.all_cons,ih,Bool.not_and,Bool.not_not]
theorem TableOk_ok (l:List Fd) (max:Int) (hl:FdsB l) (S:List Blk):VCall Tryz.prog 57 [.agg [.rows none (l.map fV),.int .i64 max]] S fun r S'=>r=.bool (tableOk l max)∧S'=S:=by
 have hl':=hl
 obtain ⟨hlen,hb⟩:=hl
 refine VCall.ex hD (fun _=>false) (fun id=>if id=1 then [2,2,6,6,6,6,11,11,11,11,11,17,17,17,17,17,17] else []) Tryz.func57 Tryz.ntmps57 Tryz.results57 ?_
 simp -implicitDefEqProofs (disch:=omega) only [push_cast,simprocAttr,↓gd]
 refine (in_ok max 0 64 _).to ?_
 cases hin:(decide ((0:Int)≤max) && decide (max≤64))
 ·simp -implicitDefEqProofs (disch:=omega) only [push_cast,simprocAttr,↓gd]
  exact fin1 (.bool _) (by rw [tableOk,hin]; simp)
 ·simp -implicitDefEqProofs (disch:=omega) only [push_cast,simprocAttr,↓gd]
  refine (ContainsFunc_ok l _ [] _ hlen _ (fun g hg=>(tableOk1_ok g (hb g hg) _).as rfl)).to ?_
  rw [any_not_all]
  cases hall:l.all (fun f=>fieldOk f && !f.never)
  ·simp -implicitDefEqProofs (disch:=omega) only [push_cast,simprocAttr,↓gd]
   exact fin1 (.bool _) (by rw [tableOk,hall]; simp)
  ·simp -implicitDefEqProofs (disch:=omega) only [push_cast,simprocAttr,↓gd]
   refine (size_ok l max hl' _).to ?_
   simp -implicitDefEqProofs (disch:=omega) only [push_cast,simprocAttr,↓gd]
   exact fin1 (.bool _) (by rw [tableOk,hin,hall]; simp)
end
section
open Go
def growRen:Go.Shelf.Ren:=⟨fun _=>116,fun t=>if t=0 then 0 else if t=3 then 3 else if t=4 then 4 else if t=9 then 9 else if t=20 then 20 else if t=22 then 32 else 117,fun g=>g⟩
theorem growLay:Lays8.n4 Tryz.prog growRen where
 mixed:=by kernel_rfl
 f4:=⟨Tryz.f116.name,by decide,by kernel_rfl⟩
 t0:=by kernel_rfl
 a0:=Tryz.isAgg0
 z0:=Tryz.sizeOf0
 v0:=Tryz.zeroValue0
 t3:=by kernel_rfl
 a3:=Tryz.isAgg3
 z3:=Tryz.sizeOf3
 v3:=Tryz.zeroValue3
 t4:=by kernel_rfl
 a4:=Tryz.isAgg4
 z4:=Tryz.sizeOf4
 v4:=Tryz.zeroValue4
 t9:=by kernel_rfl
 a9:=Tryz.isAgg9
 z9:=Tryz.sizeOf9
 v9:=Tryz.zeroValue9
 t20:=by kernel_rfl
 a20:=Tryz.isAgg20
 z20:=Tryz.sizeOf20
 v20:=Tryz.zeroValue20
 t22:=by kernel_rfl
 a22:=Tryz.isAgg32
 z22:=Tryz.sizeOf32
 v22:=Tryz.zeroValue32
theorem zeroCells_add (a:Array Value) (n m:Nat):Builtin.zeroCells a n++Builtin.zeroCells a m=Builtin.zeroCells a (n+m):=by
 apply Array.ext
 ·simp [Builtin.zeroCells,Nat.add_mul]
 ·intro i h1 h2
  rw [Array.getElem_append]
  split
  ·simp [Builtin.zeroCells]
  ·rename_i h
   simp only [Builtin.zeroCells,Array.size_map,Array.size_range,Nat.not_lt,Array.getElem_map,Array.getElem_range] at h ⊢
   congr 1
   rw [←Nat.sub_add_cancel h,Nat.add_sub_cancel,Nat.add_mul_mod_self_right]
theorem Grow_ok (n:Nat) (hn:0 < n) (hn2:n≤4194304) (S:List Blk):VCall Tryz.prog 116 [.nils,.int .i64 n] S fun r S'=>r=.rows (some S.length) []∧S'=S++[.right 3]:=by
 refine .inl ⟨⟨_,Tryz.func116,rfl,rfl⟩,_,_,⟨rfl,rfl⟩,?_⟩
 intro G w cargs hall hR
 obtain ⟨i,z,hi,hisz,hiby,hz,_,_,hzs⟩:=ty_info hD (t:=117) rfl
 have hc:cargs=#[.slice none 0 0,.int .i64 n]:=by
  obtain ⟨hl,hv⟩:=hall
  obtain ⟨l⟩:=cargs
  match l,hl with
  | [a,b],_ =>
   have h0:=hv 0 .nils a rfl rfl
   have h1:=hv 1 (.int .i64 n) b rfl rfl
   cases h0; cases h1; rfl
 subst hc
 have hcall:=Any8.slices_Grow_grow growLay i z hi hz (by rw [hisz]; decide) none 0 0 n [] w (Nat.le_refl _) (by omega) (by rw [hiby]; show (0+n) * 40≤_; omega) (by omega) (by simp) (fun _=>rfl) (fun a h=>by cases h)
 refine Calls.mono hcall ?_
 rintro e w' ⟨rfl,rfl⟩
 obtain ⟨G',h1,h2,h3⟩:=grow_row hD (e:=117) rfl hR (zs:=[]) (fun v hv=>by cases hv) (c:=#[]) ⟨rfl,by simp,by simp⟩ hzs (cap:=grownCap w (0+n) 0 117) (Nat.zero_le _)
 have hG:=grownCap_ge w (0+n) 0 117
 have e:(#[]:Array Value)++Builtin.zeroCells z.cells (grownCap w (0+n) 0 117 - ([]:List V).length)=([]:List Value).toArray++Builtin.zeroCells z.cells (0+n - 0)++Builtin.zeroCells z.cells (grownCap w (0+n) 0 117 - (0+n)):=by
  rw [Array.append_assoc,zeroCells_add]
  congr 2
  simp only [List.length_nil]
  omega
 rw [e] at h1 h2 h3
 exact ⟨_,G',rfl,h1,h2,h3⟩
end
end Go.Proofs.YtldogccmhncnoaaGreat
