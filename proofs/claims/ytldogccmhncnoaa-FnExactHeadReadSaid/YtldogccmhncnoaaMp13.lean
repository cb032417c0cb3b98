/- A part of the proof: contracts of functions, or plain facts on which these lean. -/
import Derived.Laws.Externs
import Derived.Lib.Bytealg
import Derived.Test.YtldogccmhncnoaaMp12
namespace Go.Proofs.Ytldogccmhncnoaa
open Go
set_option linter.unusedVariables false
set_option linter.unusedSimpArgs false
set_option maxRecDepth 100000
set_option maxHeartbeats 16000000

section
open Go
theorem l6In_ok (n a b:Int) (S:List Blk):VCall Try.prog 26 [.int .i64 n,.int .i64 a,.int .i64 b] S fun r S'=>r=.bool (decide (a≤n) && decide (n≤b))∧S'=S:=by
 refine VCall.en hD Try.func26 Try.ntmps26 Try.results26 ?_
 simp -implicitDefEqProofs (disch:=omega) only [push_cast,simprocAttr,↓gd]
 refine ⟨fun h=>fin0 ?_,fun h=>fin0 ?_⟩ <;> simp <;> omega
theorem in_ok (n a b:Int) (S:List Blk):VCall Try.prog 30 [.int .i64 n,.int .i64 a,.int .i64 b] S fun r S'=>r=.bool (decide (a≤n) && decide (n≤b))∧S'=S:=by
 refine VCall.en hD Try.func30 Try.ntmps30 Try.results30 ?_
 simp -implicitDefEqProofs (disch:=omega) only [push_cast,simprocAttr,↓gd]
 refine ⟨fun h=>fin0 ?_,fun h=>fin0 ?_⟩ <;> simp <;> omega
theorem in_t {n a b:Int} (h:a≤n∧n≤b) (S:List Blk):VCall Try.prog 30 [.int .i64 n,.int .i64 a,.int .i64 b] S fun r S'=>r=.bool true∧S'=S:=by
 have:=in_ok n a b S
 rwa [decide_eq_true h.1,decide_eq_true h.2] at this
theorem in_f {n a b:Int} (h:¬(a≤n∧n≤b)) (S:List Blk):VCall Try.prog 30 [.int .i64 n,.int .i64 a,.int .i64 b] S fun r S'=>r=.bool false∧S'=S:=by
 have:=in_ok n a b S
 rwa [show (decide (a≤n) && decide (n≤b))=false by simp; omega] at this
theorem l1Byte_ok (n:Nat) (S:List Blk):VCall Try.prog 70 [.int .i64 n] S fun r S'=>r=.str [by8 n]∧S'=S:=by
 refine VCall.en hD Try.func70 Try.ntmps70 Try.results70 ?_
 simp -implicitDefEqProofs (disch:=omega) only [push_cast,simprocAttr,↓gd]
 exact fin1 (.str _) (by rw [byte_wrap,byInt])
theorem l1Top_ok (n:Nat) (hn:n≤40) (S:List Blk):VCall Try.prog 54 [.int .i64 n] S fun r S'=>r=.int .i64 (2 ^ n:Nat)∧S'=S:=by
 refine VCall.en hD Try.func54 Try.ntmps54 Try.results54 ?_
 simp -implicitDefEqProofs (disch:=omega) only [push_cast,simprocAttr,↓gd]
 refine wpV_loop (fun m t S'=>∃i p:Nat,m=n - i∧i≤n∧p=2 ^ i∧t 0=.int .i64 n∧t 3=.int .i64 p∧t 4=.int .i64 i∧S'=S) n ⟨0,1,by simp,by omega,rfl,rfl,rfl,rfl,rfl⟩ ?_
 rintro m t S' ⟨i,p,rfl,hi,hp,h0,h3,h4,rfl⟩
 refine wpV_of0 hD ?_
 have hp2:p≤2 ^ 40:=by rw [hp]; exact Nat.pow_le_pow_right (by omega) (by omega)
 simp -implicitDefEqProofs (disch:=omega) only [push_cast,simprocAttr,h0,h3,h4,↓gd]
 refine ⟨fun h=>⟨n - (i+1),by omega,i+1,2 * p,rfl,by omega,by rw [hp,Nat.pow_succ,Nat.mul_comm],by simp,by simp⟩,fun h=>fin0 ?_⟩
 have:i=n:=by omega
 subst this
 simp [hp]
theorem NumWrite_ok (n:Int) (bits head:Nat) (hn:-1000000000≤n∧n≤1000000000) (hb:3≤bits∧bits≤7) (hh:head≤256) (S:List Blk) :
  VCall Try.prog 49 [.int .i64 n,.int .i64 bits,.int .i64 head] S fun r S'=>r=.str (if 0≤n∧n≤9999∧head < 2 ^ (8 - bits) then numW n.toNat bits head else [])∧S'=S:=by
 obtain ⟨p,hp⟩:∃p,p=2 ^ bits:=⟨_,rfl⟩
 obtain ⟨p8,hp8⟩:∃p8,p8=2 ^ (8 - bits):=⟨_,rfl⟩
 have hp2:p≤2 ^ 7:=by rw [hp]; exact Nat.pow_le_pow_right (by omega) (by omega)
 have hp1:1≤p:=by rw [hp]; exact Nat.one_le_two_pow
 have hp4:p8≤2 ^ 8:=by rw [hp8]; exact Nat.pow_le_pow_right (by omega) (by omega)
 have hp3:1≤p8:=by rw [hp8]; exact Nat.one_le_two_pow
 have e1:(2:Int) ^ min ((8:Int) - bits).toNat 64=p8:=by rw [hp8,show min ((8:Int) - bits).toNat 64=8 - bits by omega]; simp
 have e2:(2:Int) ^ min bits 64=p:=by rw [hp,show min bits 64=bits by omega]; simp
 rw [←hp8]
 by_cases h1:0≤n∧n≤9999
 ·obtain ⟨n,rfl⟩:∃m:Nat,n=m:=⟨n.toNat,by omega⟩
  by_cases h2:head < p8
  ·have hq0:head * p+p≤p8 * p:=by rw [←Nat.succ_mul]; exact Nat.mul_le_mul_right _ h2
   have hq1:p8 * p=256:=by rw [hp,hp8,←Nat.pow_add,show 8 - bits+bits=8 by omega]
   obtain ⟨q,hq⟩:∃q,q=head * p:=⟨_,rfl⟩
   have hq3:(head:Int) * (p:Int)=q:=by rw [hq]; simp
   rw [if_pos ⟨h1.1,h1.2,h2⟩,Int.toNat_natCast]
   refine VCall.en hD Try.func49 Try.ntmps49 Try.results49 ?_
   simp -implicitDefEqProofs (disch:=omega) only [push_cast,simprocAttr,↓gd]
   refine (in_t h1 _).to ?_
   simp -implicitDefEqProofs (disch:=omega) only [push_cast,simprocAttr,↓gd]
   refine (in_t (by omega) _).to ?_
   simp -implicitDefEqProofs (disch:=omega) only [push_cast,simprocAttr,e1,↓gd]
   refine ⟨by omega,(in_t (by omega) _).to ?_⟩
   simp -implicitDefEqProofs (disch:=omega) only [push_cast,simprocAttr,e1,e2,hq3,↓gd]
   refine ⟨by omega,fun h=>⟨by omega,fin1 (.str _) ?_⟩,fun h=>⟨by omega,?_⟩⟩
   ·rw [or_nat (by omega) (by omega),or_add hp hq (by omega),by8_wrap,numW,←hp,if_pos (by omega),hq]
   have eb:intBits .or .i64 (q:Int) (1 * (p:Int) - 1)=((q+(p - 1):Nat):Int):=by
    rw [show (1 * (p:Int) - 1)=((p - 1:Nat):Int) by omega,or_nat (by omega) (by omega),or_add hp hq (by omega)]
   rw [eb]
   refine wpV_loop (fun x t S'=>∃o:List UInt8,∃τ,x≤10000∧o.length≤10001 - x∧o++numTail x=numW n bits head∧t 0=.int .i64 x∧t 8=.rows (some τ) (o.map u8V)∧Tok S S' τ 1) (n - (p - 1))
    ⟨[by8 (q+(p - 1))],S.length,by omega,?_,?_,?_,?_,Tok.new _ _⟩ ?_
   ·simp; omega
   ·rw [numW,←hp,if_neg (by omega),hq]; rfl
   ·show V.int .i64 _=_
    congr 1; omega
   ·show V.rows _ _=_
    rw [u8V_of]; rfl
   rintro x t S' ⟨o,τ,hx,ho,hw,h0,h8,hT⟩
   have hat:=hT.at
   refine wpV_of0 hD ?_
   simp -implicitDefEqProofs (disch:=omega) only [push_cast,simprocAttr,h0,h8,hat,↓gd]
   refine ⟨fun h=>⟨by omega,x / 128,by omega,o++[by8 (x % 128+128)],S'.length+1,by omega,by simp; omega,?_,?_,?_,hT.step1 _⟩,fun h=>⟨by omega,hT.step1 _ |>.fin (.str _) ?_⟩⟩
   ·rw [←hw,numTail_ge (m:=x) (by omega)]; simp
   ·rw [shr7]
   ·rw [and127 x (by omega),or128 _ (by omega),u8V_of,Nat.add_comm 128]; simp
   ·rw [←hw,numTail_lt (by omega),by8_wrap]
  ·rw [if_neg (by omega)]
   refine VCall.en hD Try.func49 Try.ntmps49 Try.results49 ?_
   simp -implicitDefEqProofs (disch:=omega) only [push_cast,simprocAttr,↓gd]
   refine (in_t h1 _).to ?_
   simp -implicitDefEqProofs (disch:=omega) only [push_cast,simprocAttr,↓gd]
   refine (in_t (by omega) _).to ?_
   simp -implicitDefEqProofs (disch:=omega) only [push_cast,simprocAttr,e1,↓gd]
   refine ⟨by omega,(in_f (by omega) _).to ?_⟩
   simp -implicitDefEqProofs (disch:=omega) only [push_cast,simprocAttr,↓gd]
   exact fin0 rfl
 ·rw [if_neg (by omega)]
  refine VCall.en hD Try.func49 Try.ntmps49 Try.results49 ?_
  simp -implicitDefEqProofs (disch:=omega) only [push_cast,simprocAttr,↓gd]
  refine (in_f h1 _).to ?_
  simp -implicitDefEqProofs (disch:=omega) only [push_cast,simprocAttr,↓gd]
  exact fin0 rfl
end
section
open Go
def signs:List UInt8:=[101,116,97,111,105,110,115,114,104,108,48,49,50,51,52,53,54,55,56,57,100,99,117,109,102,112,103,119,121,98,118,107,120,106,113,122,58,47,45]
def signAt (b:UInt8):Int:=Lib.indexByte signs b
theorem indexByteString_ok (s:List UInt8) (c:UInt8) (S:List Blk):VCall Try.prog 67 [.str s,.int .u8 (c.toNat:Int)] S fun r S'=>r=.int .i64 (Lib.indexByte s c)∧S'=S:=by
 refine .inr ⟨_,⟨rfl,rfl⟩,fun G w cargs hall=>?_⟩
 obtain ⟨x,y,rfl⟩:∃x y,cargs=#[x,y]:=by
  have:=hall.1
  obtain ⟨l⟩:=cargs
  match l,this with
  | [x,y],_=>exact ⟨x,y,rfl⟩
 have h1:=hall.2 0 _ _ rfl rfl
 have h2:=hall.2 1 _ _ rfl rfl
 cases h1; cases h2
 refine ⟨.int .i64 (Lib.indexByte s c),?_,.int _ _⟩
 rw [run_callFunc_extern (fn:=Try.f67) Try.func67 (by kernel_rfl) (by kernel_rfl) (by kernel_rfl) (e:=Extern.BytealgIndexByte.indexByte) (by kernel_rfl),Lib.run_indexByteString]
 simp
theorem liteIndexByte_ok (s:List UInt8) (c:UInt8) (S:List Blk):VCall Try.prog 65 [.str s,.int .u8 (c.toNat:Int)] S fun r S'=>r=.int .i64 (Lib.indexByte s c)∧S'=S:=by
 refine VCall.en hD Try.func65 Try.ntmps65 Try.results65 ?_
 simp -implicitDefEqProofs (disch:=omega) only [push_cast,simprocAttr,↓gd]
 refine (indexByteString_ok s c S).to ?_
 simp -implicitDefEqProofs (disch:=omega) only [push_cast,simprocAttr,↓gd]
 exact fin0 rfl
theorem indexByte_ok (s:List UInt8) (c:UInt8) (S:List Blk):VCall Try.prog 58 [.str s,.int .u8 (c.toNat:Int)] S fun r S'=>r=.int .i64 (Lib.indexByte s c)∧S'=S:=by
 refine VCall.en hD Try.func58 Try.ntmps58 Try.results58 ?_
 simp -implicitDefEqProofs (disch:=omega) only [push_cast,simprocAttr,↓gd]
 refine (liteIndexByte_ok s c S).to ?_
 simp -implicitDefEqProofs (disch:=omega) only [push_cast,simprocAttr,↓gd]
 exact fin0 rfl
theorem indexByte_at:∀(l:List UInt8) (c:UInt8) (i:Nat),(∀j,j < i→l[j]?≠some c)→l[i]?=some c→Lib.indexByte l c=i
 | [],c,i,_,h=>by simp at h
 | b :: l,c,0,_,h=>by simp at h; simp [Lib.indexByte,h]
 | b :: l,c,i+1,h0,h=>by
  have hb:b≠c:=fun e=>h0 0 (by omega) (by simp [e])
  have:=indexByte_at l c i (fun j hj=>by have:=h0 (j+1) (by omega); simpa using this) (by simpa using h)
  simp only [Lib.indexByte,this,beq_eq_false_iff_ne.2 hb]
  have h2:((i:Int) == -1)=false:=by simp
  simp [h2]
theorem indexByte_no:∀(l:List UInt8) (c:UInt8),(∀j,j < l.length→l[j]?≠some c)→Lib.indexByte l c=-1
 | [],c,_=>rfl
 | b :: l,c,h0=>by
  have hb:b≠c:=fun e=>h0 0 (by simp) (by simp [e])
  have:=indexByte_no l c (fun j hj=>by have:=h0 (j+1) (by simpa using hj); simpa using this)
  simp [Lib.indexByte,this,hb]
theorem u8_eq (a b:UInt8):((a.toNat:Int)=(b.toNat:Int))↔a=b:=by
 constructor
 ·intro h; exact UInt8.toNat.inj (by omega)
 ·rintro rfl; rfl
theorem l2Sign_ok (c:UInt8) (S:List Blk):VCall Try.prog 53 [.int .u8 (c.toNat:Int)] S fun r S'=>r=.int .i64 (signAt c)∧S'=S:=by
 refine VCall.en hD Try.func53 Try.ntmps53 Try.results53 ?_
 simp -implicitDefEqProofs (disch:=omega) only [push_cast,simprocAttr,↓gd]
 refine wpV_loop (fun m t S'=>∃i:Nat,m=39 - i∧i≤39∧(∀j,j < i→signs[j]?≠some c)∧t 0=.int .u8 (c.toNat:Int)∧t 3=.int .i64 i∧S'=S) 39 ⟨0,rfl,by omega,by simp,rfl,rfl,rfl⟩ ?_
 rintro m t S' ⟨i,rfl,hi,hno,h0,h3,rfl⟩
 refine wpV_of0 hD ?_
 simp -implicitDefEqProofs (disch:=omega) only [push_cast,simprocAttr,h0,h3,↓gd]
 refine ⟨fun h=>⟨by omega,by omega,?_⟩,fun h=>fin0 ?_⟩
 ·have hi2:i < signs.length:=by show i < 39; omega
  have hg:signs[i]?=some (signs.getD i 0):=by rw [List.getD,List.getElem?_eq_getElem hi2]; rfl
  change ((((signs.getD i 0).toNat:Int)=(c.toNat:Int))→_)∧(¬(((signs.getD i 0).toNat:Int)=(c.toNat:Int))→_)
  rw [u8_eq]
  refine ⟨fun e=>fin0 ?_,fun e=>⟨39 - (i+1),by omega,i+1,rfl,by omega,fun j hj=>?_,by simp⟩⟩
  ·rw [signAt,indexByte_at signs c i hno (by rw [hg,e])]
  ·rcases Nat.lt_succ_iff_lt_or_eq.1 hj with g | rfl
   ·exact hno j g
   ·rw [hg]; simpa using e
 ·have:i=39:=by omega
  subst this
  rw [signAt,indexByte_no signs c hno]
def wordOk (w:List UInt8):Bool:=w.all (fun c=>decide (0≤signAt c)) && decide (w.length≤16)
theorem hDi:TypesOk Try.prog (wrOf D [3]):=wrOk hD _
theorem all_take_bad {p:UInt8→Bool} {w:List UInt8} {i:Nat} (h:i < w.length) (hb:p (w.getD i 0)=false):w.all p=false:=by
 rw [List.getD,List.getElem?_eq_getElem h] at hb
 rw [Bool.eq_false_iff]
 intro ha
 have:=List.all_eq_true.1 ha w[i] (List.getElem_mem h)
 simp only [Option.getD_some] at hb
 rw [hb] at this; cases this
theorem all_take_succ {p:UInt8→Bool} {w:List UInt8} {i:Nat} (h:i < w.length) (h1:(w.take i).all p=true) (h2:p (w.getD i 0)=true):(w.take (i+1)).all p=true:=by
 rw [List.getD,List.getElem?_eq_getElem h] at h2
 rw [List.take_succ_eq_append_getElem h,List.all_append,h1]
 simpa using h2
theorem sWordOk_ok (w:List UInt8) (hw:w.length≤1000000000) (S:List Blk):VCall Try.prog 41 [.str w] S fun r S'=>r=.bool (wordOk w)∧S'=S:=by
 refine VCall.en hD Try.func41 Try.ntmps41 Try.results41 ?_
 simp -implicitDefEqProofs (disch:=omega) only [push_cast,simprocAttr,↓gd]
 refine wpV_loop (fun m t S'=>∃i:Nat,m=w.length - i∧i≤w.length∧(w.take i).all (fun c=>decide (0≤signAt c))=true∧t 0=.str w∧t 3=.int .i64 i∧S'=S) w.length ⟨0,by omega,by omega,by simp,rfl,rfl,rfl⟩ ?_
 rintro m t S' ⟨i,rfl,hi,hno,h0,h3,rfl⟩
 refine wpV_of0 hD ?_
 simp -implicitDefEqProofs (disch:=omega) only [push_cast,simprocAttr,h0,h3,↓gd]
 refine ⟨fun h=>⟨by omega,by omega,?_⟩,fun h=>fin0 ?_⟩
 ·refine (l2Sign_ok (w.getD i 0) S').to ?_
  simp -implicitDefEqProofs (disch:=omega) only [push_cast,simprocAttr,h0,h3,↓gd]
  refine ⟨fun e=>fin0 ?_,fun e=>⟨w.length - (i+1),by omega,i+1,rfl,by omega,all_take_succ (by omega) hno (by simpa using e),by simp⟩⟩
  rw [wordOk,all_take_bad (i:=i) (by omega) (by simpa using e)]; rfl
 ·have:i=w.length:=by omega
  subst this
  rw [List.take_length] at hno
  rw [wordOk,hno]
  congr 1
  simp
  omega
theorem WordOk_ok (w:List UInt8) (hw:w.length≤1000000000) (S:List Blk):VCall Try.prog 48 [.str w] S fun r S'=>r=.bool (wordOk w)∧S'=S:=by
 refine VCall.en hD Try.func48 Try.ntmps48 Try.results48 ?_
 simp -implicitDefEqProofs (disch:=omega) only [push_cast,simprocAttr,↓gd]
 refine wpV_loop (fun m t S'=>∃i:Nat,m=w.length - i∧i≤w.length∧(w.take i).all (fun c=>decide (0≤signAt c))=true∧t 0=.str w∧t 5=.int .i64 w.length∧t 6=.int .i64 i∧S'=S) w.length ⟨0,by omega,by omega,by simp,rfl,rfl,rfl,rfl⟩ ?_
 rintro m t S' ⟨i,rfl,hi,hno,h0,h5,h6,rfl⟩
 refine wpV_of0 hD ?_
 simp -implicitDefEqProofs (disch:=omega) only [push_cast,simprocAttr,h0,h5,h6,↓gd]
 refine ⟨fun h=>⟨by omega,by omega,?_⟩,fun h=>fin0 ?_⟩
 ·refine (indexByte_ok signs (w.getD i 0) S').to ?_
  simp -implicitDefEqProofs (disch:=omega) only [push_cast,simprocAttr,h0,h5,h6,↓gd]
  refine ⟨fun e=>fin0 ?_,fun e=>⟨w.length - (i+1),by omega,i+1,rfl,by omega,all_take_succ (by omega) hno (by simpa [signAt] using e),by simp⟩⟩
  rw [wordOk,all_take_bad (i:=i) (by omega) (by simpa [signAt] using e)]; rfl
 ·have:i=w.length:=by omega
  subst this
  rw [List.take_length] at hno
  rw [wordOk,hno]
  congr 1
  simp
  omega
def bitsOf (n:Nat):Nat→List Nat
 | 0=>[]
 | k+1=>bitsOf (n / 2) k++[n % 2]
def iV (n:Nat):V:=.int .i64 n
theorem bitsOf_len (n k:Nat):(bitsOf n k).length=k:=by induction k generalizing n <;> simp_all [bitsOf]
theorem flat_iV (l:List Nat):(l.map iV).flatMap V.cells=l.map iV:=by induction l <;> simp_all [iV,V.cells]
theorem cl_iV (n:Nat) (l:List Nat):Cl n (.rows none (l.map iV)):=by
 refine Cl.rows' (fun x hx=>?_)
 obtain ⟨y,_,rfl⟩:=List.mem_map.1 hx
 exact .int _ _
theorem l2Bits_ok (n many:Nat) (hn:n≤1000000000) (hm:many≤1000) (S:List Blk):VCall Try.prog 68 [.int .i64 n,.int .i64 many] S fun r S'=>r=.rows none ((bitsOf n many).map iV)∧S'=S:=by
 refine VCall.en hDi Try.func68 Try.ntmps68 Try.results68 ?_
 simp -implicitDefEqProofs (disch:=omega) only [push_cast,simprocAttr,↓gd]
 refine ⟨by omega,by omega,?_⟩
 refine wpV_loop (fun m t S'=>∃(x:Nat) (d:List Nat),x≤n∧bitsOf n many=bitsOf x m++d∧m+d.length=many∧t 0=.int .i64 x∧t 5=.heap S.length many∧t 6=.int .i64 ((m:Int) - 1)∧S'=S++[.cells 1 (List.replicate m (iV 0)++d.map iV)]) many
  ⟨n,[],by omega,by simp,by simp,rfl,rfl,rfl,by simp [iV,List.flatten_replicate_singleton]⟩ ?_
 rintro m t S' ⟨x,d,hxn,hbits,hlen,h0,h5,h6,rfl⟩
 refine wpV_of0 hDi ?_
 simp -implicitDefEqProofs (disch:=omega) only [push_cast,simprocAttr,h0,h5,h6,↓gd]
 refine ⟨fun h=>?_,fun h=>?_⟩
 ·obtain ⟨k,rfl⟩:∃k,m=k+1:=⟨m - 1,by omega⟩
  refine ⟨by omega,by omega,by simp,k,by omega,x / 2,(x % 2) :: d,by omega,by simp [hbits,bitsOf],by simp at hlen ⊢; omega,?_,?_,?_⟩
  ·rw [show Int.tdiv (x:Int) 2=((x / 2:Nat):Int) from tdiv_nat x 2,i64_fit _ (by omega)]
  ·congr 1; omega
  ·rw [splice_one,show Int.tmod (x:Int) 2=((x % 2:Nat):Int) from tmod_nat x 2,List.replicate_succ',show (((k+1:Nat):Int) - 1).toNat * 1=k by omega,List.append_assoc,List.set_append_right _ _ (by simp)]
   simp [iV]
 ·have:m=0:=by omega
  subst this
  have hd:d=bitsOf n many:=by simpa [bitsOf] using hbits.symm
  subst hd
  refine fin_freeze rfl rfl ?_ ?_ ?_ (cl_iV _ _) rfl
  ·simp [bitsOf_len]
  ·simp [bitsOf_len]
  ·rw [flat_iV]
   simp only [List.replicate_zero,List.nil_append,Nat.mul_one]
   rw [List.take_of_length_le (by simp [bitsOf_len])]
def numOf (l:List Nat):Nat:=l.foldl (fun n b=>2 * n+b) 0
theorem numOf_append (l:List Nat) (b:Nat):numOf (l++[b])=2 * numOf l+b:=by simp [numOf]
theorem foldl_lt:∀(l:List Nat) (a:Nat),(∀b ∈ l,b≤1)→l.foldl (fun n b=>2 * n+b) a < (a+1) * 2 ^ l.length
 | [],a,_=>by simp
 | b :: l,a,h=>by
  have h1:=foldl_lt l (2 * a+b) (fun x hx=>h x (by simp [hx]))
  have h2:=h b (by simp)
  have h3:(2 * a+b+1) * 2 ^ l.length≤(2 * a+2) * 2 ^ l.length:=Nat.mul_le_mul_right _ (by omega)
  have h4:(a+1) * 2 ^ (l.length+1)=(2 * a+2) * 2 ^ l.length:=by rw [Nat.pow_succ,Nat.mul_comm (2 ^ l.length) 2,←Nat.mul_assoc]; congr 1; omega
  simp only [List.foldl_cons,List.length_cons]
  omega
theorem numOf_lt (l:List Nat) (h:∀b ∈ l,b≤1):numOf l < 2 ^ l.length:=by have:=foldl_lt l 0 h; simpa [numOf] using this
theorem iV_eq (n:Nat):iV n=.int .i64 n:=rfl
@[push_cast] theorem all_iV_len (l:List Nat):(l.map iV).all (lenIs 1)=true:=by induction l <;> simp_all [lenIs,iV,V.cells]
theorem getD_iV {l:List Nat} {i:Nat} (h:i < l.length):(l.map iV).getD i .junk=iV (l.getD i 0):=by
 simp [List.getD,List.getElem?_eq_getElem h]
theorem take_getD {l:List Nat} {i:Nat} (h:i < l.length):l.take (i+1)=l.take i++[l.getD i 0]:=by
 rw [List.take_succ_eq_append_getElem h,List.getD,List.getElem?_eq_getElem h]; rfl
theorem l2Num_ok (l:List Nat) (hl:l.length≤40) (hb:∀b ∈ l,b≤1) (S:List Blk):VCall Try.prog 69 [.rows none (l.map iV)] S fun r S'=>r=.int .i64 (numOf l)∧S'=S:=by
 refine VCall.en hD Try.func69 Try.ntmps69 Try.results69 ?_
 simp -implicitDefEqProofs (disch:=omega) only [push_cast,simprocAttr,↓gd]
 refine wpV_loop (fun m t S'=>∃i:Nat,m=l.length - i∧i≤l.length∧t 0=.rows none (l.map iV)∧t 3=.int .i64 (numOf (l.take i))∧t 4=.int .i64 i∧S'=S) l.length ⟨0,by omega,by omega,rfl,rfl,rfl,rfl⟩ ?_
 rintro m t S' ⟨i,rfl,hi,h0,h3,h4,rfl⟩
 refine wpV_of0 hD ?_
 have hlt:=numOf_lt (l.take i) (fun b hbb=>hb b (List.mem_of_mem_take hbb))
 have hp:2 ^ (l.take i).length≤2 ^ 40:=Nat.pow_le_pow_right (by omega) (by simp; omega)
 simp -implicitDefEqProofs (disch:=omega) only [push_cast,simprocAttr,h0,h3,h4,↓gd]
 refine ⟨fun h=>?_,fun h=>fin0 ?_⟩
 ·have hil:i < l.length:=by omega
  have hbi:l.getD i 0≤1:=by rw [List.getD,List.getElem?_eq_getElem hil]; exact hb _ (List.getElem_mem hil)
  rw [getD_iV hil,iV_eq]
  simp -implicitDefEqProofs (disch:=omega) only [push_cast,simprocAttr,h0,h3,h4,↓gd]
  refine ⟨by omega,by omega,l.length - (i+1),by omega,i+1,rfl,by omega,?_,by simp⟩
  rw [take_getD hil,numOf_append]
  simp
 ·have:i=l.length:=by omega
  subst this
  rw [List.take_length]
def codeOf (c:UInt8):List Nat:=if signAt c < 24 then bitsOf (signAt c).toNat 5 else bitsOf (72+(signAt c).toNat) 7
def pad8 (l:List Nat):List Nat:=l++List.replicate ((8 - l.length % 8) % 8) 1
def bytes8 (l:List Nat):List UInt8:=if l.length < 8 then [] else by8 (numOf (l.take 8)) :: bytes8 (l.drop 8)
termination_by l.length
decreasing_by simp; omega
def pack (w:List UInt8):List UInt8:=bytes8 (pad8 (w.flatMap codeOf))
theorem bitsOf_le (n k:Nat):∀b ∈ bitsOf n k,b≤1:=by
 induction k generalizing n with
 | zero=>simp [bitsOf]
 | succ k ih =>
  intro b hb
  simp only [bitsOf,List.mem_append,List.mem_singleton] at hb
  rcases hb with hb | rfl
  ·exact ih _ b hb
  ·omega
theorem codeOf_le (c:UInt8):∀b ∈ codeOf c,b≤1:=by
 unfold codeOf; split <;> exact bitsOf_le _ _
theorem codeOf_len (c:UInt8):(codeOf c).length≤7:=by
 unfold codeOf; split <;> simp [bitsOf_len]
theorem codes_len (w:List UInt8):(w.flatMap codeOf).length≤7 * w.length:=by
 induction w with
 | nil=>simp
 | cons c w ih=>have:=codeOf_len c; simp only [List.flatMap_cons,List.length_append,List.length_cons]; omega
theorem indexByte_lt:∀(l:List UInt8) (c:UInt8),Lib.indexByte l c < l.length
 | [],c=>by simp [Lib.indexByte]
 | b :: l,c=>by
  have:=indexByte_lt l c
  simp only [Lib.indexByte,List.length_cons]
  split
  ·omega
  ·split <;> omega
theorem signAt_le (c:UInt8):signAt c≤38:=by
 have:=indexByte_lt signs c
 have e:signs.length=39:=rfl
 unfold signAt
 omega
theorem take_get8 {l:List UInt8} {i:Nat} (h:i < l.length):l.take (i+1)=l.take i++[l.getD i 0]:=by
 rw [List.take_succ_eq_append_getElem h,List.getD,List.getElem?_eq_getElem h]; rfl
theorem pad8_done {l:List Nat} (h:l.length % 8=0):pad8 l=l:=by simp [pad8,h]
theorem pad8_step {l:List Nat} (h:¬l.length % 8=0):pad8 (l++[1])=pad8 l:=by
 have e:(8 - l.length % 8) % 8=(8 - (l.length+1) % 8) % 8+1:=by omega
 simp only [pad8,List.length_append,List.length_cons,List.length_nil,Nat.zero_add]
 rw [e,List.replicate_succ]
 simp
theorem bytes8_step {l:List Nat} (h:8≤l.length):bytes8 l=by8 (numOf (l.take 8)) :: bytes8 (l.drop 8):=by rw [bytes8,if_neg (by omega)]
theorem bytes8_end {l:List Nat} (h:l.length < 8):bytes8 l=[]:=by rw [bytes8,if_pos h]
end
section
open Go
def b8V (n:Nat):V:=u8V (by8 n)
@[push_cast] theorem all_b8_len (l:List Nat):(l.map b8V).all (lenIs 1)=true:=by induction l <;> simp_all [lenIs,b8V,u8V,V.cells]
theorem bitsOf_cons (n m:Nat):bitsOf n (m+1)=(n / 2 ^ m % 2) :: bitsOf n m:=by
 induction m generalizing n with
 | zero=>simp [bitsOf]
 | succ m ih =>
  rw [bitsOf,ih,bitsOf]
  simp [Nat.div_div_eq_div_mul,Nat.pow_succ,Nat.mul_comm]
def RowAt (S:List Blk) (b n0:Nat) (l:List Nat):Prop :=
 n0≤b∧((S[b]?=some (.cells 0 [.nils])∧l=[])∨∃τ,n0≤τ∧τ≠b∧S[b]?=some (.cells 0 [.rows (some τ) (l.map b8V)])∧S[τ]?=some (.right 1))
theorem add_ok (b n many n0:Nat) (l:List Nat) (hn:n < 256) (hm:many≤8) (hl:l.length≤1000000) (S:List Blk) (hR:RowAt S b n0 l) :
  VCall Try.prog 60 [.ptr b 0,.int .i64 n,.int .i64 many] S fun r S'=>RowAt S' b n0 (l++bitsOf n many)∧S.length≤S'.length∧∀j,j < n0→S'[j]?=S[j]?:=by
 refine VCall.ex hD (fun _=>false) (fun id=>if id=3 then [12,10,10,10,9,9,9,9,9,10,12,12,13] else []) Try.func60 Try.ntmps60 Try.results60 ?_
 simp -implicitDefEqProofs (disch:=omega) only [push_cast,simprocAttr,↓gd]
 refine wpV_loop (fun m t S'=>∃d,m≤many∧d.length≤8∧t 0=.ptr b 0∧t 1=.int .i64 n∧t 2=.int .i64 ((m:Int) - 1)∧d++bitsOf n m=bitsOf n many∧RowAt S' b n0 (l++d)∧S.length≤S'.length∧∀j,j < n0→S'[j]?=S[j]?) many
  ⟨[],by omega,by simp,rfl,rfl,rfl,rfl,by simpa using hR,by omega,fun _ _=>rfl⟩ ?_
 rintro m t S' ⟨d,hmm,hd8,h0,h1,h2,hbits,⟨hb0,hrow⟩,hlen,hold⟩
 refine wpV_of hD (fun _=>false) (fun id=>if id=3 then [12,10,10,10,9,9,9,9,9,10,12,12,13] else []) (by kernel_rfl) ?_
 have hbit:∀k:Nat,k≤8→V.int .u8 (IntKind.u8.wrap (intBits .and .i64 (Int.fdiv (n:Int) (2 ^ min k 64)) 1))=b8V (n / 2 ^ k % 2):=by
  intro k hk
  have h1:n / 2 ^ k≤n:=Nat.div_le_self _ _
  rw [show min k 64=k by omega,fdiv_pow,show (1:Int)=((1:Nat):Int) from rfl,and_nat (by omega) (by decide),show (1:Nat)=2 ^ 1 - 1 from rfl,Nat.and_two_pow_sub_one_eq_mod,u8V_of]
  rfl
 have hbl:b < S'.length:=by
  rcases Nat.lt_or_ge b S'.length with g | g
  ·exact g
  ·rcases hrow with ⟨h,_⟩ | ⟨_,_,_,h,_⟩ <;> (rw [List.getElem?_eq_none g] at h; cases h)
 rcases hrow with ⟨hSb,hl0⟩ | ⟨τ,hτ0,hτb,hSb,hSτ⟩
 ·simp -implicitDefEqProofs (disch:=omega) only [push_cast,simprocAttr,h0,h1,h2,hSb,↓gd]
  refine ⟨fun h=>?_,fun h=>?_⟩
  ·obtain ⟨k,rfl⟩:∃k,m=k+1:=⟨m - 1,by omega⟩
   obtain ⟨hla,hda⟩:=List.append_eq_nil_iff.1 hl0
   subst hla hda
   refine ⟨h,k,by omega,[n / 2 ^ k % 2],by omega,by simp,by congr 1; omega,by rw [←hbits,bitsOf_cons]; simp,⟨hb0,.inr ⟨S'.length+1,by omega,by omega,?_,?_⟩⟩,by omega,fun j hj=>?_⟩
   ·rw [show (((k+1:Nat):Int) - 1).toNat=k by omega,hbit k (by omega),List.getElem?_set_self (by simp; omega)]
    simp
   ·rw [List.getElem?_set_ne (by omega),List.getElem?_append_right (by omega)]
    simp
   ·rw [List.getElem?_set_ne (by omega),List.getElem?_append_left (by omega)]
    exact hold j hj
  ·have:m=0:=by omega
   subst this
   have hd:d=bitsOf n many:=by simpa [bitsOf] using hbits
   exact ⟨_,_,Wk.refl _ _ _,⟨hb0,.inl ⟨hSb,by rw [←hd]; exact hl0⟩⟩,hlen,hold⟩
 ·have hg:((S'++[Blk.right 1]).set τ .dead++[.right 1])[b]?=some (Blk.cells 0 [V.rows (some τ) (List.map b8V (l++d))]):=by
   rw [List.getElem?_append_left (by simp; omega),List.getElem?_set_ne hτb,List.getElem?_append_left hbl,hSb]
  simp only [List.map_append] at hg
  simp -implicitDefEqProofs (disch:=omega) only [push_cast,simprocAttr,h0,h1,h2,hSb,hSτ,hg,↓gd]
  refine ⟨fun h=>?_,fun h=>?_⟩
  ·obtain ⟨k,rfl⟩:∃k,m=k+1:=⟨m - 1,by omega⟩
   have hdl:d.length+(k+1)=many:=by have:=congrArg List.length hbits; simpa [bitsOf_len] using this
   refine ⟨h,by omega,k,by omega,d++[n / 2 ^ k % 2],by omega,by simp; omega,by congr 1; omega,by rw [←hbits,bitsOf_cons]; simp,⟨hb0,.inr ⟨S'.length+1,by omega,by omega,?_,?_⟩⟩,by omega,fun j hj=>?_⟩
   ·rw [show (((k+1:Nat):Int) - 1).toNat=k by omega,hbit k (by omega),List.getElem?_set_self (by simp; omega)]
    simp
   ·rw [List.getElem?_set_ne (by omega),List.getElem?_append_right (by simp)]
    simp
   ·rw [List.getElem?_set_ne (by omega),List.getElem?_append_left (by simp; omega),List.getElem?_set_ne (by omega),List.getElem?_append_left (by omega)]
    exact hold j hj
  ·have:m=0:=by omega
   subst this
   have hd:d=bitsOf n many:=by simpa [bitsOf] using hbits
   exact ⟨_,_,Wk.refl _ _ _,⟨hb0,.inr ⟨τ,hτ0,hτb,by rw [←hd]; exact hSb,hSτ⟩⟩,hlen,hold⟩
theorem getD_b8 {l:List Nat} {i:Nat} (h:i < l.length):(l.map b8V).getD i .junk=b8V (l.getD i 0):=by
 simp [List.getD,List.getElem?_eq_getElem h]
theorem b8V_eq {n:Nat} (h:n≤1):b8V n=.int .u8 (n:Int):=by
 rcases (by omega:n=0∨n=1) with rfl | rfl <;> rfl
theorem number_ok (l:List Nat) (a n:Nat) (hl:l.length≤1000000) (han:a+n≤l.length) (hn:n≤8) (hb:∀b ∈ l,b≤1) (S:List Blk) :
  VCall Try.prog 61 [.rows none (l.map b8V),.int .i64 a,.int .i64 n] S fun r S'=>r=.int .i64 (numOf ((l.drop a).take n))∧S'=S:=by
 obtain ⟨q,hq⟩:∃q,q=(l.drop a).take n:=⟨_,rfl⟩
 have hqn:q.length=n:=by rw [hq]; simp; omega
 have hqb:∀b ∈ q,b≤1:=fun b h=>by rw [hq] at h; exact hb b (List.mem_of_mem_drop (List.mem_of_mem_take h))
 have ech:List.drop a (List.take (a+n) (l.map b8V))=q.map b8V:=by rw [hq,List.drop_take,Nat.add_sub_cancel_left,List.map_take,List.map_drop]
 have e1:((a:Int)+(n:Int)).toNat=a+n:=by omega
 rw [←hq]
 refine VCall.en hD Try.func61 Try.ntmps61 Try.results61 ?_
 simp -implicitDefEqProofs (disch:=omega) only [push_cast,simprocAttr,e1,ech,↓gd]
 refine ⟨by omega,by omega,by omega,?_⟩
 refine wpV_loop (fun m t S'=>∃i:Nat,m=n - i∧i≤n∧t 7=.int .i64 (numOf (q.take i))∧t 15=.rows none (q.map b8V)∧t 16=.int .i64 n∧t 17=.int .i64 i∧S'=S) n ⟨0,by omega,by omega,rfl,rfl,congrArg (fun (x:Nat)=>V.int .i64 (x:Int)) hqn,rfl,rfl⟩ ?_
 rintro m t S' ⟨i,rfl,hi,h7,h15,h16,h17,rfl⟩
 have hlt:=numOf_lt (q.take i) (fun b hbb=>hqb b (List.mem_of_mem_take hbb))
 have hp:2 ^ (q.take i).length≤2 ^ 8:=Nat.pow_le_pow_right (by omega) (by simp; omega)
 refine wpV_of0 hD ?_
 simp -implicitDefEqProofs (disch:=omega) only [push_cast,simprocAttr,h7,h15,h16,h17,↓gd]
 refine ⟨fun h=>?_,fun h=>fin0 ?_⟩
 ·have hil:i < q.length:=by omega
  have hbi:q.getD i 0≤1:=by rw [List.getD,List.getElem?_eq_getElem hil]; exact hqb _ (List.getElem_mem hil)
  rw [getD_b8 hil,b8V_eq hbi]
  simp -implicitDefEqProofs (disch:=omega) only [push_cast,simprocAttr,h7,h15,h16,h17,↓gd]
  refine ⟨by omega,by omega,n - (i+1),by omega,i+1,rfl,by omega,?_,by simp⟩
  have hx:numOf (q.take i)≤256:=by omega
  have e2:IntKind.i64.wrap ((numOf (q.take i):Int) * 2 ^ min 1 64)=((numOf (q.take i) * 2:Nat):Int):=by
   rw [show ((numOf (q.take i):Int) * 2 ^ min 1 64)=((numOf (q.take i) * 2:Nat):Int) by simp]
   exact i64_fit _ (by omega)
  rw [e2,or_nat (by omega) (by omega),or_add (p:=2) (bits:=1) rfl rfl (by omega),take_getD hil,numOf_append,Nat.mul_comm]
 ·have:i=n:=by omega
  subst this
  rw [List.take_of_length_le (by omega)]
theorem wordOk_signs {w:List UInt8} (h:wordOk w=true):(∀c ∈ w,0≤signAt c)∧w.length≤16:=by
 simp only [wordOk,Bool.and_eq_true,List.all_eq_true,decide_eq_true_eq] at h
 exact h
theorem grown {S S':List Blk} (h:S.length≤S'.length) (ho:∀j,j < S.length→S'[j]?=S[j]?):∃X,S'=S++X:=by
 refine ⟨S'.drop S.length,List.ext_getElem? (fun j=>?_)⟩
 rcases Nat.lt_or_ge j S.length with g | g
 ·rw [ho j g,List.getElem?_append_left g]
 ·rw [List.getElem?_append_right g,List.getElem?_drop]; congr 1; omega
def OutAt (S S':List Blk) (v:V) (o:List UInt8):Prop:=(v=.nils∧o=[]∧S'=S)∨∃τ,v=.rows (some τ) (o.map u8V)∧Tok S S' τ 1
theorem OutAt.old {S S':List Blk} {v:V} {o:List UInt8} (h:OutAt S S' v o) (j:Nat) (hj:j < S.length):S'[j]?=S[j]?:=by
 rcases h with ⟨_,_,rfl⟩ | ⟨τ,_,⟨X,rfl⟩,_,_⟩
 ·rfl
 ·exact List.getElem?_append_left hj
theorem WordPack_ok (w:List UInt8) (hw:w.length≤1000) (S:List Blk):VCall Try.prog 62 [.str w] S fun r S'=>r=.str (if wordOk w then pack w else [])∧S'=S:=by
 cases hok:wordOk w with
 | false =>
  refine VCall.en hD Try.func62 Try.ntmps62 Try.results62 ?_
  simp -implicitDefEqProofs (disch:=omega) only [push_cast,simprocAttr,↓gd]
  refine (WordOk_ok w (by omega) S).to ?_
  rw [hok]
  simp -implicitDefEqProofs (disch:=omega) only [push_cast,simprocAttr,↓gd]
  exact fin0 rfl
 | true =>
  obtain ⟨hs,h16⟩:=wordOk_signs hok
  refine VCall.en hD Try.func62 Try.ntmps62 Try.results62 ?_
  simp -implicitDefEqProofs (disch:=omega) only [push_cast,simprocAttr,↓gd]
  refine (WordOk_ok w (by omega) S).to ?_
  rw [hok]
  simp -implicitDefEqProofs (disch:=omega) only [push_cast,simprocAttr,↓gd]
  refine wpV_loop (fun m t S'=>∃(i:Nat),m=w.length - i∧i≤w.length∧t 0=.str w∧t 3=.ptr S.length 0∧t 12=.int .i64 w.length∧t 13=.int .i64 i∧RowAt S' S.length S.length ((w.take i).flatMap codeOf)∧S.length < S'.length∧∀j,j < S.length→S'[j]?=S[j]?) w.length
   ⟨0,by omega,by omega,rfl,rfl,rfl,rfl,⟨Nat.le_refl _,.inl ⟨by simp,by simp⟩⟩,by simp,fun j hj=>by rw [List.getElem?_append_left hj]⟩ ?_
  rintro m t S' ⟨i,rfl,hi,h0,h3,h12,h13,hR,hlt,hold⟩
  have hlen:((w.take i).flatMap codeOf).length≤7000:=by have:=codes_len (w.take i); simp only [List.length_take] at this; omega
  refine wpV_of0 hD ?_
  simp -implicitDefEqProofs (disch:=omega) only [push_cast,simprocAttr,h0,h3,h12,h13,↓gd]
  refine ⟨fun h=>⟨by omega,by omega,?_⟩,fun h=>?_⟩
  ·have hil:i < w.length:=by omega
   obtain ⟨c,hc⟩:∃c,c=w.getD i 0:=⟨_,rfl⟩
   have hcm:c ∈ w:=by rw [hc,List.getD,List.getElem?_eq_getElem hil]; exact List.getElem_mem hil
   obtain ⟨k,hk⟩:∃k:Nat,signAt c=k:=⟨(signAt c).toNat,by have:=hs c hcm; omega⟩
   have hk38:=signAt_le c
   rw [←hc]
   refine (indexByte_ok signs c S').to ?_
   rw [show Lib.indexByte signs c=(k:Int) from hk]
   simp -implicitDefEqProofs (disch:=omega) only [push_cast,simprocAttr,h0,h3,h12,h13,↓gd]
   refine ⟨fun g=>?_,fun g=>?_⟩
   ·have hcode:codeOf c=bitsOf k 5:=by unfold codeOf; rw [if_pos (by omega),hk]; rfl
    refine ((add_ok S.length k 5 S.length _ (by omega) (by omega) (by omega) S' hR).as (by simp)).mono ?_
    rintro r S2 ⟨hR2,hl2,ho2⟩
    simp -implicitDefEqProofs (disch:=omega) only [push_cast,simprocAttr,h0,h3,h12,h13,↓gd]
    refine ⟨w.length - (i+1),by omega,i+1,rfl,by omega,by simp,?_,by omega,fun j hj=>(ho2 j hj).trans (hold j hj)⟩
    rw [take_get8 hil,List.flatMap_append,←hc]
    simpa [hcode] using hR2
   ·have hcode:codeOf c=bitsOf (72+k) 7:=by unfold codeOf; rw [if_neg (by omega),hk]; rfl
    refine ((add_ok S.length (72+k) 7 S.length _ (by omega) (by omega) (by omega) S' hR).as (by simp; omega)).mono ?_
    rintro r S2 ⟨hR2,hl2,ho2⟩
    simp -implicitDefEqProofs (disch:=omega) only [push_cast,simprocAttr,h0,h3,h12,h13,↓gd]
    refine ⟨w.length - (i+1),by omega,i+1,rfl,by omega,by simp,?_,by omega,fun j hj=>(ho2 j hj).trans (hold j hj)⟩
    rw [take_get8 hil,List.flatMap_append,←hc]
    simpa [hcode] using hR2
  ·have:i=w.length:=by omega
   subst this
   rw [List.take_length] at hR hlen
   refine wpV_loop (fun m t S'=>∃(l:List Nat),m=(8 - l.length % 8) % 8∧pad8 l=pad8 (w.flatMap codeOf)∧l.length+(8 - l.length % 8) % 8≤7100∧(∀b ∈ l,b≤1)∧t 3=.ptr S.length 0∧RowAt S' S.length S.length l∧S.length < S'.length∧∀j,j < S.length→S'[j]?=S[j]?) _
    ⟨w.flatMap codeOf,rfl,rfl,by omega,fun b hb=>by obtain ⟨c,_,hc⟩:=List.mem_flatMap.1 hb; exact codeOf_le c b hc,h3,hR,hlt,hold⟩ ?_
   clear h0 h3 h12 h13 hR hlt hold hlen h
   rintro m t S' ⟨l,rfl,hpad,hlen,hle,h3,hR,hlt,hold⟩
   have e8:Int.tmod (l.length:Int) 8=((l.length % 8:Nat):Int):=tmod_nat l.length 8
   have hRR:=hR
   refine wpV_of0 hD ?_
   rcases hR with ⟨_,⟨hSb,hl0⟩ | ⟨τ,hτ0,hτb,hSb,hSτ⟩⟩
   ·simp -implicitDefEqProofs (disch:=omega) only [push_cast,simprocAttr,h3,hSb,↓gd]
    subst hl0
    have hp0:pack w=[]:=by rw [pack,←hpad]; simp [pad8,bytes8_end]
    refine wpV_loop (fun m t S2=>t 3=.ptr S.length 0∧t 6=.nils∧t 7=.int .i64 0∧S2=S') 0 ⟨h3,rfl,rfl,rfl⟩ ?_
    rintro m t S2 ⟨h3,h6,h7,rfl⟩
    refine wpV_of0 hD ?_
    simp -implicitDefEqProofs (disch:=omega) only [push_cast,simprocAttr,h3,h6,h7,hSb,↓gd]
    obtain ⟨X,rfl⟩:=grown (by omega) hold
    exact fin1 (.str _) (by rw [hp0])
   ·simp -implicitDefEqProofs (disch:=omega) only [push_cast,simprocAttr,h3,hSb,e8,↓gd]
    refine ⟨fun g=>?_,fun g=>?_⟩
    ·refine ((add_ok S.length 1 1 S.length l (by omega) (by omega) (by omega) S' hRR).as (by simp)).mono ?_
     rintro r S2 ⟨hR2,hl2,ho2⟩
     simp -implicitDefEqProofs (disch:=omega) only [push_cast,simprocAttr,h3,↓gd]
     refine ⟨(8 - (l.length+1) % 8) % 8,by omega,l++[1],by simp,?_,by simp; omega,?_,by simpa [bitsOf] using hR2,by omega,fun j hj=>(ho2 j hj).trans (hold j hj)⟩
     ·rw [pad8_step (by omega),hpad]
     ·intro b hb
      rcases List.mem_append.1 hb with g | g
      ·exact hle b g
      ·rw [List.mem_singleton.1 g]; exact Nat.le_refl _
    ·rw [pad8_done (by omega)] at hpad
     have hl8:l.length % 8=0:=by omega
     clear e8 hRR
     refine wpV_loop (fun m t S2=>∃(i:Nat) (o:List UInt8),m=l.length - i∧i≤l.length∧i % 8=0∧o.length≤i∧o++bytes8 (l.drop i)=bytes8 l∧t 3=.ptr S.length 0∧OutAt S' S2 (t 6) o∧t 7=.int .i64 i) l.length
      ⟨0,[],by omega,by omega,rfl,by simp,by simp,h3,.inl ⟨rfl,rfl,rfl⟩,rfl⟩ ?_
     clear h3
     rintro m t S2 ⟨i,o,rfl,hi,hi8,ho,hob,h3,h6,h7⟩
     have hltS:∀{j:Nat} {B:Blk},S'[j]?=some B→j < S'.length:=fun {j} {B} hj=>by
      rcases Nat.lt_or_ge j S'.length with g | g
      ·exact g
      ·rw [List.getElem?_eq_none g] at hj; cases hj
     have hSb2:S2[S.length]?=some (.cells 0 [.rows (some τ) (l.map b8V)]):=by rw [h6.old _ hlt]; exact hSb
     refine wpV_of0 hD ?_
     rcases h6 with ⟨h6,rfl,rfl⟩ | ⟨σ,h6,hT⟩
     ·simp -implicitDefEqProofs (disch:=omega) only [push_cast,simprocAttr,h3,h6,h7,hSb2,↓gd]
      refine ⟨fun g=>?_,fun g=>?_⟩
      ·refine (number_ok l i 8 (by omega) (by omega) (by omega) hle S2).to ?_
       simp -implicitDefEqProofs (disch:=omega) only [push_cast,simprocAttr,h3,h6,h7,hSb2,↓gd]
       refine ⟨l.length - (i+8),by omega,i+8,[by8 (numOf ((l.drop i).take 8))],rfl,by omega,by omega,by simp,?_,.inr ⟨_,?_,⟨⟨_,rfl⟩,Nat.le_succ _,by simp⟩⟩,by simp⟩
       ·rw [←hob,bytes8_step (l:=l.drop i) (by simp; omega)]
        simp [List.drop_drop]
       ·simp [u8V_of]
      ·have:i=l.length:=by omega
       subst this
       rw [List.drop_length,bytes8_end (by simp)] at hob
       obtain ⟨X,rfl⟩:=grown (by omega) hold
       refine fin1 (.str _) ?_
       rw [pack,←hpad,←hob]
       rfl
     ·have hat:=hT.at
      simp -implicitDefEqProofs (disch:=omega) only [push_cast,simprocAttr,h3,h6,h7,hSb2,hat,↓gd]
      refine ⟨fun g=>?_,fun g=>?_⟩
      ·refine (number_ok l i 8 (by omega) (by omega) (by omega) hle S2).to ?_
       simp -implicitDefEqProofs (disch:=omega) only [push_cast,simprocAttr,h3,h6,h7,hSb2,hat,↓gd]
       refine ⟨by omega,l.length - (i+8),by omega,i+8,o++[by8 (numOf ((l.drop i).take 8))],rfl,by omega,by omega,by simp; omega,?_,.inr ⟨_,?_,hT.step1 _⟩,by simp⟩
       ·rw [←hob,bytes8_step (l:=l.drop i) (by simp; omega)]
        simp [List.drop_drop]
       ·simp [u8V_of]
      ·have:i=l.length:=by omega
       subst this
       rw [List.drop_length,bytes8_end (by simp)] at hob
       obtain ⟨X,rfl⟩:=grown (by omega) hold
       obtain ⟨⟨Y,rfl⟩,_,_⟩:=hT
       rw [List.append_assoc]
       refine fin1 (.str _) ?_
       rw [pack,←hpad,←hob]
       simp
end
section
open Go
structure Fd where
 name:List UInt8
 val:List UInt8
 never:Bool
def fV (f:Fd):V:=.agg [.str f.name,.str f.val,.bool f.never]
theorem fV_eq (f:Fd):fV f=.agg [.str f.name,.str f.val,.bool f.never]:=rfl
attribute [push_cast] fV_eq
@[push_cast] theorem all_fV_len (l:List Fd):(l.map fV).all (lenIs 3)=true:=by induction l <;> simp_all [lenIs,fV,V.cells]
def fd0:Fd:=⟨[],[],false⟩
theorem getD_fV {l:List Fd} {i:Nat} (h:i < l.length):(l.map fV).getD i .junk=fV (l.getD i fd0):=by
 simp [List.getD,List.getElem?_eq_getElem h]
def FdB (f:Fd):Prop:=f.name.length≤2000000∧f.val.length≤2000000
def FdsB (l:List Fd):Prop:=l.length≤2000000∧∀f ∈ l,FdB f
def fieldOk (f:Fd):Bool:=wordOk f.name && wordOk f.val && decide (f.name≠[])
theorem sFieldOk_ok (f:Fd) (hf:FdB f) (S:List Blk):VCall Try.prog 25 [fV f] S fun r S'=>r=.bool (fieldOk f)∧S'=S:=by
 obtain ⟨h1,h2⟩:=hf
 refine VCall.en hD Try.func25 Try.ntmps25 Try.results25 ?_
 simp -implicitDefEqProofs (disch:=omega) only [push_cast,simprocAttr,↓gd]
 refine (sWordOk_ok f.name (by omega) _).to ?_
 cases hn:wordOk f.name
 ·simp -implicitDefEqProofs (disch:=omega) only [push_cast,simprocAttr,↓gd]
  exact fin1 (.bool _) (by simp [fieldOk,hn])
 ·by_cases h0:f.name=[]
  ·simp -implicitDefEqProofs (disch:=omega) only [push_cast,simprocAttr,h0,↓gd]
   exact fin1 (.bool _) (by simp [fieldOk,h0])
  ·simp -implicitDefEqProofs (disch:=omega) only [push_cast,simprocAttr,h0,↓gd]
   refine (sWordOk_ok f.val (by omega) _).to ?_
   simp -implicitDefEqProofs (disch:=omega) only [push_cast,simprocAttr,↓gd]
   exact fin1 (.bool _) (by simp [fieldOk,hn,h0])
theorem FieldOk_ok (f:Fd) (hf:FdB f) (S:List Blk):VCall Try.prog 33 [fV f] S fun r S'=>r=.bool (fieldOk f)∧S'=S:=by
 obtain ⟨h1,h2⟩:=hf
 refine VCall.en hD Try.func33 Try.ntmps33 Try.results33 ?_
 simp -implicitDefEqProofs (disch:=omega) only [push_cast,simprocAttr,↓gd]
 refine (WordOk_ok f.name (by omega) _).to ?_
 cases hn:wordOk f.name
 ·simp -implicitDefEqProofs (disch:=omega) only [push_cast,simprocAttr,↓gd]
  exact fin1 (.bool _) (by simp [fieldOk,hn])
 ·simp -implicitDefEqProofs (disch:=omega) only [push_cast,simprocAttr,↓gd]
  refine (WordOk_ok f.val (by omega) _).to ?_
  cases hv:wordOk f.val
  ·simp -implicitDefEqProofs (disch:=omega) only [push_cast,simprocAttr,↓gd]
   exact fin1 (.bool _) (by simp [fieldOk,hv])
  ·simp -implicitDefEqProofs (disch:=omega) only [push_cast,simprocAttr,↓gd]
   exact fin1 (.bool _) (by simp [fieldOk,hn,hv])
end
end Go.Proofs.Ytldogccmhncnoaa
