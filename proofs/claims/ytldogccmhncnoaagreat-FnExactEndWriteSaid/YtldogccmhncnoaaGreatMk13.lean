/- A part of the proof: contracts of functions, or plain facts on which these lean. -/
import Derived.Laws.Externs
import Derived.Lib.Bytealg
import Derived.Test.YtldogccmhncnoaaGreatMk12
namespace Go.Proofs.YtldogccmhncnoaaGreat
open Go
set_option linter.unusedVariables false
set_option linter.unusedSimpArgs false
set_option maxRecDepth 100000
set_option maxHeartbeats 16000000

section
open Go
section
variable {S X:List Blk} {v x:V} {n:Nat}
theorem fin0 (h:v=x):∃r S2,Wk S v S r S2∧r=x∧S2=S:=⟨v,S,Wk.refl _ _ _,h,rfl⟩
theorem fin1 (hc:Cl S.length v) (h:v=x):∃r S2,Wk S v (S++X) r S2∧r=x∧S2=S:=⟨v,S,Wk.pure hc,h,rfl⟩
theorem finE (hc:Cl S.length (eraseT v)) (h:eraseT v=x):∃r S2,Wk S v (S++X) r S2∧r=x∧S2=S:=⟨_,S,(Wk.eraseT _ _ _).trans (Wk.pure hc),h,rfl⟩
@[push_cast] theorem cl_int (k:IntKind) (m:Int):Cl n (.int k m)=True:=eq_true (.int k m)
@[push_cast] theorem cl_bool (b:Bool):Cl n (.bool b)=True:=eq_true (.bool b)
@[push_cast] theorem cl_str (s:List UInt8):Cl n (.str s)=True:=eq_true (.str s)
@[push_cast] theorem cl_nils:Cl n .nils=True:=eq_true .nils
@[push_cast] theorem cl_nilp:Cl n .nilp=True:=eq_true .nilp
@[push_cast] theorem cl_agg (cs:List V):Cl n (.agg cs)↔∀v ∈ cs,Cl n v:=⟨fun h=>by cases h; assumption,.agg⟩
@[push_cast] theorem cl_tup (cs:List V):Cl n (.tup cs)↔∀v ∈ cs,Cl n v:=⟨fun h=>by cases h; assumption,.tup⟩
@[push_cast] theorem cl_rows (xs:List V):Cl n (.rows none xs)↔∀x ∈ xs,Cl n x:=by
 constructor
 ·intro h x hx
  cases h with
  | rows _ hv =>
   by_cases ha:∃cs,x=.agg cs
   ·obtain ⟨cs,rfl⟩:=ha
    exact .agg (fun v hv'=>hv v (List.mem_flatMap.2 ⟨_,hx,hv'⟩))
   ·exact hv x (List.mem_flatMap.2 ⟨x,hx,by rw [cells_not_agg (fun cs e=>ha ⟨cs,e⟩)]; exact List.mem_singleton.2 rfl⟩)
 ·exact Cl.rows'
@[push_cast] theorem cl_heap (b l:Nat):Cl n (.heap b l)↔b < n:=⟨fun h=>by cases h; assumption,.heap⟩
@[push_cast] theorem cl_ptr (b l:Nat):Cl n (.ptr b l)↔b < n:=⟨fun h=>by cases h; assumption,.ptr⟩
theorem fin_freeze {b m sz:Nat} {cs xs:List V} {B:Blk} (hB:B=.cells sz cs) (hb:b=S.length) (hm:m * sz≤cs.length) (hxl:xs.length=m) (hxs:xs.flatMap V.cells=cs.take (m * sz)) (hc:Cl S.length (.rows none xs)) (h:V.rows none xs=x) (hsz:sz < 1000000:=by omega) :
  ∃r S2,Wk S (.heap b m) (S++[B]) r S2∧r=x∧S2=S:=by
 subst hb hB h
 have h1:=Wk.freeze (S0:=S) (S:=S++[Blk.cells sz cs]) (r:=.heap S.length m) (b:=S.length) (m:=m) xs hsz (by simp) hm hxl hxs
 simp only [fr1,frC,and_self,if_true] at h1
 have h2:=Wk.erase S (.rows (some (S++[Blk.cells sz cs]).length) xs) ((S++[Blk.cells sz cs]).set S.length Blk.dead++[Blk.right sz])
 rw [app_set0,List.append_assoc] at h1 h2
 exact ⟨_,_,(h1.trans h2).trans (Wk.pure hc),rfl,rfl⟩
theorem splice_one:∀(cs:List V) (k:Nat) (u:V),splice cs k [u]=cs.set k u
 | [],k,u=>by cases k <;> simp [splice]
 | c :: cs,0,u=>by cases cs <;> simp [splice]
 | c :: cs,k+1,u=>by simp [splice,splice_one cs k u]
theorem VCall.as {P:Program} {f:FuncId} {args args':List V} {S:List Blk} {q:V→List Blk→Prop} (h:VCall P f args' S q) (e:args=args'):VCall P f args S q:=e ▸ h
end
def wrOf (D:Nat→TD) (ts:List Nat) (t:Nat):TD:=if ts.contains t then ⟨(D t).k,(D t).size,(D t).bytes,(D t).zero,true,(D t).bld⟩ else D t
theorem wrOk {P:Program} {D:Nat→TD} (h:TypesOk P D) (ts:List Nat):TypesOk P (wrOf D ts):=by
 refine ⟨fun t=>?_,h.mix,fun t=>?_,fun t=>?_⟩
 ·unfold wrOf
  split
  ·exact h.ty t
  ·exact h.ty t
 ·unfold wrOf
  split
  ·exact h.small t
  ·exact h.small t
 ·unfold wrOf
  split
  ·exact h.ptr t
  ·exact h.ptr t
def bldOf (D:Nat→TD) (ts:List Nat) (t:Nat):TD:=if ts.contains t then ⟨(D t).k,(D t).size,(D t).bytes,(D t).zero,(D t).wr,true⟩ else D t
theorem bldOk {P:Program} {D:Nat→TD} (h:TypesOk P D) (ts:List Nat) (hp:∀t,t ∈ ts→(D t).k=.ptr→∃e j,P.underlying t=some (.pointer e)∧P.info? e=some j):TypesOk P (bldOf D ts):=by
 refine ⟨fun t=>?_,h.mix,fun t=>?_,fun t=>?_⟩
 ·unfold bldOf
  split
  ·exact h.ty t
  ·exact h.ty t
 ·unfold bldOf
  split
  ·exact h.small t
  ·exact h.small t
 ·unfold bldOf
  split
  ·rename_i ht
   exact fun _ hk=>hp t (by simpa using ht) hk
  ·exact h.ptr t
theorem bldOf_eq (D:Nat→TD) (ts:List Nat) (t:Nat):bldOf D ts t=if ts.contains t then ⟨(D t).k,(D t).size,(D t).bytes,(D t).zero,(D t).wr,true⟩ else D t:=rfl
attribute [push_cast] bldOf_eq
theorem wrOf_eq (D:Nat→TD) (ts:List Nat) (t:Nat):wrOf D ts t=if ts.contains t then ⟨(D t).k,(D t).size,(D t).bytes,(D t).zero,true,(D t).bld⟩ else D t:=rfl
attribute [push_cast] wrOf_eq List.contains_cons List.contains_nil Bool.or_false Bool.or_true Bool.true_or Bool.false_or
attribute [push_cast] TK.slc.injEq TK.int.injEq exists_eq_left' exists_eq_left exists_eq' exists_eq forall_eq_or_imp forall_false List.mem_map and_self byteOfV eraseT_tup
theorem byte_wrap (n:Int):UInt8.ofNat (IntKind.u8.wrap n).toNat=UInt8.ofNat (n % 256).toNat:=by
 have h:IntKind.u8.wrap n=n % 256:=by
  simp [IntKind.wrap,IntKind.signed,IntKind.bits]
 rw [h]
end
section
open Go
def by8 (n:Nat):UInt8:=UInt8.ofNat n
def numTail (m:Nat):List UInt8:=if m < 128 then [by8 m] else by8 (m % 128+128) :: numTail (m / 128)
termination_by m
def numW (n bits head:Nat):List UInt8 :=
 if n < 2 ^ bits - 1 then [by8 (head * 2 ^ bits+n)] else by8 (head * 2 ^ bits+(2 ^ bits - 1)) :: numTail (n - (2 ^ bits - 1))
theorem numTail_lt {m:Nat} (h:m < 128):numTail m=[by8 m]:=by rw [numTail,if_pos h]
theorem numTail_ge {m:Nat} (h:128≤m):numTail m=by8 (m % 128+128) :: numTail (m / 128):=by rw [numTail,if_neg (by omega)]
theorem numTail_len (m:Nat):(numTail m).length≤m+1:=by
 induction m using Nat.strongRecOn with
 | _ m ih =>
  rcases Nat.lt_or_ge m 128 with g | g
  ·rw [numTail_lt g]; simp
  ·rw [numTail_ge g]
   have:=ih (m / 128) (by omega)
   simp only [List.length_cons]
   omega
theorem u8_ofNat_mod (n:Nat):UInt8.ofNat (n % 256)=UInt8.ofNat n:=by
 apply UInt8.toNat.inj
 simp
theorem byInt (n:Nat):UInt8.ofNat (((n:Int) % 256).toNat)=by8 n:=by
 have:(((n:Int) % 256).toNat)=n % 256:=by omega
 rw [this,u8_ofNat_mod]; rfl
theorem tmod_nat (m n:Nat):Int.tmod (m:Int) (n:Int)=((m % n:Nat):Int):=by
 rw [Int.tmod_eq_emod_of_nonneg (by omega)]; rfl
theorem tdiv_nat (m n:Nat):Int.tdiv (m:Int) (n:Int)=((m / n:Nat):Int):=by
 rw [Int.tdiv_eq_ediv_of_nonneg (by omega)]; rfl
theorem bv64 {x:Nat} (h:x < 2 ^ 62):(BitVec.ofInt 64 (x:Int)).toNat=x:=by
 rw [BitVec.toNat_ofInt]
 have e:((2 ^ 64:Nat):Int)=18446744073709551616:=by decide
 rw [e]
 omega
theorem and_nat {x y:Nat} (hx:x < 2 ^ 62) (hy:y < 2 ^ 62):intBits .and .i64 (x:Int) (y:Int)=((x &&& y:Nat):Int):=by
 have h:x &&& y≤x:=Nat.and_le_left
 simp only [intBits]
 rw [show IntKind.i64.bits=64 from rfl,BitVec.toNat_and,bv64 hx,bv64 hy]
 exact i64_fit _ (by omega)
theorem or_nat {x y:Nat} (hx:x < 2 ^ 62) (hy:y < 2 ^ 62):intBits .or .i64 (x:Int) (y:Int)=((x ||| y:Nat):Int):=by
 have h:x ||| y < 2 ^ 62:=Nat.or_lt_two_pow hx hy
 simp only [intBits]
 rw [show IntKind.i64.bits=64 from rfl,BitVec.toNat_or,bv64 hx,bv64 hy]
 exact i64_fit _ (by omega)
theorem fdiv_pow (n k:Nat):Int.fdiv (n:Int) (2 ^ k)=((n / 2 ^ k:Nat):Int):=by
 have e:(2:Int) ^ k=((2 ^ k:Nat):Int):=by simp
 rw [e,Int.fdiv_eq_ediv_of_nonneg _ (Int.natCast_nonneg _)]
 rfl
theorem u8_wrap (n:Nat):IntKind.u8.wrap (n:Int)=((by8 n).toNat:Int):=by
 have h:IntKind.u8.wrap (n:Int)=(n:Int) % 256:=by simp [IntKind.wrap,IntKind.signed,IntKind.bits]
 rw [h]; simp [by8]
theorem u8V_of (n:Nat):V.int .u8 (IntKind.u8.wrap (n:Int))=u8V (by8 n):=by rw [u8_wrap]; rfl
theorem by8_wrap (n:Nat):UInt8.ofNat (IntKind.u8.wrap (n:Int)).toNat=by8 n:=by rw [u8_wrap]; simp
@[push_cast] theorem all_u8_len (o:List UInt8):(o.map u8V).all (lenIs 1)=true:=by induction o <;> simp_all [lenIs,u8V,V.cells]
@[push_cast] theorem all_u8_is (o:List UInt8):(o.map u8V).all isU8=true:=by induction o <;> simp_all [isU8,u8V]
@[push_cast] theorem map_u8_by (o:List UInt8):(o.map u8V).map byteOfV=o:=by induction o <;> simp_all [byteOfV,u8V]
@[push_cast] theorem cells_u8 (b:UInt8):(u8V b).cells=[u8V b]:=rfl
@[push_cast] theorem isU8_u8 (b:UInt8):isU8 (u8V b)=true:=rfl
@[push_cast] theorem byteOf_u8 (b:UInt8):byteOfV (u8V b)=b:=by simp [u8V,byteOfV]
@[push_cast] theorem one_u8 (b:UInt8):(u8V b).one=true:=rfl
@[push_cast] theorem erase1_u8 (b:UInt8):erase1 (u8V b)=u8V b:=rfl
def Tok (S S':List Blk) (τ sz:Nat):Prop:=(∃X,S'=S++X)∧S.length≤τ∧S'[τ]?=some (.right sz)
theorem Tok.new (S:List Blk) (sz:Nat):Tok S (S++[.right sz]) S.length sz:=⟨⟨_,rfl⟩,Nat.le_refl _,by simp⟩
theorem Tok.at {S S':List Blk} {τ sz:Nat} (h:Tok S S' τ sz):S'[τ]?=some (.right sz):=h.2.2
theorem Tok.step {S S':List Blk} {τ sz:Nat} (h:Tok S S' τ sz):Tok S (S'.set τ .dead++[.right sz]) S'.length sz:=by
 obtain ⟨⟨X,rfl⟩,h2,h3⟩:=h
 refine ⟨⟨X.set (τ - S.length) .dead++[.right sz],?_⟩,by simp,?_⟩
 ·rw [List.set_append_right _ _ h2,List.append_assoc]
 ·rw [List.getElem?_append_right (by simp)]; simp
theorem Tok.more {S S':List Blk} {τ sz:Nat} (h:Tok S S' τ sz) (Y:List Blk):Tok S (S'++Y) τ sz:=by
 obtain ⟨⟨X,rfl⟩,h2,h3⟩:=h
 refine ⟨⟨X++Y,by rw [List.append_assoc]⟩,h2,?_⟩
 rw [List.getElem?_append_left,h3]
 rcases Nat.lt_or_ge τ (S++X).length with g | g
 ·exact g
 ·rw [List.getElem?_eq_none g] at h3; cases h3
theorem Tok.step1 {S S':List Blk} {τ sz:Nat} (h:Tok S S' τ sz) (B:Blk):Tok S ((S'++[B]).set τ .dead++[.right sz]) (S'.length+1) sz:=by
 have:=(h.more [B]).step
 simpa using this
theorem Tok.fin {S S':List Blk} {τ sz:Nat} {v x:V} (h:Tok S S' τ sz) (hc:Cl S.length v) (e:v=x):∃r S2,Wk S v S' r S2∧r=x∧S2=S:=by
 obtain ⟨⟨X,rfl⟩,_,_⟩:=h
 exact fin1 hc e
theorem Tok.finE {S S':List Blk} {τ sz:Nat} {v x:V} (h:Tok S S' τ sz) (hc:Cl S.length (eraseT v)) (e:eraseT v=x):∃r S2,Wk S v S' r S2∧r=x∧S2=S:=by
 obtain ⟨⟨X,rfl⟩,_,_⟩:=h
 exact YtldogccmhncnoaaGreat.finE hc e
theorem or_add {q n p bits:Nat} (hp:p=2 ^ bits) {h:Nat} (hq:q=h * p) (hn:n < p):q ||| n=q+n:=by
 rw [hq,hp,Nat.mul_comm,←Nat.two_pow_add_eq_or_of_lt (by omega)]
theorem and127 (x:Nat) (h:x < 2 ^ 62):intBits .and .i64 (x:Int) 127=((x % 128:Nat):Int):=by
 rw [show (127:Int)=((127:Nat):Int) from rfl,and_nat h (by decide),show (127:Nat)=2 ^ 7 - 1 from rfl,Nat.and_two_pow_sub_one_eq_mod]
theorem or128 (x:Nat) (h:x < 128):intBits .or .i64 128 (x:Int)=((128+x:Nat):Int):=by
 rw [show (128:Int)=((128:Nat):Int) from rfl,or_nat (by decide) (by omega),or_add (q:=128) (p:=128) (bits:=7) (h:=1) rfl rfl h]
theorem shr7 (x:Nat):Int.fdiv (x:Int) (2 ^ min 7 64)=((x / 128:Nat):Int):=fdiv_pow x 7
end
section
open Go
theorem l6In_ok (n a b:Int) (S:List Blk):VCall Tryz.prog 73 [.int .i64 n,.int .i64 a,.int .i64 b] S fun r S'=>r=.bool (decide (a≤n) && decide (n≤b))∧S'=S:=by
 refine VCall.en hD Tryz.func73 Tryz.ntmps73 Tryz.results73 ?_
 simp -implicitDefEqProofs (disch:=omega) only [push_cast,simprocAttr,↓gd]
 refine ⟨fun h=>fin0 ?_,fun h=>fin0 ?_⟩ <;> simp <;> omega
theorem in_ok (n a b:Int) (S:List Blk):VCall Tryz.prog 82 [.int .i64 n,.int .i64 a,.int .i64 b] S fun r S'=>r=.bool (decide (a≤n) && decide (n≤b))∧S'=S:=by
 refine VCall.en hD Tryz.func82 Tryz.ntmps82 Tryz.results82 ?_
 simp -implicitDefEqProofs (disch:=omega) only [push_cast,simprocAttr,↓gd]
 refine ⟨fun h=>fin0 ?_,fun h=>fin0 ?_⟩ <;> simp <;> omega
theorem l6In_t {n a b:Int} (h:a≤n∧n≤b) (S:List Blk):VCall Tryz.prog 73 [.int .i64 n,.int .i64 a,.int .i64 b] S fun r S'=>r=.bool true∧S'=S:=by
 have:=l6In_ok n a b S
 rwa [decide_eq_true h.1,decide_eq_true h.2] at this
theorem l6In_f {n a b:Int} (h:¬(a≤n∧n≤b)) (S:List Blk):VCall Tryz.prog 73 [.int .i64 n,.int .i64 a,.int .i64 b] S fun r S'=>r=.bool false∧S'=S:=by
 have:=l6In_ok n a b S
 rwa [show (decide (a≤n) && decide (n≤b))=false by simp; omega] at this
theorem in_t {n a b:Int} (h:a≤n∧n≤b) (S:List Blk):VCall Tryz.prog 82 [.int .i64 n,.int .i64 a,.int .i64 b] S fun r S'=>r=.bool true∧S'=S:=by
 have:=in_ok n a b S
 rwa [decide_eq_true h.1,decide_eq_true h.2] at this
theorem in_f {n a b:Int} (h:¬(a≤n∧n≤b)) (S:List Blk):VCall Tryz.prog 82 [.int .i64 n,.int .i64 a,.int .i64 b] S fun r S'=>r=.bool false∧S'=S:=by
 have:=in_ok n a b S
 rwa [show (decide (a≤n) && decide (n≤b))=false by simp; omega] at this
theorem l1Byte_ok (n:Nat) (S:List Blk):VCall Tryz.prog 79 [.int .i64 n] S fun r S'=>r=.str [by8 n]∧S'=S:=by
 refine VCall.en hD Tryz.func79 Tryz.ntmps79 Tryz.results79 ?_
 simp -implicitDefEqProofs (disch:=omega) only [push_cast,simprocAttr,↓gd]
 exact fin1 (.str _) (by rw [byte_wrap,byInt])
theorem l1Top_ok (n:Nat) (hn:n≤40) (S:List Blk):VCall Tryz.prog 119 [.int .i64 n] S fun r S'=>r=.int .i64 (2 ^ n:Nat)∧S'=S:=by
 refine VCall.en hD Tryz.func119 Tryz.ntmps119 Tryz.results119 ?_
 simp -implicitDefEqProofs (disch:=omega) only [push_cast,simprocAttr,↓gd]
 refine wpV_loop (fun m t S'=>∃i p:Nat,m=n - i∧i≤n∧p=2 ^ i∧t 0=.int .i64 n∧t 3=.int .i64 p∧t 4=.int .i64 i∧S'=S) n ⟨0,1,by simp,by omega,rfl,rfl,rfl,rfl,rfl⟩ ?_
 rintro m t S' ⟨i,p,rfl,hi,hp,h0,h3,h4,rfl⟩
 refine wpV_of0 hD ?_
 have hp2:p≤2 ^ 40:=by rw [hp]; exact Nat.pow_le_pow_right (by omega) (by omega)
 simp -implicitDefEqProofs (disch:=omega) only [push_cast,simprocAttr,h0,h3,h4,↓gd]
 refine ⟨fun h=>⟨n - (i+1),by omega,i+1,2 * p,rfl,by omega,by rw [hp,Nat.pow_succ,Nat.mul_comm],by simp,by simp⟩,fun h=>fin0 ?_⟩
 have:i=n:=by omega
 subst this
 simp [hp]
theorem l1Write_ok (n bits head:Nat) (hn:n≤1000000) (hb:bits≤8) (hh:head≤256) (S:List Blk) :
  VCall Tryz.prog 111 [.int .i64 n,.int .i64 bits,.int .i64 head] S fun r S'=>r=.str (numW n bits head)∧S'=S:=by
 refine VCall.en hD Tryz.func111 Tryz.ntmps111 Tryz.results111 ?_
 simp -implicitDefEqProofs (disch:=omega) only [push_cast,simprocAttr,↓gd]
 refine (l1Top_ok bits (by omega) S).to ?_
 obtain ⟨p,hp⟩:∃p,p=2 ^ bits:=⟨_,rfl⟩
 have hp2:p≤2 ^ 8:=by rw [hp]; exact Nat.pow_le_pow_right (by omega) (by omega)
 have hp1:1≤p:=by rw [hp]; exact Nat.one_le_two_pow
 obtain ⟨q,hq⟩:∃q,q=head * p:=⟨_,rfl⟩
 have hq2:q≤256 * 256:=by rw [hq]; exact Nat.mul_le_mul hh (by omega)
 have hq3:(head:Int) * (p:Int)=q:=by rw [hq]; simp
 rw [←hp]
 simp -implicitDefEqProofs (disch:=omega) only [push_cast,simprocAttr,↓gd]
 refine ⟨fun h=>?_,fun h=>?_⟩
 ·simp -implicitDefEqProofs (disch:=omega) only [push_cast,simprocAttr,Int.sub_add_cancel,hq3,↓gd]
  refine (l1Byte_ok (q+n) S).to ?_
  simp -implicitDefEqProofs (disch:=omega) only [push_cast,simprocAttr,↓gd]
  refine fin0 ?_
  rw [numW,←hp,if_pos (by omega),hq]
 ·simp -implicitDefEqProofs (disch:=omega) only [push_cast,simprocAttr,Int.sub_add_cancel,hq3,↓gd]
  refine ((l1Byte_ok (q+(p - 1)) S).as (by simp; omega)).to ?_
  simp -implicitDefEqProofs (disch:=omega) only [push_cast,simprocAttr,↓gd]
  refine wpV_loop (fun x t S'=>∃o:List UInt8,x≤1000000∧o.length≤1000001 - x∧o++numTail x=numW n bits head∧t 0=.int .i64 x∧t 8=.str o∧S'=S) (n - (p - 1)) ⟨_,by omega,?_,?_,?_,rfl,rfl⟩ ?_
  ·simp; omega
  ·rw [numW,←hp,if_neg (by omega),hq]; rfl
  ·show V.int .i64 _=_
   congr 1; omega
  rintro x t S' ⟨o,hx,ho,hw,h0,h8,rfl⟩
  refine wpV_of0 hD ?_
  simp -implicitDefEqProofs (disch:=omega) only [push_cast,simprocAttr,h0,h8,↓gd]
  refine ⟨fun h=>?_,fun h=>?_⟩
  ·have e:(Int.tmod (x:Int) 128)=((x % 128:Nat):Int):=tmod_nat x 128
   have e2:(Int.tdiv (x:Int) 128)=((x / 128:Nat):Int):=tdiv_nat x 128
   simp -implicitDefEqProofs (disch:=omega) only [push_cast,simprocAttr,e,e2,↓gd]
   refine ((l1Byte_ok (x % 128+128) S').as (by simp)).to ?_
   simp -implicitDefEqProofs (disch:=omega) only [push_cast,simprocAttr,h0,h8,e2,↓gd]
   refine ⟨by omega,x / 128,by omega,_,by omega,?_,?_,rfl,rfl⟩
   ·simp; omega
   ·rw [←hw,numTail_ge (m:=x) (by omega)]; simp
  ·refine (l1Byte_ok x S').to ?_
   simp -implicitDefEqProofs (disch:=omega) only [push_cast,simprocAttr,h0,h8,↓gd]
   refine ⟨by omega,fin0 ?_⟩
   rw [←hw,numTail_lt (by omega)]
theorem NumWrite_ok (n:Int) (bits head:Nat) (hn:-1000000000≤n∧n≤1000000000) (hb:3≤bits∧bits≤7) (hh:head≤256) (S:List Blk) :
  VCall Tryz.prog 93 [.int .i64 n,.int .i64 bits,.int .i64 head] S fun r S'=>r=.str (if 0≤n∧n≤9999∧head < 2 ^ (8 - bits) then numW n.toNat bits head else [])∧S'=S:=by
 obtain ⟨p,hp⟩:∃p,p=2 ^ bits:=⟨_,rfl⟩
 obtain ⟨p8,hp8⟩:∃p8,p8=2 ^ (8 - bits):=⟨_,rfl⟩
 have hp2:p≤2 ^ 7:=by rw [hp]; exact Nat.pow_le_pow_right (by omega) (by omega)
 have hp1:1≤p:=by rw [hp]; exact Nat.one_le_two_pow
 have hp4:p8≤2 ^ 8:=by rw [hp8]; exact Nat.pow_le_pow_right (by omega) (by omega)
 have hp3:1≤p8:=by rw [hp8]; exact Nat.one_le_two_pow
 have e1:(2:Int) ^ min ((8:Int) - bits).toNat 64=p8:=by rw [hp8,show min ((8:Int) - bits).toNat 64=8 - bits by omega]; simp
 have e2:(2:Int) ^ min bits 64=p:=by rw [hp,show min bits 64=bits by omega]; simp
 rw [←hp8]
 by_cases h1:0≤n∧n≤9999
 ·obtain ⟨n,rfl⟩:∃m:Nat,n=m:=⟨n.toNat,by omega⟩
  by_cases h2:head < p8
  ·have hq0:head * p+p≤p8 * p:=by rw [←Nat.succ_mul]; exact Nat.mul_le_mul_right _ h2
   have hq1:p8 * p=256:=by rw [hp,hp8,←Nat.pow_add,show 8 - bits+bits=8 by omega]
   obtain ⟨q,hq⟩:∃q,q=head * p:=⟨_,rfl⟩
   have hq3:(head:Int) * (p:Int)=q:=by rw [hq]; simp
   rw [if_pos ⟨h1.1,h1.2,h2⟩,Int.toNat_natCast]
   refine VCall.en hD Tryz.func93 Tryz.ntmps93 Tryz.results93 ?_
   simp -implicitDefEqProofs (disch:=omega) only [push_cast,simprocAttr,↓gd]
   refine (in_t h1 _).to ?_
   simp -implicitDefEqProofs (disch:=omega) only [push_cast,simprocAttr,↓gd]
   refine (in_t (by omega) _).to ?_
   simp -implicitDefEqProofs (disch:=omega) only [push_cast,simprocAttr,e1,↓gd]
   refine ⟨by omega,(in_t (by omega) _).to ?_⟩
   simp -implicitDefEqProofs (disch:=omega) only [push_cast,simprocAttr,e1,e2,hq3,↓gd]
   refine ⟨by omega,fun h=>⟨by omega,fin1 (.str _) ?_⟩,fun h=>⟨by omega,?_⟩⟩
   ·rw [or_nat (by omega) (by omega),or_add hp hq (by omega),by8_wrap,numW,←hp,if_pos (by omega),hq]
   have eb:intBits .or .i64 (q:Int) (1 * (p:Int) - 1)=((q+(p - 1):Nat):Int):=by
    rw [show (1 * (p:Int) - 1)=((p - 1:Nat):Int) by omega,or_nat (by omega) (by omega),or_add hp hq (by omega)]
   rw [eb]
   refine wpV_loop (fun x t S'=>∃o:List UInt8,∃τ,x≤10000∧o.length≤10001 - x∧o++numTail x=numW n bits head∧t 0=.int .i64 x∧t 8=.rows (some τ) (o.map u8V)∧Tok S S' τ 1) (n - (p - 1))
    ⟨[by8 (q+(p - 1))],S.length,by omega,?_,?_,?_,?_,Tok.new _ _⟩ ?_
   ·simp; omega
   ·rw [numW,←hp,if_neg (by omega),hq]; rfl
   ·show V.int .i64 _=_
    congr 1; omega
   ·show V.rows _ _=_
    rw [u8V_of]; rfl
   rintro x t S' ⟨o,τ,hx,ho,hw,h0,h8,hT⟩
   have hat:=hT.at
   refine wpV_of0 hD ?_
   simp -implicitDefEqProofs (disch:=omega) only [push_cast,simprocAttr,h0,h8,hat,↓gd]
   refine ⟨fun h=>⟨by omega,x / 128,by omega,o++[by8 (x % 128+128)],S'.length+1,by omega,by simp; omega,?_,?_,?_,hT.step1 _⟩,fun h=>⟨by omega,hT.step1 _ |>.fin (.str _) ?_⟩⟩
   ·rw [←hw,numTail_ge (m:=x) (by omega)]; simp
   ·rw [shr7]
   ·rw [and127 x (by omega),or128 _ (by omega),u8V_of,Nat.add_comm 128]; simp
   ·rw [←hw,numTail_lt (by omega),by8_wrap]
  ·rw [if_neg (by omega)]
   refine VCall.en hD Tryz.func93 Tryz.ntmps93 Tryz.results93 ?_
   simp -implicitDefEqProofs (disch:=omega) only [push_cast,simprocAttr,↓gd]
   refine (in_t h1 _).to ?_
   simp -implicitDefEqProofs (disch:=omega) only [push_cast,simprocAttr,↓gd]
   refine (in_t (by omega) _).to ?_
   simp -implicitDefEqProofs (disch:=omega) only [push_cast,simprocAttr,e1,↓gd]
   refine ⟨by omega,(in_f (by omega) _).to ?_⟩
   simp -implicitDefEqProofs (disch:=omega) only [push_cast,simprocAttr,↓gd]
   exact fin0 rfl
 ·rw [if_neg (by omega)]
  refine VCall.en hD Tryz.func93 Tryz.ntmps93 Tryz.results93 ?_
  simp -implicitDefEqProofs (disch:=omega) only [push_cast,simprocAttr,↓gd]
  refine (in_f h1 _).to ?_
  simp -implicitDefEqProofs (disch:=omega) only [push_cast,simprocAttr,↓gd]
  exact fin0 rfl
end
section
open Go
def signs:List UInt8:=[101,116,97,111,105,110,115,114,104,108,48,49,50,51,52,53,54,55,56,57,100,99,117,109,102,112,103,119,121,98,118,107,120,106,113,122,58,47,45]
def signAt (b:UInt8):Int:=Lib.indexByte signs b
theorem indexByteString_ok (s:List UInt8) (c:UInt8) (S:List Blk):VCall Tryz.prog 121 [.str s,.int .u8 (c.toNat:Int)] S fun r S'=>r=.int .i64 (Lib.indexByte s c)∧S'=S:=by
 refine .inr ⟨_,⟨rfl,rfl⟩,fun G w cargs hall=>?_⟩
 obtain ⟨x,y,rfl⟩:∃x y,cargs=#[x,y]:=by
  have:=hall.1
  obtain ⟨l⟩:=cargs
  match l,this with
  | [x,y],_=>exact ⟨x,y,rfl⟩
 have h1:=hall.2 0 _ _ rfl rfl
 have h2:=hall.2 1 _ _ rfl rfl
 cases h1; cases h2
 refine ⟨.int .i64 (Lib.indexByte s c),?_,.int _ _⟩
 rw [run_callFunc_extern (fn:=Tryz.f121) Tryz.func121 (by kernel_rfl) (by kernel_rfl) (by kernel_rfl) (e:=Extern.BytealgIndexByte.indexByte) (by kernel_rfl),Lib.run_indexByteString]
 simp
theorem liteIndexByte_ok (s:List UInt8) (c:UInt8) (S:List Blk):VCall Tryz.prog 113 [.str s,.int .u8 (c.toNat:Int)] S fun r S'=>r=.int .i64 (Lib.indexByte s c)∧S'=S:=by
 refine VCall.en hD Tryz.func113 Tryz.ntmps113 Tryz.results113 ?_
 simp -implicitDefEqProofs (disch:=omega) only [push_cast,simprocAttr,↓gd]
 refine (indexByteString_ok s c S).to ?_
 simp -implicitDefEqProofs (disch:=omega) only [push_cast,simprocAttr,↓gd]
 exact fin0 rfl
theorem indexByte_ok (s:List UInt8) (c:UInt8) (S:List Blk):VCall Tryz.prog 100 [.str s,.int .u8 (c.toNat:Int)] S fun r S'=>r=.int .i64 (Lib.indexByte s c)∧S'=S:=by
 refine VCall.en hD Tryz.func100 Tryz.ntmps100 Tryz.results100 ?_
 simp -implicitDefEqProofs (disch:=omega) only [push_cast,simprocAttr,↓gd]
 refine (liteIndexByte_ok s c S).to ?_
 simp -implicitDefEqProofs (disch:=omega) only [push_cast,simprocAttr,↓gd]
 exact fin0 rfl
theorem indexByte_at:∀(l:List UInt8) (c:UInt8) (i:Nat),(∀j,j < i→l[j]?≠some c)→l[i]?=some c→Lib.indexByte l c=i
 | [],c,i,_,h=>by simp at h
 | b :: l,c,0,_,h=>by simp at h; simp [Lib.indexByte,h]
 | b :: l,c,i+1,h0,h=>by
  have hb:b≠c:=fun e=>h0 0 (by omega) (by simp [e])
  have:=indexByte_at l c i (fun j hj=>by have:=h0 (j+1) (by omega); simpa using this) (by simpa using h)
  simp only [Lib.indexByte,this,beq_eq_false_iff_ne.2 hb]
  have h2:((i:Int) == -1)=false:=by simp
  simp [h2]
theorem indexByte_no:∀(l:List UInt8) (c:UInt8),(∀j,j < l.length→l[j]?≠some c)→Lib.indexByte l c=-1
 | [],c,_=>rfl
 | b :: l,c,h0=>by
  have hb:b≠c:=fun e=>h0 0 (by simp) (by simp [e])
  have:=indexByte_no l c (fun j hj=>by have:=h0 (j+1) (by simpa using hj); simpa using this)
  simp [Lib.indexByte,this,hb]
theorem u8_eq (a b:UInt8):((a.toNat:Int)=(b.toNat:Int))↔a=b:=by
 constructor
 ·intro h; exact UInt8.toNat.inj (by omega)
 ·rintro rfl; rfl
theorem l2Sign_ok (c:UInt8) (S:List Blk):VCall Tryz.prog 96 [.int .u8 (c.toNat:Int)] S fun r S'=>r=.int .i64 (signAt c)∧S'=S:=by
 refine VCall.en hD Tryz.func96 Tryz.ntmps96 Tryz.results96 ?_
 simp -implicitDefEqProofs (disch:=omega) only [push_cast,simprocAttr,↓gd]
 refine wpV_loop (fun m t S'=>∃i:Nat,m=39 - i∧i≤39∧(∀j,j < i→signs[j]?≠some c)∧t 0=.int .u8 (c.toNat:Int)∧t 3=.int .i64 i∧S'=S) 39 ⟨0,rfl,by omega,by simp,rfl,rfl,rfl⟩ ?_
 rintro m t S' ⟨i,rfl,hi,hno,h0,h3,rfl⟩
 refine wpV_of0 hD ?_
 simp -implicitDefEqProofs (disch:=omega) only [push_cast,simprocAttr,h0,h3,↓gd]
 refine ⟨fun h=>⟨by omega,by omega,?_⟩,fun h=>fin0 ?_⟩
 ·have hi2:i < signs.length:=by show i < 39; omega
  have hg:signs[i]?=some (signs.getD i 0):=by rw [List.getD,List.getElem?_eq_getElem hi2]; rfl
  change ((((signs.getD i 0).toNat:Int)=(c.toNat:Int))→_)∧(¬(((signs.getD i 0).toNat:Int)=(c.toNat:Int))→_)
  rw [u8_eq]
  refine ⟨fun e=>fin0 ?_,fun e=>⟨39 - (i+1),by omega,i+1,rfl,by omega,fun j hj=>?_,by simp⟩⟩
  ·rw [signAt,indexByte_at signs c i hno (by rw [hg,e])]
  ·rcases Nat.lt_succ_iff_lt_or_eq.1 hj with g | rfl
   ·exact hno j g
   ·rw [hg]; simpa using e
 ·have:i=39:=by omega
  subst this
  rw [signAt,indexByte_no signs c hno]
def wordOk (w:List UInt8):Bool:=w.all (fun c=>decide (0≤signAt c)) && decide (w.length≤16)
theorem hDi:TypesOk Tryz.prog (wrOf D [3]):=wrOk hD _
theorem all_take_bad {p:UInt8→Bool} {w:List UInt8} {i:Nat} (h:i < w.length) (hb:p (w.getD i 0)=false):w.all p=false:=by
 rw [List.getD,List.getElem?_eq_getElem h] at hb
 rw [Bool.eq_false_iff]
 intro ha
 have:=List.all_eq_true.1 ha w[i] (List.getElem_mem h)
 simp only [Option.getD_some] at hb
 rw [hb] at this; cases this
theorem all_take_succ {p:UInt8→Bool} {w:List UInt8} {i:Nat} (h:i < w.length) (h1:(w.take i).all p=true) (h2:p (w.getD i 0)=true):(w.take (i+1)).all p=true:=by
 rw [List.getD,List.getElem?_eq_getElem h] at h2
 rw [List.take_succ_eq_append_getElem h,List.all_append,h1]
 simpa using h2
theorem sWordOk_ok (w:List UInt8) (hw:w.length≤1000000000) (S:List Blk):VCall Tryz.prog 75 [.str w] S fun r S'=>r=.bool (wordOk w)∧S'=S:=by
 refine VCall.en hD Tryz.func75 Tryz.ntmps75 Tryz.results75 ?_
 simp -implicitDefEqProofs (disch:=omega) only [push_cast,simprocAttr,↓gd]
 refine wpV_loop (fun m t S'=>∃i:Nat,m=w.length - i∧i≤w.length∧(w.take i).all (fun c=>decide (0≤signAt c))=true∧t 0=.str w∧t 3=.int .i64 i∧S'=S) w.length ⟨0,by omega,by omega,by simp,rfl,rfl,rfl⟩ ?_
 rintro m t S' ⟨i,rfl,hi,hno,h0,h3,rfl⟩
 refine wpV_of0 hD ?_
 simp -implicitDefEqProofs (disch:=omega) only [push_cast,simprocAttr,h0,h3,↓gd]
 refine ⟨fun h=>⟨by omega,by omega,?_⟩,fun h=>fin0 ?_⟩
 ·refine (l2Sign_ok (w.getD i 0) S').to ?_
  simp -implicitDefEqProofs (disch:=omega) only [push_cast,simprocAttr,h0,h3,↓gd]
  refine ⟨fun e=>fin0 ?_,fun e=>⟨w.length - (i+1),by omega,i+1,rfl,by omega,all_take_succ (by omega) hno (by simpa using e),by simp⟩⟩
  rw [wordOk,all_take_bad (i:=i) (by omega) (by simpa using e)]; rfl
 ·have:i=w.length:=by omega
  subst this
  rw [List.take_length] at hno
  rw [wordOk,hno]
  congr 1
  simp
  omega
theorem WordOk_ok (w:List UInt8) (hw:w.length≤1000000000) (S:List Blk):VCall Tryz.prog 84 [.str w] S fun r S'=>r=.bool (wordOk w)∧S'=S:=by
 refine VCall.en hD Tryz.func84 Tryz.ntmps84 Tryz.results84 ?_
 simp -implicitDefEqProofs (disch:=omega) only [push_cast,simprocAttr,↓gd]
 refine wpV_loop (fun m t S'=>∃i:Nat,m=w.length - i∧i≤w.length∧(w.take i).all (fun c=>decide (0≤signAt c))=true∧t 0=.str w∧t 5=.int .i64 w.length∧t 6=.int .i64 i∧S'=S) w.length ⟨0,by omega,by omega,by simp,rfl,rfl,rfl,rfl⟩ ?_
 rintro m t S' ⟨i,rfl,hi,hno,h0,h5,h6,rfl⟩
 refine wpV_of0 hD ?_
 simp -implicitDefEqProofs (disch:=omega) only [push_cast,simprocAttr,h0,h5,h6,↓gd]
 refine ⟨fun h=>⟨by omega,by omega,?_⟩,fun h=>fin0 ?_⟩
 ·refine (indexByte_ok signs (w.getD i 0) S').to ?_
  simp -implicitDefEqProofs (disch:=omega) only [push_cast,simprocAttr,h0,h5,h6,↓gd]
  refine ⟨fun e=>fin0 ?_,fun e=>⟨w.length - (i+1),by omega,i+1,rfl,by omega,all_take_succ (by omega) hno (by simpa [signAt] using e),by simp⟩⟩
  rw [wordOk,all_take_bad (i:=i) (by omega) (by simpa [signAt] using e)]; rfl
 ·have:i=w.length:=by omega
  subst this
  rw [List.take_length] at hno
  rw [wordOk,hno]
  congr 1
  simp
  omega
def bitsOf (n:Nat):Nat→List Nat
 | 0=>[]
 | k+1=>bitsOf (n / 2) k++[n % 2]
def iV (n:Nat):V:=.int .i64 n
theorem bitsOf_len (n k:Nat):(bitsOf n k).length=k:=by induction k generalizing n <;> simp_all [bitsOf]
theorem flat_iV (l:List Nat):(l.map iV).flatMap V.cells=l.map iV:=by induction l <;> simp_all [iV,V.cells]
theorem cl_iV (n:Nat) (l:List Nat):Cl n (.rows none (l.map iV)):=by
 refine Cl.rows' (fun x hx=>?_)
 obtain ⟨y,_,rfl⟩:=List.mem_map.1 hx
 exact .int _ _
theorem l2Bits_ok (n many:Nat) (hn:n≤1000000000) (hm:many≤1000) (S:List Blk):VCall Tryz.prog 125 [.int .i64 n,.int .i64 many] S fun r S'=>r=.rows none ((bitsOf n many).map iV)∧S'=S:=by
 refine VCall.en hDi Tryz.func125 Tryz.ntmps125 Tryz.results125 ?_
 simp -implicitDefEqProofs (disch:=omega) only [push_cast,simprocAttr,↓gd]
 refine ⟨by omega,by omega,?_⟩
 refine wpV_loop (fun m t S'=>∃(x:Nat) (d:List Nat),x≤n∧bitsOf n many=bitsOf x m++d∧m+d.length=many∧t 0=.int .i64 x∧t 5=.heap S.length many∧t 6=.int .i64 ((m:Int) - 1)∧S'=S++[.cells 1 (List.replicate m (iV 0)++d.map iV)]) many
  ⟨n,[],by omega,by simp,by simp,rfl,rfl,rfl,by simp [iV,List.flatten_replicate_singleton]⟩ ?_
 rintro m t S' ⟨x,d,hxn,hbits,hlen,h0,h5,h6,rfl⟩
 refine wpV_of0 hDi ?_
 simp -implicitDefEqProofs (disch:=omega) only [push_cast,simprocAttr,h0,h5,h6,↓gd]
 refine ⟨fun h=>?_,fun h=>?_⟩
 ·obtain ⟨k,rfl⟩:∃k,m=k+1:=⟨m - 1,by omega⟩
  refine ⟨by omega,by omega,by simp,k,by omega,x / 2,(x % 2) :: d,by omega,by simp [hbits,bitsOf],by simp at hlen ⊢; omega,?_,?_,?_⟩
  ·rw [show Int.tdiv (x:Int) 2=((x / 2:Nat):Int) from tdiv_nat x 2,i64_fit _ (by omega)]
  ·congr 1; omega
  ·rw [splice_one,show Int.tmod (x:Int) 2=((x % 2:Nat):Int) from tmod_nat x 2,List.replicate_succ',show (((k+1:Nat):Int) - 1).toNat * 1=k by omega,List.append_assoc,List.set_append_right _ _ (by simp)]
   simp [iV]
 ·have:m=0:=by omega
  subst this
  have hd:d=bitsOf n many:=by simpa [bitsOf] using hbits.symm
  subst hd
  refine fin_freeze rfl rfl ?_ ?_ ?_ (cl_iV _ _) rfl
  ·simp [bitsOf_len]
  ·simp [bitsOf_len]
  ·rw [flat_iV]
   simp only [List.replicate_zero,List.nil_append,Nat.mul_one]
   rw [List.take_of_length_le (by simp [bitsOf_len])]
def numOf (l:List Nat):Nat:=l.foldl (fun n b=>2 * n+b) 0
theorem numOf_append (l:List Nat) (b:Nat):numOf (l++[b])=2 * numOf l+b:=by simp [numOf]
theorem foldl_lt:∀(l:List Nat) (a:Nat),(∀b ∈ l,b≤1)→l.foldl (fun n b=>2 * n+b) a < (a+1) * 2 ^ l.length
 | [],a,_=>by simp
 | b :: l,a,h=>by
  have h1:=foldl_lt l (2 * a+b) (fun x hx=>h x (by simp [hx]))
  have h2:=h b (by simp)
  have h3:(2 * a+b+1) * 2 ^ l.length≤(2 * a+2) * 2 ^ l.length:=Nat.mul_le_mul_right _ (by omega)
  have h4:(a+1) * 2 ^ (l.length+1)=(2 * a+2) * 2 ^ l.length:=by rw [Nat.pow_succ,Nat.mul_comm (2 ^ l.length) 2,←Nat.mul_assoc]; congr 1; omega
  simp only [List.foldl_cons,List.length_cons]
  omega
theorem numOf_lt (l:List Nat) (h:∀b ∈ l,b≤1):numOf l < 2 ^ l.length:=by have:=foldl_lt l 0 h; simpa [numOf] using this
theorem iV_eq (n:Nat):iV n=.int .i64 n:=rfl
@[push_cast] theorem all_iV_len (l:List Nat):(l.map iV).all (lenIs 1)=true:=by induction l <;> simp_all [lenIs,iV,V.cells]
theorem getD_iV {l:List Nat} {i:Nat} (h:i < l.length):(l.map iV).getD i .junk=iV (l.getD i 0):=by
 simp [List.getD,List.getElem?_eq_getElem h]
theorem take_getD {l:List Nat} {i:Nat} (h:i < l.length):l.take (i+1)=l.take i++[l.getD i 0]:=by
 rw [List.take_succ_eq_append_getElem h,List.getD,List.getElem?_eq_getElem h]; rfl
theorem l2Num_ok (l:List Nat) (hl:l.length≤40) (hb:∀b ∈ l,b≤1) (S:List Blk):VCall Tryz.prog 126 [.rows none (l.map iV)] S fun r S'=>r=.int .i64 (numOf l)∧S'=S:=by
 refine VCall.en hD Tryz.func126 Tryz.ntmps126 Tryz.results126 ?_
 simp -implicitDefEqProofs (disch:=omega) only [push_cast,simprocAttr,↓gd]
 refine wpV_loop (fun m t S'=>∃i:Nat,m=l.length - i∧i≤l.length∧t 0=.rows none (l.map iV)∧t 3=.int .i64 (numOf (l.take i))∧t 4=.int .i64 i∧S'=S) l.length ⟨0,by omega,by omega,rfl,rfl,rfl,rfl⟩ ?_
 rintro m t S' ⟨i,rfl,hi,h0,h3,h4,rfl⟩
 refine wpV_of0 hD ?_
 have hlt:=numOf_lt (l.take i) (fun b hbb=>hb b (List.mem_of_mem_take hbb))
 have hp:2 ^ (l.take i).length≤2 ^ 40:=Nat.pow_le_pow_right (by omega) (by simp; omega)
 simp -implicitDefEqProofs (disch:=omega) only [push_cast,simprocAttr,h0,h3,h4,↓gd]
 refine ⟨fun h=>?_,fun h=>fin0 ?_⟩
 ·have hil:i < l.length:=by omega
  have hbi:l.getD i 0≤1:=by rw [List.getD,List.getElem?_eq_getElem hil]; exact hb _ (List.getElem_mem hil)
  rw [getD_iV hil,iV_eq]
  simp -implicitDefEqProofs (disch:=omega) only [push_cast,simprocAttr,h0,h3,h4,↓gd]
  refine ⟨by omega,by omega,l.length - (i+1),by omega,i+1,rfl,by omega,?_,by simp⟩
  rw [take_getD hil,numOf_append]
  simp
 ·have:i=l.length:=by omega
  subst this
  rw [List.take_length]
def codeOf (c:UInt8):List Nat:=if signAt c < 24 then bitsOf (signAt c).toNat 5 else bitsOf (72+(signAt c).toNat) 7
def pad8 (l:List Nat):List Nat:=l++List.replicate ((8 - l.length % 8) % 8) 1
def bytes8 (l:List Nat):List UInt8:=if l.length < 8 then [] else by8 (numOf (l.take 8)) :: bytes8 (l.drop 8)
termination_by l.length
decreasing_by simp; omega
def pack (w:List UInt8):List UInt8:=bytes8 (pad8 (w.flatMap codeOf))
theorem bitsOf_le (n k:Nat):∀b ∈ bitsOf n k,b≤1:=by
 induction k generalizing n with
 | zero=>simp [bitsOf]
 | succ k ih =>
  intro b hb
  simp only [bitsOf,List.mem_append,List.mem_singleton] at hb
  rcases hb with hb | rfl
  ·exact ih _ b hb
  ·omega
theorem codeOf_le (c:UInt8):∀b ∈ codeOf c,b≤1:=by
 unfold codeOf; split <;> exact bitsOf_le _ _
theorem codeOf_len (c:UInt8):(codeOf c).length≤7:=by
 unfold codeOf; split <;> simp [bitsOf_len]
theorem codes_len (w:List UInt8):(w.flatMap codeOf).length≤7 * w.length:=by
 induction w with
 | nil=>simp
 | cons c w ih=>have:=codeOf_len c; simp only [List.flatMap_cons,List.length_append,List.length_cons]; omega
theorem indexByte_lt:∀(l:List UInt8) (c:UInt8),Lib.indexByte l c < l.length
 | [],c=>by simp [Lib.indexByte]
 | b :: l,c=>by
  have:=indexByte_lt l c
  simp only [Lib.indexByte,List.length_cons]
  split
  ·omega
  ·split <;> omega
theorem signAt_le (c:UInt8):signAt c≤38:=by
 have:=indexByte_lt signs c
 have e:signs.length=39:=rfl
 unfold signAt
 omega
theorem take_get8 {l:List UInt8} {i:Nat} (h:i < l.length):l.take (i+1)=l.take i++[l.getD i 0]:=by
 rw [List.take_succ_eq_append_getElem h,List.getD,List.getElem?_eq_getElem h]; rfl
theorem pad8_done {l:List Nat} (h:l.length % 8=0):pad8 l=l:=by simp [pad8,h]
theorem pad8_step {l:List Nat} (h:¬l.length % 8=0):pad8 (l++[1])=pad8 l:=by
 have e:(8 - l.length % 8) % 8=(8 - (l.length+1) % 8) % 8+1:=by omega
 simp only [pad8,List.length_append,List.length_cons,List.length_nil,Nat.zero_add]
 rw [e,List.replicate_succ]
 simp
theorem bytes8_step {l:List Nat} (h:8≤l.length):bytes8 l=by8 (numOf (l.take 8)) :: bytes8 (l.drop 8):=by rw [bytes8,if_neg (by omega)]
theorem bytes8_end {l:List Nat} (h:l.length < 8):bytes8 l=[]:=by rw [bytes8,if_pos h]
theorem l2Pack_ok (w:List UInt8) (hw:w.length≤1000) (hs:∀c ∈ w,0≤signAt c) (S:List Blk):VCall Tryz.prog 118 [.str w] S fun r S'=>r=.str (pack w)∧S'=S:=by
 refine VCall.en hD Tryz.func118 Tryz.ntmps118 Tryz.results118 ?_
 simp -implicitDefEqProofs (disch:=omega) only [push_cast,simprocAttr,↓gd]
 refine wpV_loop (fun m t S'=>∃(i τ:Nat),m=w.length - i∧i≤w.length∧t 0=.str w∧t 3=.rows (some τ) (((w.take i).flatMap codeOf).map iV)∧t 4=.int .i64 i∧Tok S S' τ 1) w.length ⟨0,S.length,by omega,by omega,rfl,rfl,rfl,Tok.new _ _⟩ ?_
 rintro m t S' ⟨i,τ,rfl,hi,h0,h3,h4,hT⟩
 have hat:=hT.at
 have hlen:((w.take i).flatMap codeOf).length≤7000:=by have:=codes_len (w.take i); simp only [List.length_take] at this; omega
 refine wpV_of0 hD ?_
 simp -implicitDefEqProofs (disch:=omega) only [push_cast,simprocAttr,h0,h3,h4,↓gd]
 refine ⟨fun h=>⟨by omega,by omega,?_⟩,fun h=>?_⟩
 ·have hil:i < w.length:=by omega
  obtain ⟨c,hc⟩:∃c,c=w.getD i 0:=⟨_,rfl⟩
  have hcm:c ∈ w:=by rw [hc,List.getD,List.getElem?_eq_getElem hil]; exact List.getElem_mem hil
  obtain ⟨k,hk⟩:∃k:Nat,signAt c=k:=⟨(signAt c).toNat,by have:=hs c hcm; omega⟩
  have hk38:=signAt_le c
  rw [←hc]
  refine (l2Sign_ok c S').to ?_
  rw [hk]
  simp -implicitDefEqProofs (disch:=omega) only [push_cast,simprocAttr,h0,h3,h4,↓gd]
  refine ⟨fun g=>?_,fun g=>?_⟩
  ·have hcode:codeOf c=bitsOf k 5:=by unfold codeOf; rw [if_pos (by omega),hk]; rfl
   refine ((l2Bits_ok k 5 (by omega) (by omega) S').as (by simp)).to ?_
   simp -implicitDefEqProofs (disch:=omega) only [push_cast,simprocAttr,h0,h3,h4,hat,↓gd]
   refine ⟨by rw [bitsOf_len]; omega,by omega,w.length - (i+1),by omega,i+1,S'.length,rfl,by omega,?_,by simp,hT.step⟩
   rw [take_get8 hil,List.flatMap_append,←hc]
   simp [hcode]
  ·have hcode:codeOf c=bitsOf (72+k) 7:=by unfold codeOf; rw [if_neg (by omega),hk]; rfl
   refine ((l2Bits_ok (72+k) 7 (by omega) (by omega) S').as (by simp; omega)).to ?_
   simp -implicitDefEqProofs (disch:=omega) only [push_cast,simprocAttr,h0,h3,h4,hat,↓gd]
   refine ⟨by rw [bitsOf_len]; omega,by omega,w.length - (i+1),by omega,i+1,S'.length,rfl,by omega,?_,by simp,hT.step⟩
   rw [take_get8 hil,List.flatMap_append,←hc]
   simp [hcode]
 ·have:i=w.length:=by omega
  subst this
  rw [List.take_length] at h3 hlen
  clear h hi
  refine wpV_loop (fun m t S'=>∃(l:List Nat) (τ:Nat),m=(8 - l.length % 8) % 8∧pad8 l=pad8 (w.flatMap codeOf)∧l.length+(8 - l.length % 8) % 8≤7100∧(∀b ∈ l,b≤1)∧t 3=.rows (some τ) (l.map iV)∧Tok S S' τ 1) _
   ⟨w.flatMap codeOf,τ,rfl,rfl,by omega,fun b hb=>by obtain ⟨c,_,hc⟩:=List.mem_flatMap.1 hb; exact codeOf_le c b hc,h3,hT⟩ ?_
  clear h0 h3 h4 hT hat hlen
  rintro m t S' ⟨l,τ,rfl,hpad,hlen,hle,h3,hT⟩
  have hat:=hT.at
  have e8:Int.tmod (l.length:Int) 8=((l.length % 8:Nat):Int):=tmod_nat l.length 8
  refine wpV_of0 hD ?_
  simp -implicitDefEqProofs (disch:=omega) only [push_cast,simprocAttr,h3,hat,e8,↓gd]
  refine ⟨fun h=>⟨by omega,(8 - (l.length+1) % 8) % 8,by omega,l++[1],S'.length+1,by simp,?_,by simp; omega,?_,by simp [iV],hT.step1 _⟩,fun h=>?_⟩
  ·rw [pad8_step (by omega),hpad]
  ·intro b hb
   rcases List.mem_append.1 hb with g | g
   ·exact hle b g
   ·rw [List.mem_singleton.1 g]; exact Nat.le_refl _
  ·rw [pad8_done (by omega)] at hpad
   have hl8:l.length % 8=0:=by omega
   clear e8 hat
   refine wpV_loop (fun m t S'=>∃(i:Nat) (o:List UInt8),m=l.length - i∧i≤l.length∧i % 8=0∧o.length≤i∧o++bytes8 (l.drop i)=bytes8 l∧t 3=.rows (some τ) (l.map iV)∧t 6=.str o∧t 7=.int .i64 i∧Tok S S' τ 1) l.length
    ⟨0,[],by omega,by omega,rfl,by simp,by simp,h3,rfl,rfl,hT⟩ ?_
   clear hT h3
   rintro m t S' ⟨i,o,rfl,hi,hi8,ho,hob,h3,h6,h7,hT⟩
   refine wpV_of0 hD ?_
   simp -implicitDefEqProofs (disch:=omega) only [push_cast,simprocAttr,h3,h6,h7,↓gd]
   refine ⟨fun g=>⟨by omega,by omega,by omega,?_⟩,fun g=>hT.fin (.str _) ?_⟩
   ·have ech:List.drop i (List.take ((i:Int)+8).toNat (l.map iV))=((l.drop i).take 8).map iV:=by
     rw [show ((i:Int)+8).toNat=i+8 by omega,List.drop_take,Nat.add_sub_cancel_left,List.map_take,List.map_drop]
    rw [ech]
    refine (l2Num_ok ((l.drop i).take 8) (by simp; omega) (fun b hb=>hle b (List.mem_of_mem_drop (List.mem_of_mem_take hb))) S').to ?_
    simp -implicitDefEqProofs (disch:=omega) only [push_cast,simprocAttr,h3,h6,h7,↓gd]
    refine (l1Byte_ok (numOf ((l.drop i).take 8)) S').to ?_
    simp -implicitDefEqProofs (disch:=omega) only [push_cast,simprocAttr,h3,h6,h7,↓gd]
    refine ⟨by omega,l.length - (i+8),by omega,i+8,o++[by8 (numOf ((l.drop i).take 8))],rfl,by omega,by omega,by simp; omega,?_,by simp,by simp,hT⟩
    rw [←hob,bytes8_step (l:=l.drop i) (by simp; omega)]
    simp [List.drop_drop]
   ·have:i=l.length:=by omega
    subst this
    rw [List.drop_length,bytes8_end (by simp)] at hob
    rw [pack,←hpad,←hob]
    simp
end
end Go.Proofs.YtldogccmhncnoaaGreat
