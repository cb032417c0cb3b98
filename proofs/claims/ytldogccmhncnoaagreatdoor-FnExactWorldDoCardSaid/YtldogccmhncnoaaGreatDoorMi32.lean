/- A part of the proof: contracts of functions, or plain facts on which these lean. -/
import Derived.Test.YtldogccmhncnoaaGreatDoorMi28
import Derived.Test.YtldogccmhncnoaaGreatDoorMi31
namespace Go.Proofs.YtldogccmhncnoaaGreatDoor
open Go
set_option linter.unusedVariables false
set_option linter.unusedSimpArgs false
set_option maxRecDepth 100000
set_option maxHeartbeats 16000000

section
open Go
theorem hDb:TypesOk Tryz.prog (bldOf (wrOf D [5]) [5,171,169]):=bldOk (wrOk hD _) _ (by
 intro t ht hk
 simp at ht
 rcases ht with rfl | rfl | rfl
 ·cases hk
 ·cases hk
 ·obtain ⟨j,hj⟩:∃j,Tryz.prog.info? 171=some j:=Option.isSome_iff_exists.1 (by kernel_rfl)
  exact ⟨171,j,by kernel_rfl,hj⟩)
def mB:Nat:=1000000 * (171+1)
def mR:Nat:=1000000 * (5+1)+1
@[push_cast] theorem mB_eq:mB=1000000 * (171+1):=rfl
@[push_cast] theorem mR_eq:mR=1000000 * (5+1)+1:=rfl
def Unm:Blk→Prop
 | .cells sz _=>sz < 1000000
 | _=>True
def UpdU (n:Nat) (S S':List Blk):Prop:=S.length≤S'.length∧∀(j:Nat) (B:Blk),S[j]?=some B→j < n∨Unm B→S'[j]?=some B
theorem UpdU.refl (n:Nat) (S:List Blk):UpdU n S S:=⟨Nat.le_refl _,fun _ _ h _=>h⟩
theorem UpdU.trans {n:Nat} {S S1 S2:List Blk} (h:UpdU n S S1) (k:UpdU n S1 S2):UpdU n S S2:=⟨Nat.le_trans h.1 k.1,fun j B a b=>k.2 j B (h.2 j B a b) b⟩
def BdAt (S:List Blk) (n b:Nat) (s:List UInt8):Prop :=
 n≤b∧∃addr buf,S[b]?=some (.cells mB [addr,buf])∧(addr=.nilp∨addr=.ptr b 0) ∧
  ((buf=.nils∧s=[])∨∃q,n≤q∧q≠b∧buf=.heap q s.length∧S[q]?=some (.cells mR (u8s s))∧s≠[])
theorem noEscape_ok (b:Nat) (S:List Blk):VCall Tryz.prog 188 [.ptr b 0] S fun r S'=>r=.ptr b 0∧S'=S:=by
 refine .inr ⟨_,⟨rfl,rfl⟩,fun G w cargs hall=>?_⟩
 obtain ⟨x,rfl⟩:∃x,cargs=#[x]:=by
  have:=hall.1
  obtain ⟨l⟩:=cargs
  match l,this with
  | [x],_=>exact ⟨x,rfl⟩
 have h1:=hall.2 0 _ _ rfl rfl
 refine ⟨x,?_,h1⟩
 rw [run_callFunc_extern (fn:=Tryz.f188) Tryz.func188 (by kernel_rfl) (by kernel_rfl) (by kernel_rfl) (e:=Extern.AbiNoEscape.same) (by kernel_rfl),Lib.run_noEscape]
 simp
theorem conv_to:ConvPtr Tryz.prog 169 210 171 2:=by
 intro w g arr fr hg hm
 obtain ⟨j,hj⟩:∃j,Tryz.prog.info? 171=some j:=Option.isSome_iff_exists.1 (by kernel_rfl)
 have hsz:((Tryz.prog.info? 171).map (·.size))=some 2:=by kernel_rfl
 rw [hj] at hsz
 exact Lib.run_to_unsafe (P:=Tryz.prog) w ⟨g,0,none⟩ (t:=171) (e:=171) (cells:=arr.size) (j:=j) (by kernel_rfl) (by kernel_rfl) hj (by simp at hsz; omega) (by simp [World.shape?,hg]) (by show 0 < arr.size; omega)
theorem conv_from:ConvPtr Tryz.prog 210 169 171 2:=by
 intro w g arr fr hg hm
 have hc:Tryz.prog.cellsOf 171=2:=by kernel_rfl
 obtain ⟨j,hj⟩:∃j,Tryz.prog.info? 171=some j:=Option.isSome_iff_exists.1 (by kernel_rfl)
 refine Lib.run_from_unsafe (P:=Tryz.prog) w ⟨g,0,none⟩ (u:=171) (e:=171) (cells:=arr.size) (j:=j) (by kernel_rfl) (by kernel_rfl) hj (by simp [World.shape?,hg]) ?_
 have hd:Tryz.prog.depth=(2 * (Tryz.prog.types.size+Made.depth)+1)+1:=rfl
 rw [hd]
 have h1:1≤arr.size / 2:=by omega
 simp only [liesAt,Bool.or_eq_true]
 left
 rw [hd]
 simp [rowAt,hc,h1,sameLayout]
theorem copyCheck_ok {b:Nat} {S:List Blk} {addr buf:V} (hb:S[b]?=some (.cells mB [addr,buf])) (ha:addr=.nilp∨addr=.ptr b 0) :
  VCall Tryz.prog 169 [.ptr b 0] S fun r S'=>S'=S.set b (.cells mB [.ptr b 0,buf]):=by
 have c1:=conv_to
 have c2:=conv_from
 refine VCall.en hDb Tryz.func169 Tryz.ntmps169 Tryz.results169 ?_
 rcases ha with rfl | rfl
 ·simp -implicitDefEqProofs (disch:=omega) only [push_cast,simprocAttr,hb,c1,↓gd]
  refine (noEscape_ok b S).to ?_
  simp -implicitDefEqProofs (disch:=omega) only [push_cast,simprocAttr,hb,c2,↓gd]
  exact ⟨_,_,Wk.refl _ _ _,rfl⟩
 ·simp -implicitDefEqProofs (disch:=omega) only [push_cast,simprocAttr,hb,↓gd]
  refine ⟨_,_,Wk.refl _ _ _,?_⟩
  apply List.ext_getElem?
  intro j
  rw [List.getElem?_set]
  by_cases e:b=j
  ·subst e
   rw [if_pos rfl,if_pos (lt_of_some hb),hb]
   rfl
  ·rw [if_neg e]
theorem u8s_erase (l:List UInt8):(u8s l).map eraseC=u8s l:=by
 simp only [u8s,List.map_map]
 apply List.map_congr_left
 intro x _
 rfl
theorem u8s_app (s l:List UInt8):u8s (s++l)=u8s s++u8s l:=by simp [u8s]
theorem u8s_b8 (s:List UInt8):(u8s s).all isB8=true:=by
 simp only [u8s,List.all_map,List.all_eq_true]
 intro x _
 have:=UInt8.toNat_lt x
 simp [isB8]
 omega
theorem UpdU.set {n:Nat} {S S':List Blk} (h:UpdU n S S') {j:Nat} (B:Blk) (hn:n≤j) (hj:∀B0,S[j]?=some B0→¬Unm B0):UpdU n S (S'.set j B):=by
 refine ⟨by simpa using h.1,fun i C hi hu=>?_⟩
 rw [List.getElem?_set]
 by_cases e:j=i
 ·subst e
  rcases hu with hu | hu
  ·omega
  ·exact absurd hu (hj C hi)
 ·rw [if_neg e]; exact h.2 i C hi hu
theorem UpdU.app {n:Nat} {S S':List Blk} (h:UpdU n S S') (X:List Blk):UpdU n S (S'++X) :=
 ⟨by have:=h.1; simp; omega,fun i C hi hu=>by rw [List.getElem?_append_left (lt_of_some (h.2 i C hi hu))]; exact h.2 i C hi hu⟩
theorem BdAt.lt {S:List Blk} {n b:Nat} {s:List UInt8} (h:BdAt S n b s):b < S.length:=by
 obtain ⟨_,_,_,h1,_⟩:=h
 exact lt_of_some h1
theorem WriteString_ok {S:List Blk} {n b:Nat} {s:List UInt8} (h:BdAt S n b s) (hn:n≤S.length) (l:List UInt8) (hs:s.length≤1100000) (hl:l.length≤1100000) :
  VCall Tryz.prog 154 [.ptr b 0,.str l] S fun r S'=>BdAt S' n b (s++l)∧UpdU n S S':=by
 obtain ⟨hnb,addr,buf,hb,ha,hbuf⟩:=h
 have hbl:=lt_of_some hb
 have hm:∀B0,S[b]?=some B0→¬Unm B0:=fun B0 q=>by rw [hb] at q; cases q; simp [Unm,mB]
 refine VCall.en hDb Tryz.func154 Tryz.ntmps154 Tryz.results154 ?_
 simp -implicitDefEqProofs (disch:=omega) only [push_cast,simprocAttr,↓gd]
 refine ((copyCheck_ok hb ha).as rfl).mono ?_
 rintro r S1 rfl
 have hu:u8s l=u8s l:=rfl
 have hul:=u8s_len l
 have hue:=u8s_erase l
 generalize hU:u8s l=U at hul hue
 rcases hbuf with ⟨rfl,rfl⟩ | ⟨q,hq1,hq2,rfl,hq3,hq4⟩
 ·simp -implicitDefEqProofs (disch:=omega) only [push_cast,simprocAttr,hU,hue,↓gd]
  refine ⟨fun h0=>?_,fun h0=>⟨by omega,?_⟩⟩
  ·subst h0
   exact ⟨_,_,Wk.refl _ _ _,⟨hnb,.ptr b 0,.nils,by rw [List.getElem?_set,if_pos rfl,if_pos hbl]; rfl,.inr rfl,.inl ⟨rfl,rfl⟩⟩,(UpdU.refl n S).set _ hnb hm⟩
  ·refine ⟨_,_,Wk.refl _ _ _,⟨hnb,.ptr b 0,.heap S.length l.length,?_,.inr rfl,.inr ⟨S.length,hn,by omega,rfl,?_,h0⟩⟩,((UpdU.refl n S).set _ hnb hm).app _⟩
   ·simp -implicitDefEqProofs (disch:=omega) only [push_cast,simprocAttr,↓gd]
   ·rw [hU]
    simp -implicitDefEqProofs (disch:=omega) only [push_cast,simprocAttr,↓gd]
 ·have hsl:=u8s_len s
  have hql:=lt_of_some hq3
  have hm2:∀B0,S[q]?=some B0→¬Unm B0:=fun B0 q=>by rw [hq3] at q; cases q; simp [Unm,mR]
  have hsa:=u8s_app s l
  generalize hV:u8s s=W at hsl hq3 hsa
  simp -implicitDefEqProofs (disch:=omega) only [push_cast,simprocAttr,hU,hue,hq3,↓gd]
  refine ⟨by omega,by omega,by omega,?_⟩
  refine ⟨_,_,Wk.refl _ _ _,⟨hnb,.ptr b 0,.heap S.length (s++l).length,?_,.inr rfl,.inr ⟨S.length,hn,by omega,rfl,?_,by simp [hq4]⟩⟩,(((UpdU.refl n S).set _ hnb hm).set _ hq1 hm2).app _⟩
  ·have hq2':b≠q:=Ne.symm hq2
   rw [List.length_append]
   simp -implicitDefEqProofs (disch:=omega) only [push_cast,simprocAttr,↓gd]
  ·rw [hsa,hU]
   simp -implicitDefEqProofs (disch:=omega) only [push_cast,simprocAttr,↓gd]
theorem row_ptr:RowPtr Tryz.prog 193 5:=⟨by kernel_rfl,by kernel_rfl⟩
theorem String_ok {S:List Blk} {n b:Nat} {s:List UInt8} (h:BdAt S n b s) (hs:s.length≤2000000) :
  VCall Tryz.prog 158 [.ptr b 0] S fun r S'=>r=.str s∧UpdU n S S':=by
 obtain ⟨hnb,addr,buf,hb,ha,hbuf⟩:=h
 have hbl:=lt_of_some hb
 have hrp:=row_ptr
 refine VCall.ex hDb (fun _=>false) (fun id=>if id=1 then [10,10,10,10,10,10,10,10,10,10,12,12] else []) Tryz.func158 Tryz.ntmps158 Tryz.results158 ?_
 rcases hbuf with ⟨rfl,rfl⟩ | ⟨q,hq1,hq2,rfl,hq3,hq4⟩
 ·simp -implicitDefEqProofs (disch:=omega) only [push_cast,simprocAttr,hb,↓gd]
  exact ⟨_,_,Wk.refl _ _ _,rfl,UpdU.refl _ _⟩
 ·have hsl:=u8s_len s
  have hql:=lt_of_some hq3
  have hpos:=List.length_pos_iff.2 hq4
  have hm2:∀B0,S[q]?=some B0→¬Unm B0:=fun B0 q=>by rw [hq3] at q; cases q; simp [Unm,mR]
  have hb8:=u8s_b8 s
  have hback:=u8s_back s
  generalize hV:u8s s=W at hsl hq3 hb8 hback
  have ht:W.take s.length=W:=List.take_of_length_le (by omega)
  simp -implicitDefEqProofs (disch:=omega) only [push_cast,simprocAttr,hb,hq3,hrp,ht,hb8,hback,↓gd]
  repeat refine And.intro (by omega) ?_
  exact ⟨_,_,Wk.refl _ _ _,rfl,(UpdU.refl n S).set _ hq1 hm2⟩
end
section
open Go
theorem min3' (x y z:Int):(if z < (if y < x then y else x) then z else (if y < x then y else x))=min x (min y z):=by omega
theorem say_frame {id:Int} {say:List UInt8} {sent q:Int} (h1:strmOk id=true) (h2:wordOk say=true) (h3:0≤sent) (hq:0 < q) (hq1:q≤say.length - sent):frameOk ⟨0,decide (sent+q=say.length),id,(say.drop sent.toNat).take q.toNat⟩=true:=by
 have hw:=(wordOk_iff.1 h2).2
 simp only [frameOk,true_or,if_true,h1,Bool.true_and,decide_eq_true_eq,List.length_take,List.length_drop]
 omega
theorem say_ok {N:Nat} {e:En} (hW:EnW N e) (hN:N≤1100000) {k:Nat} (hk:k < e.strs.length) (hop:(stAt e k).state=1) (hhd:(stAt e k).said=false) {S:List Blk} {p b c:Nat} (h:PtrAt S p b c e) :
  VCall Tryz.prog 157 [.ptr p 0,.ptr b (k * 12)] S fun r S'=>r=.str (sayE e k (stAt e k)).2∧PtrTo S p b c (sayE e k (stAt e k)).1 b c S':=by
 have he:=hW.b hN
 have hfl:=hW.flows
 have hsts:=hW.sts
 have hto:=hW.out
 obtain ⟨n1,n2,n3,n4,n5,n6⟩:=h.nes
 obtain ⟨ans,out,outM,inn,innM,came,strs,snd,rm,wait,bad⟩:=e
 simp only at hfl hsts hto hk
 have hv:S[p]?=some (.cells 0 (enC (.heap b strs.length) (.heap c wait.length) ⟨ans,out,outM,inn,innM,came,strs,snd,rm,wait,bad⟩)):=h.var
 have hb:S[b]?=some (.cells 12 (strsC strs)):=h.at_.1
 have hc:S[c]?=some (.cells 4 (frmsC wait)):=h.at_.2
 have hlen:=strsC_len strs
 have hso:=stsOk_at hsts hk
 have hsf:=stOk_flow hso
 obtain ⟨a1,a2,a3,a4,a5,a6,a7,a8⟩:=stOk_iff.1 hso
 simp only [stAt] at hop hhd ⊢
 have hself:∀s,strs.getD k st0=s→strs.set k s=strs:=fun s q=>by
  rw [←q]
  apply List.ext_getElem?
  intro i
  rw [List.getElem?_set]
  by_cases e1:k=i
  ·subst e1; rw [if_pos rfl,if_pos hk,List.getElem?_eq_getElem hk,getD_lt st0 hk]
  ·rw [if_neg e1]
 generalize hs:strs.getD k st0=s at hop hhd hso hsf a1 a2 a3 a4 a5 a6 a7 a8
 have hself:=hself s hs
 rw [←hself] at hb
 obtain ⟨sid,sst,shd,ssay,sbg,ssd,ssent,sgot,stx,shrd,ssnd,srm⟩:=s
 simp only at hop hhd hsf a1 a2 a3 a4 a5 a6 a7 a8
 subst hop hhd
 have hwl:=(wordOk_iff.1 a5).2
 have hid0:=(strmOk_iff.1 a1).1
 have hsa:0≤ssent:=a7.1
 have hput:=fun (s s':St) c (q12:c < 12) v (q:strC s'=(strC s).set c v)=>put2 (l:=strs) hk q12 q
 have hget:=fun (s:St) c (q12:c < 12)=>get2 (l:=strs) (s:=s) hk q12
 have hll:=fun s=>len2 strs k s
 have fin:∀(Z:List Blk) (X:List Blk) (out':List Fd) (snd':Int) (s':St) (o:List UInt8),sayE ⟨ans,out,outM,inn,innM,came,strs,snd,rm,wait,bad⟩ k ⟨sid,1,shd,ssay,sbg,false,ssent,sgot,stx,shrd,ssnd,srm⟩=(⟨ans,out',outM,inn,innM,came,strs.set k s',snd',rm,wait,bad⟩,o) →
   Z[p]?=some (.cells 0 (enC (.heap b strs.length) (.heap c wait.length) ⟨ans,out',outM,inn,innM,came,strs.set k s',snd',rm,wait,bad⟩))→Z[b]?=some (.cells 12 (strsC (strs.set k s')))→Z[c]?=some (.cells 4 (frmsC wait))→Upd [p,b,c] S Z →
   ∃r S2,Wk S (.str o) (Z++X) r S2∧r=.str (sayE ⟨ans,out,outM,inn,innM,came,strs,snd,rm,wait,bad⟩ k ⟨sid,1,shd,ssay,sbg,false,ssent,sgot,stx,shrd,ssnd,srm⟩).2 ∧
    PtrTo S p b c (sayE ⟨ans,out,outM,inn,innM,came,strs,snd,rm,wait,bad⟩ k ⟨sid,1,shd,ssay,sbg,false,ssent,sgot,stx,shrd,ssnd,srm⟩).1 b c S2:=by
  intro Z X out' snd' s' o hE h1 h2 h3 hu
  rw [hE]
  have t1:=lt_of_some h1
  have t2:=lt_of_some h2
  have t3:=lt_of_some h3
  exact ⟨_,_,Wk.refl _ _ _,rfl,PtrTo.mk' b c (by rw [List.getElem?_append_left t1]; simpa using h1) (by rw [List.getElem?_append_left t2]; exact h2) (by rw [List.getElem?_append_left t3]; exact h3) (.inl rfl) (.inl rfl) (hu.app _)⟩
 have fin0:=fun (Z:List Blk)=>fin Z []
 simp only [List.append_nil] at fin0
 generalize hq:min ((ssay.length:Int) - ssent) (min ssnd snd)=q
 have hq1:q≤ssay.length - ssent:=by omega
 have hq2:q≤ssnd:=by omega
 have hq3:q≤snd:=by omega
 have hsl:0 < q→List.drop ssent.toNat (List.take (ssent+q).toNat ssay)=(ssay.drop ssent.toNat).take q.toNat:=fun h0=>by
  rw [List.drop_take]
  congr 1
  omega
 have hsl2:((ssay.drop ssent.toNat).take q.toNat).length≤1000:=by simp; omega
 refine VCall.ex hDe (fun _=>false) (fun id=>if id=3 then [13,13,13,13,13,13,13,13,1000000,13,13,15,1000000,15,15,12] else if id=6 then [10,10,10,10,10,10,10,10,10,10,12,12] else if id=7 then [22,22,22,22,22,22,22,22,22,22,22,22,22,22,22,22,22,22,22,22,22,22] else if id=9 then [16,16,16,16,16,16,16,16,16,16,16,16,16,16,16,16] else if id=13 then [13,13,13,13,13,13,13,13,13,13,13,13,13,14] else if id=14 then [14,11,11,11,11,11,11,11,11,11,11,14,14,14] else []) Tryz.func157 Tryz.ntmps157 Tryz.results157 ?_
 cases sbg
 ·have g2:=hget ⟨sid,1,shd,ssay,false,false,ssent,sgot,stx,shrd,ssnd,srm⟩ 2 (by decide)
  have g4:=hget ⟨sid,1,shd,ssay,false,false,ssent,sgot,stx,shrd,ssnd,srm⟩ 4 (by decide)
  have p4:=hput ⟨sid,1,shd,ssay,false,false,ssent,sgot,stx,shrd,ssnd,srm⟩ ⟨sid,1,shd,ssay,true,false,ssent,sgot,stx,shrd,ssnd,srm⟩ 4 (by decide) (.bool true) rfl
  simp -implicitDefEqProofs (maxSteps:=1000000) (disch:=omega) only [push_cast,simprocAttr,hv,hb,g4,g2,↓gd]
  repeat refine And.intro (by omega) ?_
  refine ((write_ok out outM shd (headOk_parts a3).1 (tableOk_b hto) (table_len hto) (by have:=(headOk_parts a3).2; omega) (tableOk_parts hto).2.1 _).as rfl).to ?_
  have hbl2:(headW out outM shd).2.length≤1000:=by
   have:=headW_len shd out outM (headOk_parts a3).1 (by have:=(headOk_parts a3).2; have:=(tableOk_parts hto).1; omega)
   have:=(headOk_parts a3).2
   omega
  have hcf:∀(l:List Fd) (x:V),(∃a,a ∈ l∧V.agg [V.str a.name,V.str a.val,V.bool a.never]=x)→Cl S.length x:=by
   rintro l _ ⟨a,_,rfl⟩
   exact cl_fV _ a
  by_cases hsy:ssay=[]
  ·subst hsy
   have p5:=hput ⟨sid,1,shd,[],true,false,ssent,sgot,stx,shrd,ssnd,srm⟩ ⟨sid,1,shd,[],true,true,ssent,sgot,stx,shrd,ssnd,srm⟩ 5 (by decide) (.bool (decide True)) rfl
   have h3:=hget ⟨sid,1,shd,[],false,false,ssent,sgot,stx,shrd,ssnd,srm⟩ 3 (by decide)
   have q0:=hget ⟨sid,1,shd,[],true,true,ssent,sgot,stx,shrd,ssnd,srm⟩ 0 (by decide)
   rw [Nat.add_zero] at q0
   have q3:=hget ⟨sid,1,shd,[],true,true,ssent,sgot,stx,shrd,ssnd,srm⟩ 3 (by decide)
   have q5:=hget ⟨sid,1,shd,[],true,true,ssent,sgot,stx,shrd,ssnd,srm⟩ 5 (by decide)
   have q6:=hget ⟨sid,1,shd,[],true,true,ssent,sgot,stx,shrd,ssnd,srm⟩ 6 (by decide)
   have q10:=hget ⟨sid,1,shd,[],true,true,ssent,sgot,stx,shrd,ssnd,srm⟩ 10 (by decide)
   have r6:=hput ⟨sid,1,shd,[],true,true,ssent,sgot,stx,shrd,ssnd,srm⟩ ⟨sid,2,shd,[],true,true,ssent,sgot,stx,shrd,ssnd,srm⟩ 1 (by decide) (.int .i64 2) rfl
   simp -implicitDefEqProofs (maxSteps:=1000000) (disch:=omega) only [push_cast,simprocAttr,hv,hb,p4,h3,hll,p5,q0,q3,q5,q6,q10,↓gd]
   refine ⟨rfl,?_⟩
   repeat refine And.intro (by omega) ?_
   refine ((bytes_ok ⟨1,true,sid,(headW out outM shd).2⟩ (by simp) (by simp only; omega) (by simp only; omega) _).as rfl).to ?_
   cases ans
   ·simp -implicitDefEqProofs (maxSteps:=1000000) (disch:=omega) only [push_cast,simprocAttr,hv,hb,p4,h3,hll,p5,q0,q3,q5,q6,q10,min3',hq,frW_len,↓gd]
    repeat refine And.intro (by omega) ?_
    refine fin _ _ (headW out outM shd).1 snd ⟨sid,1,shd,[],true,true,ssent,sgot,stx,shrd,ssnd,srm⟩ _ (by simp [sayE,beginM,pieceM,setSt]) ?_ ?_ ?_ (by repeat (first | exact Upd.refl _ _ | refine Upd.set ?_ _ (.inr (by simp))))
    ·first | exact hv | simp -implicitDefEqProofs (maxSteps:=1000000) (disch:=omega) only [push_cast,simprocAttr,hv,↓gd]
    ·first | exact hb | simp -implicitDefEqProofs (maxSteps:=1000000) (disch:=omega) only [push_cast,simprocAttr,↓gd]
    ·first | exact hc | simp -implicitDefEqProofs (maxSteps:=1000000) (disch:=omega) only [push_cast,simprocAttr,hc,↓gd]
   ·simp -implicitDefEqProofs (maxSteps:=1000000) (disch:=omega) only [push_cast,simprocAttr,hv,hb,p4,h3,hll,p5,q0,q3,q5,q6,q10,min3',hq,r6,frW_len,↓gd]
    repeat refine And.intro (by omega) ?_
    refine fin _ _ (headW out outM shd).1 snd ⟨sid,2,shd,[],true,true,ssent,sgot,stx,shrd,ssnd,srm⟩ _ (by simp [sayE,beginM,pieceM,setSt]) ?_ ?_ ?_ (by repeat (first | exact Upd.refl _ _ | refine Upd.set ?_ _ (.inr (by simp))))
    ·first | exact hv | simp -implicitDefEqProofs (maxSteps:=1000000) (disch:=omega) only [push_cast,simprocAttr,hv,↓gd]
    ·first | exact hb | simp -implicitDefEqProofs (maxSteps:=1000000) (disch:=omega) only [push_cast,simprocAttr,↓gd]
    ·first | exact hc | simp -implicitDefEqProofs (maxSteps:=1000000) (disch:=omega) only [push_cast,simprocAttr,hc,↓gd]
  ·have p5:=hput ⟨sid,1,shd,ssay,true,false,ssent,sgot,stx,shrd,ssnd,srm⟩ ⟨sid,1,shd,ssay,true,false,ssent,sgot,stx,shrd,ssnd,srm⟩ 5 (by decide) (.bool (decide False)) rfl
   have h3:=hget ⟨sid,1,shd,ssay,false,false,ssent,sgot,stx,shrd,ssnd,srm⟩ 3 (by decide)
   have q0:=hget ⟨sid,1,shd,ssay,true,false,ssent,sgot,stx,shrd,ssnd,srm⟩ 0 (by decide)
   rw [Nat.add_zero] at q0
   have q3:=hget ⟨sid,1,shd,ssay,true,false,ssent,sgot,stx,shrd,ssnd,srm⟩ 3 (by decide)
   have q5:=hget ⟨sid,1,shd,ssay,true,false,ssent,sgot,stx,shrd,ssnd,srm⟩ 5 (by decide)
   have q6:=hget ⟨sid,1,shd,ssay,true,false,ssent,sgot,stx,shrd,ssnd,srm⟩ 6 (by decide)
   have q10:=hget ⟨sid,1,shd,ssay,true,false,ssent,sgot,stx,shrd,ssnd,srm⟩ 10 (by decide)
   simp -implicitDefEqProofs (maxSteps:=1000000) (disch:=omega) only [push_cast,simprocAttr,hv,hb,p4,h3,hsy,hll,p5,q0,q3,q5,q6,q10,↓gd]
   refine ⟨rfl,?_⟩
   repeat refine And.intro (by omega) ?_
   refine ((bytes_ok ⟨1,false,sid,(headW out outM shd).2⟩ (by simp) (by simp only; omega) (by simp only; omega) _).as rfl).to ?_
   have hfh:=frW_len ⟨1,false,sid,(headW out outM shd).2⟩
   simp only at hfh
   by_cases hq0:0 < q
   ·have hq0':q > 0:=hq0
    have r3:=hput ⟨sid,1,shd,ssay,true,false,ssent,sgot,stx,shrd,ssnd,srm⟩ ⟨sid,1,shd,ssay,true,false,ssent,sgot,stx,shrd,ssnd - q,srm⟩ 10 (by decide) (.int .i64 (ssnd - q)) rfl
    have r4:=hput ⟨sid,1,shd,ssay,true,false,ssent,sgot,stx,shrd,ssnd - q,srm⟩ ⟨sid,1,shd,ssay,true,false,ssent+q,sgot,stx,shrd,ssnd - q,srm⟩ 6 (by decide) (.int .i64 (ssent+q)) rfl
    have r5:=hput ⟨sid,1,shd,ssay,true,false,ssent+q,sgot,stx,shrd,ssnd - q,srm⟩ ⟨sid,1,shd,ssay,true,decide (ssent+q=ssay.length),ssent+q,sgot,stx,shrd,ssnd - q,srm⟩ 5 (by decide) (.bool (decide (ssent+q=ssay.length))) rfl
    have r6:=hput ⟨sid,1,shd,ssay,true,decide (ssent+q=ssay.length),ssent+q,sgot,stx,shrd,ssnd - q,srm⟩ ⟨sid,2,shd,ssay,true,decide (ssent+q=ssay.length),ssent+q,sgot,stx,shrd,ssnd - q,srm⟩ 1 (by decide) (.int .i64 2) rfl
    have u6:=hget ⟨sid,1,shd,ssay,true,false,ssent,sgot,stx,shrd,ssnd - q,srm⟩ 6 (by decide)
    have v3:=hget ⟨sid,1,shd,ssay,true,false,ssent+q,sgot,stx,shrd,ssnd - q,srm⟩ 3 (by decide)
    have v6:=hget ⟨sid,1,shd,ssay,true,false,ssent+q,sgot,stx,shrd,ssnd - q,srm⟩ 6 (by decide)
    have w0:=hget ⟨sid,1,shd,ssay,true,decide (ssent+q=ssay.length),ssent+q,sgot,stx,shrd,ssnd - q,srm⟩ 0 (by decide)
    rw [Nat.add_zero] at w0
    have w5:=hget ⟨sid,1,shd,ssay,true,decide (ssent+q=ssay.length),ssent+q,sgot,stx,shrd,ssnd - q,srm⟩ 5 (by decide)
    simp -implicitDefEqProofs (maxSteps:=1000000) (disch:=omega) only [push_cast,simprocAttr,hv,hb,p4,h3,hsy,hll,p5,q0,q3,q5,q6,q10,min3',hq,hq0',hsl hq0,r3,r4,r5,u6,v3,v6,w0,w5,↓gd]
    repeat refine And.intro (by omega) ?_
    have hfok:frameOk ⟨0,decide (ssent+q=ssay.length),sid,(ssay.drop ssent.toNat).take q.toNat⟩=true:=say_frame a1 a5 hsa (by omega) (by omega)
    refine ((FrameWrite_ok ⟨0,decide (ssent+q=ssay.length),sid,(ssay.drop ssent.toNat).take q.toNat⟩ _).as rfl).to ?_
    rw [if_pos hfok]
    have hfd:=frW_len ⟨0,decide (ssent+q=ssay.length),sid,(ssay.drop ssent.toNat).take q.toNat⟩
    simp only at hfd
    cases ans
    ·simp -implicitDefEqProofs (maxSteps:=1000000) (disch:=omega) only [push_cast,simprocAttr,hv,hb,p4,h3,hsy,hll,p5,q0,q3,q5,q6,q10,min3',hq,hq0',hsl hq0,r3,r4,r5,u6,v3,v6,w0,w5,frW_len,↓gd]
     repeat refine And.intro (by omega) ?_
     refine fin _ _ (headW out outM shd).1 (snd - q) ⟨sid,1,shd,ssay,true,decide (ssent+q=ssay.length),ssent+q,sgot,stx,shrd,ssnd - q,srm⟩ _ (by simp [sayE,beginM,pieceM,setSt,hsy,mayM,hq,hq0]) ?_ ?_ ?_ (by repeat (first | exact Upd.refl _ _ | refine Upd.set ?_ _ (.inr (by simp))))
     ·first | exact hv | simp -implicitDefEqProofs (maxSteps:=1000000) (disch:=omega) only [push_cast,simprocAttr,hv,↓gd]
     ·first | exact hb | simp -implicitDefEqProofs (maxSteps:=1000000) (disch:=omega) only [push_cast,simprocAttr,↓gd]
     ·first | exact hc | simp -implicitDefEqProofs (maxSteps:=1000000) (disch:=omega) only [push_cast,simprocAttr,hc,↓gd]
    ·by_cases he0:ssent+q=ssay.length
     ·simp only [he0,decide_true] at r5 r6 w0 w5 ⊢
      simp -implicitDefEqProofs (maxSteps:=1000000) (disch:=omega) only [push_cast,simprocAttr,hv,hb,p4,h3,hsy,hll,p5,q0,q3,q5,q6,q10,min3',hq,hq0',hsl hq0,r3,r4,r5,u6,v3,v6,w0,w5,he0,r6,frW_len,↓gd]
      repeat refine And.intro (by omega) ?_
      refine fin _ _ (headW out outM shd).1 (snd - q) ⟨sid,2,shd,ssay,true,true,ssay.length,sgot,stx,shrd,ssnd - q,srm⟩ _ (by simp [sayE,beginM,pieceM,setSt,hsy,mayM,hq,hq0,he0]) ?_ ?_ ?_ (by repeat (first | exact Upd.refl _ _ | refine Upd.set ?_ _ (.inr (by simp))))
      ·first | exact hv | simp -implicitDefEqProofs (maxSteps:=1000000) (disch:=omega) only [push_cast,simprocAttr,hv,↓gd]
      ·first | exact hb | simp -implicitDefEqProofs (maxSteps:=1000000) (disch:=omega) only [push_cast,simprocAttr,↓gd]
      ·first | exact hc | simp -implicitDefEqProofs (maxSteps:=1000000) (disch:=omega) only [push_cast,simprocAttr,hc,↓gd]
     ·simp only [he0,decide_false] at r5 w0 w5 ⊢
      simp -implicitDefEqProofs (maxSteps:=1000000) (disch:=omega) only [push_cast,simprocAttr,hv,hb,p4,h3,hsy,hll,p5,q0,q3,q5,q6,q10,min3',hq,hq0',hsl hq0,r3,r4,r5,u6,v3,v6,w0,w5,he0,frW_len,↓gd]
      repeat refine And.intro (by omega) ?_
      refine fin _ _ (headW out outM shd).1 (snd - q) ⟨sid,1,shd,ssay,true,false,ssent+q,sgot,stx,shrd,ssnd - q,srm⟩ _ (by simp [sayE,beginM,pieceM,setSt,hsy,mayM,hq,hq0,he0]) ?_ ?_ ?_ (by repeat (first | exact Upd.refl _ _ | refine Upd.set ?_ _ (.inr (by simp))))
      ·first | exact hv | simp -implicitDefEqProofs (maxSteps:=1000000) (disch:=omega) only [push_cast,simprocAttr,hv,↓gd]
      ·first | exact hb | simp -implicitDefEqProofs (maxSteps:=1000000) (disch:=omega) only [push_cast,simprocAttr,↓gd]
      ·first | exact hc | simp -implicitDefEqProofs (maxSteps:=1000000) (disch:=omega) only [push_cast,simprocAttr,hc,↓gd]
   ·have hq0':¬q > 0:=hq0
    cases ans
    ·simp -implicitDefEqProofs (maxSteps:=1000000) (disch:=omega) only [push_cast,simprocAttr,hv,hb,p4,h3,hsy,hll,p5,q0,q3,q5,q6,q10,min3',hq,hq0',↓gd]
     repeat refine And.intro (by omega) ?_
     refine fin _ _ (headW out outM shd).1 snd ⟨sid,1,shd,ssay,true,false,ssent,sgot,stx,shrd,ssnd,srm⟩ _ (by simp [sayE,beginM,pieceM,setSt,hsy,mayM,hq,hq0]) ?_ ?_ ?_ (by repeat (first | exact Upd.refl _ _ | refine Upd.set ?_ _ (.inr (by simp))))
     ·first | exact hv | simp -implicitDefEqProofs (maxSteps:=1000000) (disch:=omega) only [push_cast,simprocAttr,hv,↓gd]
     ·first | exact hb | simp -implicitDefEqProofs (maxSteps:=1000000) (disch:=omega) only [push_cast,simprocAttr,↓gd]
     ·first | exact hc | simp -implicitDefEqProofs (maxSteps:=1000000) (disch:=omega) only [push_cast,simprocAttr,hc,↓gd]
    ·simp -implicitDefEqProofs (maxSteps:=1000000) (disch:=omega) only [push_cast,simprocAttr,hv,hb,p4,h3,hsy,hll,p5,q0,q3,q5,q6,q10,min3',hq,hq0',↓gd]
     repeat refine And.intro (by omega) ?_
     refine fin _ _ (headW out outM shd).1 snd ⟨sid,1,shd,ssay,true,false,ssent,sgot,stx,shrd,ssnd,srm⟩ _ (by simp [sayE,beginM,pieceM,setSt,hsy,mayM,hq,hq0]) ?_ ?_ ?_ (by repeat (first | exact Upd.refl _ _ | refine Upd.set ?_ _ (.inr (by simp))))
     ·first | exact hv | simp -implicitDefEqProofs (maxSteps:=1000000) (disch:=omega) only [push_cast,simprocAttr,hv,↓gd]
     ·first | exact hb | simp -implicitDefEqProofs (maxSteps:=1000000) (disch:=omega) only [push_cast,simprocAttr,↓gd]
     ·first | exact hc | simp -implicitDefEqProofs (maxSteps:=1000000) (disch:=omega) only [push_cast,simprocAttr,hc,↓gd]
 ·have g4:=hget ⟨sid,1,shd,ssay,true,false,ssent,sgot,stx,shrd,ssnd,srm⟩ 4 (by decide)
  have q0:=hget ⟨sid,1,shd,ssay,true,false,ssent,sgot,stx,shrd,ssnd,srm⟩ 0 (by decide)
  rw [Nat.add_zero] at q0
  have q3:=hget ⟨sid,1,shd,ssay,true,false,ssent,sgot,stx,shrd,ssnd,srm⟩ 3 (by decide)
  have q5:=hget ⟨sid,1,shd,ssay,true,false,ssent,sgot,stx,shrd,ssnd,srm⟩ 5 (by decide)
  have q6:=hget ⟨sid,1,shd,ssay,true,false,ssent,sgot,stx,shrd,ssnd,srm⟩ 6 (by decide)
  have q10:=hget ⟨sid,1,shd,ssay,true,false,ssent,sgot,stx,shrd,ssnd,srm⟩ 10 (by decide)
  by_cases hq0:0 < q
  ·have hq0':q > 0:=hq0
   have r3:=hput ⟨sid,1,shd,ssay,true,false,ssent,sgot,stx,shrd,ssnd,srm⟩ ⟨sid,1,shd,ssay,true,false,ssent,sgot,stx,shrd,ssnd - q,srm⟩ 10 (by decide) (.int .i64 (ssnd - q)) rfl
   have r4:=hput ⟨sid,1,shd,ssay,true,false,ssent,sgot,stx,shrd,ssnd - q,srm⟩ ⟨sid,1,shd,ssay,true,false,ssent+q,sgot,stx,shrd,ssnd - q,srm⟩ 6 (by decide) (.int .i64 (ssent+q)) rfl
   have r5:=hput ⟨sid,1,shd,ssay,true,false,ssent+q,sgot,stx,shrd,ssnd - q,srm⟩ ⟨sid,1,shd,ssay,true,decide (ssent+q=ssay.length),ssent+q,sgot,stx,shrd,ssnd - q,srm⟩ 5 (by decide) (.bool (decide (ssent+q=ssay.length))) rfl
   have r6:=hput ⟨sid,1,shd,ssay,true,decide (ssent+q=ssay.length),ssent+q,sgot,stx,shrd,ssnd - q,srm⟩ ⟨sid,2,shd,ssay,true,decide (ssent+q=ssay.length),ssent+q,sgot,stx,shrd,ssnd - q,srm⟩ 1 (by decide) (.int .i64 2) rfl
   have u6:=hget ⟨sid,1,shd,ssay,true,false,ssent,sgot,stx,shrd,ssnd - q,srm⟩ 6 (by decide)
   have v3:=hget ⟨sid,1,shd,ssay,true,false,ssent+q,sgot,stx,shrd,ssnd - q,srm⟩ 3 (by decide)
   have v6:=hget ⟨sid,1,shd,ssay,true,false,ssent+q,sgot,stx,shrd,ssnd - q,srm⟩ 6 (by decide)
   have w0:=hget ⟨sid,1,shd,ssay,true,decide (ssent+q=ssay.length),ssent+q,sgot,stx,shrd,ssnd - q,srm⟩ 0 (by decide)
   rw [Nat.add_zero] at w0
   have w5:=hget ⟨sid,1,shd,ssay,true,decide (ssent+q=ssay.length),ssent+q,sgot,stx,shrd,ssnd - q,srm⟩ 5 (by decide)
   simp -implicitDefEqProofs (maxSteps:=1000000) (disch:=omega) only [push_cast,simprocAttr,hv,hb,g4,hll,q0,q3,q5,q6,q10,min3',hq,hq0',hsl hq0,r3,r4,r5,u6,v3,v6,w0,w5,↓gd]
   repeat refine And.intro (by omega) ?_
   have hfok:frameOk ⟨0,decide (ssent+q=ssay.length),sid,(ssay.drop ssent.toNat).take q.toNat⟩=true:=say_frame a1 a5 hsa (by omega) (by omega)
   refine ((FrameWrite_ok ⟨0,decide (ssent+q=ssay.length),sid,(ssay.drop ssent.toNat).take q.toNat⟩ _).as rfl).to ?_
   rw [if_pos hfok]
   have hfd:=frW_len ⟨0,decide (ssent+q=ssay.length),sid,(ssay.drop ssent.toNat).take q.toNat⟩
   simp only at hfd
   cases ans
   ·simp -implicitDefEqProofs (maxSteps:=1000000) (disch:=omega) only [push_cast,simprocAttr,hv,hb,g4,hll,q0,q3,q5,q6,q10,min3',hq,hq0',hsl hq0,r3,r4,r5,u6,v3,v6,w0,w5,frW_len,↓gd]
    repeat refine And.intro (by omega) ?_
    refine fin0 _ out (snd - q) ⟨sid,1,shd,ssay,true,decide (ssent+q=ssay.length),ssent+q,sgot,stx,shrd,ssnd - q,srm⟩ _ (by simp [sayE,beginM,pieceM,setSt,mayM,hq,hq0]) ?_ ?_ ?_ (by repeat (first | exact Upd.refl _ _ | refine Upd.set ?_ _ (.inr (by simp))))
    ·first | exact hv | simp -implicitDefEqProofs (maxSteps:=1000000) (disch:=omega) only [push_cast,simprocAttr,hv,↓gd]
    ·first | exact hb | simp -implicitDefEqProofs (maxSteps:=1000000) (disch:=omega) only [push_cast,simprocAttr,↓gd]
    ·first | exact hc | simp -implicitDefEqProofs (maxSteps:=1000000) (disch:=omega) only [push_cast,simprocAttr,hc,↓gd]
   ·by_cases he0:ssent+q=ssay.length
    ·simp only [he0,decide_true] at r5 r6 w0 w5 ⊢
     simp -implicitDefEqProofs (maxSteps:=1000000) (disch:=omega) only [push_cast,simprocAttr,hv,hb,g4,hll,q0,q3,q5,q6,q10,min3',hq,hq0',hsl hq0,r3,r4,r5,u6,v3,v6,w0,w5,he0,r6,frW_len,↓gd]
     repeat refine And.intro (by omega) ?_
     refine fin0 _ out (snd - q) ⟨sid,2,shd,ssay,true,true,ssay.length,sgot,stx,shrd,ssnd - q,srm⟩ _ (by simp [sayE,beginM,pieceM,setSt,mayM,hq,hq0,he0]) ?_ ?_ ?_ (by repeat (first | exact Upd.refl _ _ | refine Upd.set ?_ _ (.inr (by simp))))
     ·first | exact hv | simp -implicitDefEqProofs (maxSteps:=1000000) (disch:=omega) only [push_cast,simprocAttr,hv,↓gd]
     ·first | exact hb | simp -implicitDefEqProofs (maxSteps:=1000000) (disch:=omega) only [push_cast,simprocAttr,↓gd]
     ·first | exact hc | simp -implicitDefEqProofs (maxSteps:=1000000) (disch:=omega) only [push_cast,simprocAttr,hc,↓gd]
    ·simp only [he0,decide_false] at r5 w0 w5 ⊢
     simp -implicitDefEqProofs (maxSteps:=1000000) (disch:=omega) only [push_cast,simprocAttr,hv,hb,g4,hll,q0,q3,q5,q6,q10,min3',hq,hq0',hsl hq0,r3,r4,r5,u6,v3,v6,w0,w5,he0,frW_len,↓gd]
     repeat refine And.intro (by omega) ?_
     refine fin0 _ out (snd - q) ⟨sid,1,shd,ssay,true,false,ssent+q,sgot,stx,shrd,ssnd - q,srm⟩ _ (by simp [sayE,beginM,pieceM,setSt,mayM,hq,hq0,he0]) ?_ ?_ ?_ (by repeat (first | exact Upd.refl _ _ | refine Upd.set ?_ _ (.inr (by simp))))
     ·first | exact hv | simp -implicitDefEqProofs (maxSteps:=1000000) (disch:=omega) only [push_cast,simprocAttr,hv,↓gd]
     ·first | exact hb | simp -implicitDefEqProofs (maxSteps:=1000000) (disch:=omega) only [push_cast,simprocAttr,↓gd]
     ·first | exact hc | simp -implicitDefEqProofs (maxSteps:=1000000) (disch:=omega) only [push_cast,simprocAttr,hc,↓gd]
  ·have hq0':¬q > 0:=hq0
   cases ans
   ·simp -implicitDefEqProofs (maxSteps:=1000000) (disch:=omega) only [push_cast,simprocAttr,hv,hb,g4,hll,q0,q3,q5,q6,q10,min3',hq,hq0',↓gd]
    repeat refine And.intro (by omega) ?_
    refine fin0 _ out snd ⟨sid,1,shd,ssay,true,false,ssent,sgot,stx,shrd,ssnd,srm⟩ _ (by simp [sayE,beginM,pieceM,setSt,mayM,hq,hq0]) ?_ ?_ ?_ (by repeat (first | exact Upd.refl _ _ | refine Upd.set ?_ _ (.inr (by simp))))
    ·first | exact hv | simp -implicitDefEqProofs (maxSteps:=1000000) (disch:=omega) only [push_cast,simprocAttr,hv,↓gd]
    ·first | exact hb | simp -implicitDefEqProofs (maxSteps:=1000000) (disch:=omega) only [push_cast,simprocAttr,↓gd]
    ·first | exact hc | simp -implicitDefEqProofs (maxSteps:=1000000) (disch:=omega) only [push_cast,simprocAttr,hc,↓gd]
   ·simp -implicitDefEqProofs (maxSteps:=1000000) (disch:=omega) only [push_cast,simprocAttr,hv,hb,g4,hll,q0,q3,q5,q6,q10,min3',hq,hq0',↓gd]
    repeat refine And.intro (by omega) ?_
    refine fin0 _ out snd ⟨sid,1,shd,ssay,true,false,ssent,sgot,stx,shrd,ssnd,srm⟩ _ (by simp [sayE,beginM,pieceM,setSt,mayM,hq,hq0]) ?_ ?_ ?_ (by repeat (first | exact Upd.refl _ _ | refine Upd.set ?_ _ (.inr (by simp))))
    ·first | exact hv | simp -implicitDefEqProofs (maxSteps:=1000000) (disch:=omega) only [push_cast,simprocAttr,hv,↓gd]
    ·first | exact hb | simp -implicitDefEqProofs (maxSteps:=1000000) (disch:=omega) only [push_cast,simprocAttr,↓gd]
    ·first | exact hc | simp -implicitDefEqProofs (maxSteps:=1000000) (disch:=omega) only [push_cast,simprocAttr,hc,↓gd]
end
end Go.Proofs.YtldogccmhncnoaaGreatDoor
