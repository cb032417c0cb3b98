/- A part of the proof: contracts of functions, or plain facts on which these lean. -/
import Derived.Test.YtdplmibomopkcaaGreatOa26
namespace Go.Proofs.YtdplmibomopkcaaGreat
open Go
set_option linter.unusedVariables false
set_option linter.unusedSimpArgs false
set_option maxRecDepth 100000
set_option maxHeartbeats 16000000

section
open Go
theorem EndLeave_ok {e:En} (he:EnB e) (id:Int) {S:List Blk} {b c:Nat} (h:EnAt S b c e):VCall Tryz.prog 14 [eV b c e,.int .i64 id] S fun r S' =>
  ∃v,r=.tup [v,.bool (endLeaveM e id).2]∧RNew S (endLeaveM e id).1 v S':=by
 have hok:=fun X=>EndOk_ok he (h.app X)
 have hcp:=fun X=>eclone_ok he (h.app X)
 refine VCall.en hDe Tryz.func14 Tryz.ntmps14 Tryz.results14 ?_
 simp -implicitDefEqProofs (disch:=omega) only [push_cast,simprocAttr,↓gd]
 refine ((hok _).as (by simp [eV,enV,enC])).to ?_
 cases hE:endOk e
 ·rw [endLeaveM,if_pos hE]
  simp -implicitDefEqProofs (disch:=omega) only [push_cast,simprocAttr,↓gd]
  exact RNew.zeroT (by simp [Plain])
 have hW:=endOk_w hE
 have hWl:=leaveM_w hW id
 rw [endLeaveM,if_neg (by rw [hE]; simp)]
 simp -implicitDefEqProofs (disch:=omega) only [push_cast,simprocAttr,↓gd]
 refine ((hcp _).as (by simp [eV,enV,enC])).mono ?_
 rintro r S1 ⟨b',c',rfl,hn⟩
 have k0:S1[S.length]?=some (.cells 0 (enC (.heap b e.strs.length) (.heap c e.wait.length) e)):=hn.upd.get (by simp -implicitDefEqProofs (disch:=omega) only [push_cast,simprocAttr,↓gd]) (by simp)
 have k1:S1[S.length+1]?=some (.cells 0 zE):=hn.upd.get (by simp -implicitDefEqProofs (disch:=omega) only [push_cast,simprocAttr,↓gd]) (by simp)
 have l0:=lt_of_some k0
 have l1:=lt_of_some k1
 have hx:=hn.app
 have hb1:=hn.hb; have hc1:=hn.hc
 simp at hb1 hc1
 have done:∀X,∃r S2,Wk S (.tup [eV b' c' e,.bool false]) (S1.set (S.length+1) (.cells 0 (enC (.heap b' e.strs.length) (.heap c' e.wait.length) e))++X) r S2∧∃v,r=.tup [v,.bool false]∧RNew S e v S2:=fun X =>
  ⟨_,_,Wk.refl _ _ _,_,rfl,b',c',rfl,(hx.set _ (by omega) (by omega) (by omega)).appR _⟩
 simp -implicitDefEqProofs (disch:=omega) only [push_cast,simprocAttr,↓gd]
 refine ((stream_ok he (p:=S1.length) (b:=b') (c:=c') ⟨?_,hn.at_.app _⟩ id).as rfl).to ?_
 ·simp -implicitDefEqProofs (disch:=omega) only [push_cast,simprocAttr,↓gd]
 have hb2:=hn.at_.1
 have hc2:=hn.at_.2
 have lb:=lt_of_some hb2
 have lc:=lt_of_some hc2
 have hbc:=hn.at_.ne
 have hlen:=strsC_len e.strs
 have hlw:=frmsC_len e.wait
 have hwn:e.wait.length≤1000000:=he.wait
 have hel:e.strs.length≤1000000:=he.len
 have fin:∀(E2:En) (c2:Nat) (ZZ:List Blk),leaveM e id=(E2,true)→EnW (60+1) E2→EnAt ZZ b' c2 E2→S1.length≤ZZ.length→(∀j,j < S1.length→j≠b'→j≠c'→ZZ[j]?=S1[j]?) →
   VCall Tryz.prog 23 [eV b' c2 E2] ZZ fun r S3=>∃b3 c3,r=eV b3 c3 E2∧EnNew S E2 b3 c3 S3∧S3[S.length+1]?=some (.cells 0 zE)∧b3≠S.length+1∧c3≠S.length+1∧S.length+1 < S3.length:=by
  intro E2 c2 ZZ hl hW2 hat hTl hTs
  refine (eclone_ok (hW2.b (by decide)) hat).mono ?_
  rintro r S3 ⟨b3,c3,rfl,q3⟩
  have hT:∀j,j < S1.length→j≠b'→j≠c'→S3[j]?=S1[j]?:=fun j hj h1 h2=>by rw [q3.upd.2 j (by omega) (by simp)]; exact hTs j hj h1 h2
  have hz:S3[S.length+1]?=some (.cells 0 zE):=by rw [hT _ l1 (by omega) (by omega)]; exact k1
  have lz:=lt_of_some hz
  have e1:=q3.hb; have e2:=q3.hc
  have hu3:Upd [] S S3:=⟨by have:=q3.upd.1; omega,fun j hj _=>by rw [hT j (by omega) (by omega) (by omega)]; exact hx.upd.2 j hj (by simp)⟩
  have q4:EnNew S E2 b3 c3 S3:=⟨q3.at_,by omega,by omega,hu3⟩
  have v1:=cells_ne q3.at_.1 hz (by decide)
  have v2:=cells_ne q3.at_.2 hz (by decide)
  exact ⟨b3,c3,rfl,q4,hz,v1,v2,lz⟩
 rcases Bool.eq_false_or_eq_true e.ans with ha | ha
 ·have hm:leaveM e id=(e,false):=by
   rw [leaveM]; split
   ·rfl
   ·rw [if_pos (.inl ha)]
  rw [hm]
  simp -implicitDefEqProofs (disch:=omega) only [push_cast,simprocAttr,k0,k1,ha,↓gd]
  simpa [eV,enV,enC,ha] using done _
 cases hat:atM e.strs id with
 | none =>
  have hap:atP e.strs b' id=.nilp:=by rw [atP,hat]
  have hm:leaveM e id=(e,false):=by rw [leaveM]; simp only [hat]
  rw [hm]
  simp -implicitDefEqProofs (disch:=omega) only [push_cast,simprocAttr,k0,k1,ha,hap,↓gd]
  simpa [eV,enV,enC,ha] using done _
 | some k =>
  obtain ⟨hk,hid⟩:=atM_some hat
  have hap:atP e.strs b' id=.ptr b' (k * 12):=by rw [atP,hat]
  have hst:=strsC_get hk (c:=1) (by decide)
  have hbg:=strsC_get hk (c:=4) (by decide)
  have hput:∀s',strC s'=(strC (e.strs.getD k st0)).set 1 (.int .i64 3)→splice (strsC e.strs) (k * 12+1) [.int .i64 3]=strsC (e.strs.set k s'):=fun s'=>strsC_put hk (by decide)
  have hm:leaveM e id=if (e.strs.getD k st0).state≠1 then (e,false) else
    ({ e with strs:=e.strs.set k { e.strs.getD k st0 with state:=3 },wait:=if (e.strs.getD k st0).begun then e.wait++[⟨3,false,id,[]⟩] else e.wait },true):=by
   rw [leaveM]; simp only [hat,stAt,setSt,ha,Bool.false_eq_true,false_or]; rfl
  generalize e.strs.getD k st0=s at hst hbg hput hm
  obtain ⟨sid,sst,shd,ssay,sbg,ssd,ssent,sgot,stx,shrd,ssnd,srm⟩:=s
  have hput:=hput ⟨sid,3,shd,ssay,sbg,ssd,ssent,sgot,stx,shrd,ssnd,srm⟩ rfl
  have g4:=get2 (l:=e.strs) (s:=⟨sid,3,shd,ssay,sbg,ssd,ssent,sgot,stx,shrd,ssnd,srm⟩) hk (c:=4) (by decide)
  by_cases hs1:sst=1
  ·rw [if_neg (by simp [hs1])] at hm
   rw [hm] at hWl
   cases sbg
   ·simp only [Bool.false_eq_true,if_false] at hm hWl
    generalize hE2:({ e with strs:=e.strs.set k ⟨sid,3,shd,ssay,false,ssd,ssent,sgot,stx,shrd,ssnd,srm⟩ }:En)=E2 at hm hWl
    rw [hm]
    simp -implicitDefEqProofs (disch:=omega) only [push_cast,simprocAttr,k0,k1,ha,hap,hb2,hst,hs1,g4,hput,↓gd]
    repeat refine And.intro (by omega) ?_
    refine ((fin E2 c' _ hm hWl ⟨?_,?_⟩ ?_ ?_).as (by rw [←hE2]; simp [eV,enV,enC,ha])).mono ?_
    ·rw [←hE2]
     simp -implicitDefEqProofs (disch:=omega) only [push_cast,simprocAttr,↓gd]
    ·rw [←hE2]
     simp -implicitDefEqProofs (disch:=omega) only [push_cast,simprocAttr,hc2,↓gd]
    ·simp
    ·intro j hj h1 h2
     rw [List.getElem?_append_left (by simpa using hj),get_set_ne (Ne.symm h1)]
    rintro r S3 ⟨b3,c3,rfl,q4,hz,v1,v2,lz⟩
    simp -implicitDefEqProofs (disch:=omega) only [push_cast,simprocAttr,hz,↓gd]
    exact ⟨_,_,Wk.refl _ _ _,_,rfl,b3,c3,rfl,q4.set (j:=S.length+1) _ (by omega) v1 v2⟩
   ·simp only [if_true] at hm hWl
    generalize hE2:({ e with strs:=e.strs.set k ⟨sid,3,shd,ssay,true,ssd,ssent,sgot,stx,shrd,ssnd,srm⟩,wait:=e.wait++[⟨3,false,id,[]⟩] }:En)=E2 at hm hWl
    rw [hm]
    simp -implicitDefEqProofs (disch:=omega) only [push_cast,simprocAttr,k0,k1,ha,hap,hb2,hc2,hst,hs1,g4,hput,↓gd]
    repeat refine And.intro (by omega) ?_
    refine ((fin E2 (S1.length+2) _ hm hWl ⟨?_,?_⟩ ?_ ?_).as (by rw [←hE2]; simp [eV,enV,enC,ha])).mono ?_
    ·rw [←hE2]
     simp -implicitDefEqProofs (disch:=omega) only [push_cast,simprocAttr,↓gd]
    ·rw [←hE2]
     simp -implicitDefEqProofs (disch:=omega) only [push_cast,simprocAttr,↓gd]
     rw [frmsC_app,frmsC_one]; rfl
    ·simp
    ·intro j hj h1 h2
     rw [List.getElem?_append_left (by simpa using hj),get_set_ne (Ne.symm h2),get_set_ne (Ne.symm h1)]
    rintro r S3 ⟨b3,c3,rfl,q4,hz,v1,v2,lz⟩
    simp -implicitDefEqProofs (disch:=omega) only [push_cast,simprocAttr,hz,↓gd]
    exact ⟨_,_,Wk.refl _ _ _,_,rfl,b3,c3,rfl,q4.set (j:=S.length+1) _ (by omega) v1 v2⟩
  ·rw [if_pos hs1] at hm
   rw [hm]
   simp -implicitDefEqProofs (disch:=omega) only [push_cast,simprocAttr,k0,k1,ha,hap,hb2,hst,hs1,↓gd]
   repeat refine And.intro (by omega) ?_
   simpa [eV,enV,enC,ha] using done _
end
section
open Go
theorem hDb:TypesOk Tryz.prog (bldOf (wrOf D [5]) [5,58,56]):=bldOk (wrOk hD _) _ (by
 intro t ht hk
 simp at ht
 rcases ht with rfl | rfl | rfl
 ·cases hk
 ·cases hk
 ·obtain ⟨j,hj⟩:∃j,Tryz.prog.info? 58=some j:=Option.isSome_iff_exists.1 (by kernel_rfl)
  exact ⟨58,j,by kernel_rfl,hj⟩)
def mB:Nat:=1000000 * (58+1)
def mR:Nat:=1000000 * (5+1)+1
@[push_cast] theorem mB_eq:mB=1000000 * (58+1):=rfl
@[push_cast] theorem mR_eq:mR=1000000 * (5+1)+1:=rfl
def Unm:Blk→Prop
 | .cells sz _=>sz < 1000000
 | _=>True
def UpdU (n:Nat) (S S':List Blk):Prop:=S.length≤S'.length∧∀(j:Nat) (B:Blk),S[j]?=some B→j < n∨Unm B→S'[j]?=some B
theorem UpdU.refl (n:Nat) (S:List Blk):UpdU n S S:=⟨Nat.le_refl _,fun _ _ h _=>h⟩
def BdAt (S:List Blk) (n b:Nat) (s:List UInt8):Prop :=
 n≤b∧∃addr buf,S[b]?=some (.cells mB [addr,buf])∧(addr=.nilp∨addr=.ptr b 0) ∧
  ((buf=.nils∧s=[])∨∃q,n≤q∧q≠b∧buf=.heap q s.length∧S[q]?=some (.cells mR (u8s s))∧s≠[])
theorem noEscape_ok (b:Nat) (S:List Blk):VCall Tryz.prog 79 [.ptr b 0] S fun r S'=>r=.ptr b 0∧S'=S:=by
 refine .inr ⟨_,⟨rfl,rfl⟩,fun G w cargs hall=>?_⟩
 obtain ⟨x,rfl⟩:∃x,cargs=#[x]:=by
  have:=hall.1
  obtain ⟨l⟩:=cargs
  match l,this with
  | [x],_=>exact ⟨x,rfl⟩
 have h1:=hall.2 0 _ _ rfl rfl
 refine ⟨x,?_,h1⟩
 rw [run_callFunc_extern (fn:=Tryz.f79) Tryz.func79 (by kernel_rfl) (by kernel_rfl) (by kernel_rfl) (e:=Extern.AbiNoEscape.same) (by kernel_rfl),Lib.run_noEscape]
 simp
theorem conv_to:ConvPtr Tryz.prog 56 111 58 2:=by
 intro w g arr fr hg hm
 obtain ⟨j,hj⟩:∃j,Tryz.prog.info? 58=some j:=Option.isSome_iff_exists.1 (by kernel_rfl)
 have hsz:((Tryz.prog.info? 58).map (·.size))=some 2:=by kernel_rfl
 rw [hj] at hsz
 exact Lib.run_to_unsafe (P:=Tryz.prog) w ⟨g,0,none⟩ (t:=58) (e:=58) (cells:=arr.size) (j:=j) (by kernel_rfl) (by kernel_rfl) hj (by simp at hsz; omega) (by simp [World.shape?,hg]) (by show 0 < arr.size; omega)
theorem conv_from:ConvPtr Tryz.prog 111 56 58 2:=by
 intro w g arr fr hg hm
 have hc:Tryz.prog.cellsOf 58=2:=by kernel_rfl
 obtain ⟨j,hj⟩:∃j,Tryz.prog.info? 58=some j:=Option.isSome_iff_exists.1 (by kernel_rfl)
 refine Lib.run_from_unsafe (P:=Tryz.prog) w ⟨g,0,none⟩ (u:=58) (e:=58) (cells:=arr.size) (j:=j) (by kernel_rfl) (by kernel_rfl) hj (by simp [World.shape?,hg]) ?_
 have hd:Tryz.prog.depth=(2 * (Tryz.prog.types.size+Made.depth)+1)+1:=rfl
 rw [hd]
 have h1:1≤arr.size / 2:=by omega
 simp only [liesAt,Bool.or_eq_true]
 left
 rw [hd]
 simp [rowAt,hc,h1,sameLayout]
theorem copyCheck_ok {b:Nat} {S:List Blk} {addr buf:V} (hb:S[b]?=some (.cells mB [addr,buf])) (ha:addr=.nilp∨addr=.ptr b 0) :
  VCall Tryz.prog 53 [.ptr b 0] S fun r S'=>S'=S.set b (.cells mB [.ptr b 0,buf]):=by
 have c1:=conv_to
 have c2:=conv_from
 refine VCall.en hDb Tryz.func53 Tryz.ntmps53 Tryz.results53 ?_
 rcases ha with rfl | rfl
 ·simp -implicitDefEqProofs (disch:=omega) only [push_cast,simprocAttr,hb,c1,↓gd]
  refine (noEscape_ok b S).to ?_
  simp -implicitDefEqProofs (disch:=omega) only [push_cast,simprocAttr,hb,c2,↓gd]
  exact ⟨_,_,Wk.refl _ _ _,rfl⟩
 ·simp -implicitDefEqProofs (disch:=omega) only [push_cast,simprocAttr,hb,↓gd]
  refine ⟨_,_,Wk.refl _ _ _,?_⟩
  apply List.ext_getElem?
  intro j
  rw [List.getElem?_set]
  by_cases e:b=j
  ·subst e
   rw [if_pos rfl,if_pos (lt_of_some hb),hb]
   rfl
  ·rw [if_neg e]
theorem u8s_erase (l:List UInt8):(u8s l).map eraseC=u8s l:=by
 simp only [u8s,List.map_map]
 apply List.map_congr_left
 intro x _
 rfl
theorem u8s_app (s l:List UInt8):u8s (s++l)=u8s s++u8s l:=by simp [u8s]
theorem u8s_b8 (s:List UInt8):(u8s s).all isB8=true:=by
 simp only [u8s,List.all_map,List.all_eq_true]
 intro x _
 have:=UInt8.toNat_lt x
 simp [isB8]
 omega
theorem UpdU.set {n:Nat} {S S':List Blk} (h:UpdU n S S') {j:Nat} (B:Blk) (hn:n≤j) (hj:∀B0,S[j]?=some B0→¬Unm B0):UpdU n S (S'.set j B):=by
 refine ⟨by simpa using h.1,fun i C hi hu=>?_⟩
 rw [List.getElem?_set]
 by_cases e:j=i
 ·subst e
  rcases hu with hu | hu
  ·omega
  ·exact absurd hu (hj C hi)
 ·rw [if_neg e]; exact h.2 i C hi hu
theorem UpdU.app {n:Nat} {S S':List Blk} (h:UpdU n S S') (X:List Blk):UpdU n S (S'++X) :=
 ⟨by have:=h.1; simp; omega,fun i C hi hu=>by rw [List.getElem?_append_left (lt_of_some (h.2 i C hi hu))]; exact h.2 i C hi hu⟩
theorem BdAt.lt {S:List Blk} {n b:Nat} {s:List UInt8} (h:BdAt S n b s):b < S.length:=by
 obtain ⟨_,_,_,h1,_⟩:=h
 exact lt_of_some h1
theorem WriteString_ok {S:List Blk} {n b:Nat} {s:List UInt8} (h:BdAt S n b s) (hn:n≤S.length) (l:List UInt8) (hs:s.length≤1000000) (hl:l.length≤1000000) :
  VCall Tryz.prog 24 [.ptr b 0,.str l] S fun r S'=>BdAt S' n b (s++l)∧UpdU n S S':=by
 obtain ⟨hnb,addr,buf,hb,ha,hbuf⟩:=h
 have hbl:=lt_of_some hb
 have hm:∀B0,S[b]?=some B0→¬Unm B0:=fun B0 q=>by rw [hb] at q; cases q; simp [Unm,mB]
 refine VCall.en hDb Tryz.func24 Tryz.ntmps24 Tryz.results24 ?_
 simp -implicitDefEqProofs (disch:=omega) only [push_cast,simprocAttr,↓gd]
 refine ((copyCheck_ok hb ha).as rfl).mono ?_
 rintro r S1 rfl
 have hu:u8s l=u8s l:=rfl
 have hul:=u8s_len l
 have hue:=u8s_erase l
 generalize hU:u8s l=U at hul hue
 rcases hbuf with ⟨rfl,rfl⟩ | ⟨q,hq1,hq2,rfl,hq3,hq4⟩
 ·simp -implicitDefEqProofs (disch:=omega) only [push_cast,simprocAttr,hU,hue,↓gd]
  refine ⟨fun h0=>?_,fun h0=>⟨by omega,?_⟩⟩
  ·subst h0
   exact ⟨_,_,Wk.refl _ _ _,⟨hnb,.ptr b 0,.nils,by rw [List.getElem?_set,if_pos rfl,if_pos hbl]; rfl,.inr rfl,.inl ⟨rfl,rfl⟩⟩,(UpdU.refl n S).set _ hnb hm⟩
  ·refine ⟨_,_,Wk.refl _ _ _,⟨hnb,.ptr b 0,.heap S.length l.length,?_,.inr rfl,.inr ⟨S.length,hn,by omega,rfl,?_,h0⟩⟩,((UpdU.refl n S).set _ hnb hm).app _⟩
   ·simp -implicitDefEqProofs (disch:=omega) only [push_cast,simprocAttr,↓gd]
   ·rw [hU]
    simp -implicitDefEqProofs (disch:=omega) only [push_cast,simprocAttr,↓gd]
 ·have hsl:=u8s_len s
  have hql:=lt_of_some hq3
  have hm2:∀B0,S[q]?=some B0→¬Unm B0:=fun B0 q=>by rw [hq3] at q; cases q; simp [Unm,mR]
  have hsa:=u8s_app s l
  generalize hV:u8s s=W at hsl hq3 hsa
  simp -implicitDefEqProofs (disch:=omega) only [push_cast,simprocAttr,hU,hue,hq3,↓gd]
  refine ⟨by omega,by omega,by omega,?_⟩
  refine ⟨_,_,Wk.refl _ _ _,⟨hnb,.ptr b 0,.heap S.length (s++l).length,?_,.inr rfl,.inr ⟨S.length,hn,by omega,rfl,?_,by simp [hq4]⟩⟩,(((UpdU.refl n S).set _ hnb hm).set _ hq1 hm2).app _⟩
  ·have hq2':b≠q:=Ne.symm hq2
   rw [List.length_append]
   simp -implicitDefEqProofs (disch:=omega) only [push_cast,simprocAttr,↓gd]
  ·rw [hsa,hU]
   simp -implicitDefEqProofs (disch:=omega) only [push_cast,simprocAttr,↓gd]
theorem row_ptr:RowPtr Tryz.prog 91 5:=⟨by kernel_rfl,by kernel_rfl⟩
theorem String_ok {S:List Blk} {n b:Nat} {s:List UInt8} (h:BdAt S n b s) (hs:s.length≤2000000) :
  VCall Tryz.prog 28 [.ptr b 0] S fun r S'=>r=.str s∧UpdU n S S':=by
 obtain ⟨hnb,addr,buf,hb,ha,hbuf⟩:=h
 have hbl:=lt_of_some hb
 have hrp:=row_ptr
 refine VCall.ex hDb (fun _=>false) (fun id=>if id=1 then [10,10,10,10,10,10,10,10,10,10,12,12] else []) Tryz.func28 Tryz.ntmps28 Tryz.results28 ?_
 rcases hbuf with ⟨rfl,rfl⟩ | ⟨q,hq1,hq2,rfl,hq3,hq4⟩
 ·simp -implicitDefEqProofs (disch:=omega) only [push_cast,simprocAttr,hb,↓gd]
  exact ⟨_,_,Wk.refl _ _ _,rfl,UpdU.refl _ _⟩
 ·have hsl:=u8s_len s
  have hql:=lt_of_some hq3
  have hpos:=List.length_pos_iff.2 hq4
  have hm2:∀B0,S[q]?=some B0→¬Unm B0:=fun B0 q=>by rw [hq3] at q; cases q; simp [Unm,mR]
  have hb8:=u8s_b8 s
  have hback:=u8s_back s
  generalize hV:u8s s=W at hsl hq3 hb8 hback
  have ht:W.take s.length=W:=List.take_of_length_le (by omega)
  simp -implicitDefEqProofs (disch:=omega) only [push_cast,simprocAttr,hb,hq3,hrp,ht,hb8,hback,↓gd]
  repeat refine And.intro (by omega) ?_
  exact ⟨_,_,Wk.refl _ _ _,rfl,(UpdU.refl n S).set _ hq1 hm2⟩
end
section
open Go
theorem min3' (x y z:Int):(if z < (if y < x then y else x) then z else (if y < x then y else x))=min x (min y z):=by omega
theorem say_frame {id:Int} {say:List UInt8} {sent q:Int} (h1:strmOk id=true) (h2:wordOk say=true) (h3:0≤sent) (hq:0 < q) (hq1:q≤say.length - sent):frameOk ⟨0,decide (sent+q=say.length),id,(say.drop sent.toNat).take q.toNat⟩=true:=by
 have hw:=(wordOk_iff.1 h2).2
 simp only [frameOk,true_or,if_true,h1,Bool.true_and,decide_eq_true_eq,List.length_take,List.length_drop]
 omega
theorem say_ok {N:Nat} {e:En} (hW:EnW N e) (hN:N≤1000000) {k:Nat} (hk:k < e.strs.length) (hop:(stAt e k).state=1) (hhd:(stAt e k).said=false) {S:List Blk} {p b c:Nat} (h:PtrAt S p b c e) :
  VCall Tryz.prog 27 [.ptr p 0,.ptr b (k * 12)] S fun r S'=>r=.str (sayE e k (stAt e k)).2∧PtrTo S p b c (sayE e k (stAt e k)).1 b c S':=by
 have he:=hW.b hN
 have hfl:=hW.flows
 have hsts:=hW.sts
 have hto:=hW.out
 obtain ⟨n1,n2,n3,n4,n5,n6⟩:=h.nes
 obtain ⟨ans,out,outM,inn,innM,came,strs,snd,rm,wait,bad⟩:=e
 simp only at hfl hsts hto hk
 have hv:S[p]?=some (.cells 0 (enC (.heap b strs.length) (.heap c wait.length) ⟨ans,out,outM,inn,innM,came,strs,snd,rm,wait,bad⟩)):=h.var
 have hb:S[b]?=some (.cells 12 (strsC strs)):=h.at_.1
 have hc:S[c]?=some (.cells 4 (frmsC wait)):=h.at_.2
 have hlen:=strsC_len strs
 have hso:=stsOk_at hsts hk
 have hsf:=stOk_flow hso
 obtain ⟨a1,a2,a3,a4,a5,a6,a7,a8⟩:=stOk_iff.1 hso
 simp only [stAt] at hop hhd ⊢
 have hself:∀s,strs.getD k st0=s→strs.set k s=strs:=fun s q=>by
  rw [←q]
  apply List.ext_getElem?
  intro i
  rw [List.getElem?_set]
  by_cases e1:k=i
  ·subst e1; rw [if_pos rfl,if_pos hk,List.getElem?_eq_getElem hk,getD_lt st0 hk]
  ·rw [if_neg e1]
 generalize hs:strs.getD k st0=s at hop hhd hso hsf a1 a2 a3 a4 a5 a6 a7 a8
 have hself:=hself s hs
 rw [←hself] at hb
 obtain ⟨sid,sst,shd,ssay,sbg,ssd,ssent,sgot,stx,shrd,ssnd,srm⟩:=s
 simp only at hop hhd hsf a1 a2 a3 a4 a5 a6 a7 a8
 subst hop hhd
 have hwl:=(wordOk_iff.1 a5).2
 have hid0:=(strmOk_iff.1 a1).1
 have hsa:0≤ssent:=a7.1
 have hput:=fun (s s':St) c (q12:c < 12) v (q:strC s'=(strC s).set c v)=>put2 (l:=strs) hk q12 q
 have hget:=fun (s:St) c (q12:c < 12)=>get2 (l:=strs) (s:=s) hk q12
 have hll:=fun s=>len2 strs k s
 have fin:∀(Z:List Blk) (X:List Blk) (out':List Fd) (snd':Int) (s':St) (o:List UInt8),sayE ⟨ans,out,outM,inn,innM,came,strs,snd,rm,wait,bad⟩ k ⟨sid,1,shd,ssay,sbg,false,ssent,sgot,stx,shrd,ssnd,srm⟩=(⟨ans,out',outM,inn,innM,came,strs.set k s',snd',rm,wait,bad⟩,o) →
   Z[p]?=some (.cells 0 (enC (.heap b strs.length) (.heap c wait.length) ⟨ans,out',outM,inn,innM,came,strs.set k s',snd',rm,wait,bad⟩))→Z[b]?=some (.cells 12 (strsC (strs.set k s')))→Z[c]?=some (.cells 4 (frmsC wait))→Upd [p,b,c] S Z →
   ∃r S2,Wk S (.str o) (Z++X) r S2∧r=.str (sayE ⟨ans,out,outM,inn,innM,came,strs,snd,rm,wait,bad⟩ k ⟨sid,1,shd,ssay,sbg,false,ssent,sgot,stx,shrd,ssnd,srm⟩).2 ∧
    PtrTo S p b c (sayE ⟨ans,out,outM,inn,innM,came,strs,snd,rm,wait,bad⟩ k ⟨sid,1,shd,ssay,sbg,false,ssent,sgot,stx,shrd,ssnd,srm⟩).1 b c S2:=by
  intro Z X out' snd' s' o hE h1 h2 h3 hu
  rw [hE]
  have t1:=lt_of_some h1
  have t2:=lt_of_some h2
  have t3:=lt_of_some h3
  exact ⟨_,_,Wk.refl _ _ _,rfl,PtrTo.mk' b c (by rw [List.getElem?_append_left t1]; simpa using h1) (by rw [List.getElem?_append_left t2]; exact h2) (by rw [List.getElem?_append_left t3]; exact h3) (.inl rfl) (.inl rfl) (hu.app _)⟩
 have fin0:=fun (Z:List Blk)=>fin Z []
 simp only [List.append_nil] at fin0
 generalize hq:min ((ssay.length:Int) - ssent) (min ssnd snd)=q
 have hq1:q≤ssay.length - ssent:=by omega
 have hq2:q≤ssnd:=by omega
 have hq3:q≤snd:=by omega
 have hsl:0 < q→List.drop ssent.toNat (List.take (ssent+q).toNat ssay)=(ssay.drop ssent.toNat).take q.toNat:=fun h0=>by
  rw [List.drop_take]
  congr 1
  omega
 have hsl2:((ssay.drop ssent.toNat).take q.toNat).length≤1000:=by simp; omega
 refine VCall.ex hDe (fun _=>false) (fun id=>if id=3 then [13,13,13,13,13,13,13,13,1000000,13,13,15,1000000,15,15,12] else if id=6 then [10,10,10,10,10,10,10,10,10,10,12,12] else if id=7 then [22,22,22,22,22,22,22,22,22,22,22,22,22,22,22,22,22,22,22,22,22,22] else if id=9 then [16,16,16,16,16,16,16,16,16,16,16,16,16,16,16,16] else if id=13 then [13,13,13,13,13,13,13,13,13,13,13,13,13,14] else if id=14 then [14,11,11,11,11,11,11,11,11,11,11,14,14,14] else []) Tryz.func27 Tryz.ntmps27 Tryz.results27 ?_
 cases sbg
 ·have g2:=hget ⟨sid,1,shd,ssay,false,false,ssent,sgot,stx,shrd,ssnd,srm⟩ 2 (by decide)
  have g4:=hget ⟨sid,1,shd,ssay,false,false,ssent,sgot,stx,shrd,ssnd,srm⟩ 4 (by decide)
  have p4:=hput ⟨sid,1,shd,ssay,false,false,ssent,sgot,stx,shrd,ssnd,srm⟩ ⟨sid,1,shd,ssay,true,false,ssent,sgot,stx,shrd,ssnd,srm⟩ 4 (by decide) (.bool true) rfl
  simp -implicitDefEqProofs (maxSteps:=1000000) (disch:=omega) only [push_cast,simprocAttr,hv,hb,g4,g2,↓gd]
  repeat refine And.intro (by omega) ?_
  refine ((write_ok out outM shd (headOk_parts a3).1 (tableOk_b hto) (table_len hto) (by have:=(headOk_parts a3).2; omega) (tableOk_parts hto).2.1 _).as rfl).to ?_
  have hbl2:(headW out outM shd).2.length≤1000:=by
   have:=headW_len shd out outM (headOk_parts a3).1 (by have:=(headOk_parts a3).2; have:=(tableOk_parts hto).1; omega)
   have:=(headOk_parts a3).2
   omega
  have hcf:∀(l:List Fd) (x:V),(∃a,a ∈ l∧V.agg [V.str a.name,V.str a.val,V.bool a.never]=x)→Cl S.length x:=by
   rintro l _ ⟨a,_,rfl⟩
   exact cl_fV _ a
  by_cases hsy:ssay=[]
  ·subst hsy
   have p5:=hput ⟨sid,1,shd,[],true,false,ssent,sgot,stx,shrd,ssnd,srm⟩ ⟨sid,1,shd,[],true,true,ssent,sgot,stx,shrd,ssnd,srm⟩ 5 (by decide) (.bool (decide True)) rfl
   have h3:=hget ⟨sid,1,shd,[],false,false,ssent,sgot,stx,shrd,ssnd,srm⟩ 3 (by decide)
   have q0:=hget ⟨sid,1,shd,[],true,true,ssent,sgot,stx,shrd,ssnd,srm⟩ 0 (by decide)
   rw [Nat.add_zero] at q0
   have q3:=hget ⟨sid,1,shd,[],true,true,ssent,sgot,stx,shrd,ssnd,srm⟩ 3 (by decide)
   have q5:=hget ⟨sid,1,shd,[],true,true,ssent,sgot,stx,shrd,ssnd,srm⟩ 5 (by decide)
   have q6:=hget ⟨sid,1,shd,[],true,true,ssent,sgot,stx,shrd,ssnd,srm⟩ 6 (by decide)
   have q10:=hget ⟨sid,1,shd,[],true,true,ssent,sgot,stx,shrd,ssnd,srm⟩ 10 (by decide)
   have r6:=hput ⟨sid,1,shd,[],true,true,ssent,sgot,stx,shrd,ssnd,srm⟩ ⟨sid,2,shd,[],true,true,ssent,sgot,stx,shrd,ssnd,srm⟩ 1 (by decide) (.int .i64 2) rfl
   simp -implicitDefEqProofs (maxSteps:=1000000) (disch:=omega) only [push_cast,simprocAttr,hv,hb,p4,h3,hll,p5,q0,q3,q5,q6,q10,↓gd]
   refine ⟨rfl,?_⟩
   repeat refine And.intro (by omega) ?_
   refine ((bytes_ok ⟨1,true,sid,(headW out outM shd).2⟩ (by simp) (by simp only; omega) (by simp only; omega) _).as rfl).to ?_
   cases ans
   ·simp -implicitDefEqProofs (maxSteps:=1000000) (disch:=omega) only [push_cast,simprocAttr,hv,hb,p4,h3,hll,p5,q0,q3,q5,q6,q10,min3',hq,frW_len,↓gd]
    repeat refine And.intro (by omega) ?_
    refine fin _ _ (headW out outM shd).1 snd ⟨sid,1,shd,[],true,true,ssent,sgot,stx,shrd,ssnd,srm⟩ _ (by simp [sayE,beginM,pieceM,setSt]) ?_ ?_ ?_ (by repeat (first | exact Upd.refl _ _ | refine Upd.set ?_ _ (.inr (by simp))))
    ·first | exact hv | simp -implicitDefEqProofs (maxSteps:=1000000) (disch:=omega) only [push_cast,simprocAttr,hv,↓gd]
    ·first | exact hb | simp -implicitDefEqProofs (maxSteps:=1000000) (disch:=omega) only [push_cast,simprocAttr,↓gd]
    ·first | exact hc | simp -implicitDefEqProofs (maxSteps:=1000000) (disch:=omega) only [push_cast,simprocAttr,hc,↓gd]
   ·simp -implicitDefEqProofs (maxSteps:=1000000) (disch:=omega) only [push_cast,simprocAttr,hv,hb,p4,h3,hll,p5,q0,q3,q5,q6,q10,min3',hq,r6,frW_len,↓gd]
    repeat refine And.intro (by omega) ?_
    refine fin _ _ (headW out outM shd).1 snd ⟨sid,2,shd,[],true,true,ssent,sgot,stx,shrd,ssnd,srm⟩ _ (by simp [sayE,beginM,pieceM,setSt]) ?_ ?_ ?_ (by repeat (first | exact Upd.refl _ _ | refine Upd.set ?_ _ (.inr (by simp))))
    ·first | exact hv | simp -implicitDefEqProofs (maxSteps:=1000000) (disch:=omega) only [push_cast,simprocAttr,hv,↓gd]
    ·first | exact hb | simp -implicitDefEqProofs (maxSteps:=1000000) (disch:=omega) only [push_cast,simprocAttr,↓gd]
    ·first | exact hc | simp -implicitDefEqProofs (maxSteps:=1000000) (disch:=omega) only [push_cast,simprocAttr,hc,↓gd]
  ·have p5:=hput ⟨sid,1,shd,ssay,true,false,ssent,sgot,stx,shrd,ssnd,srm⟩ ⟨sid,1,shd,ssay,true,false,ssent,sgot,stx,shrd,ssnd,srm⟩ 5 (by decide) (.bool (decide False)) rfl
   have h3:=hget ⟨sid,1,shd,ssay,false,false,ssent,sgot,stx,shrd,ssnd,srm⟩ 3 (by decide)
   have q0:=hget ⟨sid,1,shd,ssay,true,false,ssent,sgot,stx,shrd,ssnd,srm⟩ 0 (by decide)
   rw [Nat.add_zero] at q0
   have q3:=hget ⟨sid,1,shd,ssay,true,false,ssent,sgot,stx,shrd,ssnd,srm⟩ 3 (by decide)
   have q5:=hget ⟨sid,1,shd,ssay,true,false,ssent,sgot,stx,shrd,ssnd,srm⟩ 5 (by decide)
   have q6:=hget ⟨sid,1,shd,ssay,true,false,ssent,sgot,stx,shrd,ssnd,srm⟩ 6 (by decide)
   have q10:=hget ⟨sid,1,shd,ssay,true,false,ssent,sgot,stx,shrd,ssnd,srm⟩ 10 (by decide)
   simp -implicitDefEqProofs (maxSteps:=1000000) (disch:=omega) only [push_cast,simprocAttr,hv,hb,p4,h3,hsy,hll,p5,q0,q3,q5,q6,q10,↓gd]
   refine ⟨rfl,?_⟩
   repeat refine And.intro (by omega) ?_
   refine ((bytes_ok ⟨1,false,sid,(headW out outM shd).2⟩ (by simp) (by simp only; omega) (by simp only; omega) _).as rfl).to ?_
   have hfh:=frW_len ⟨1,false,sid,(headW out outM shd).2⟩
   simp only at hfh
   by_cases hq0:0 < q
   ·have hq0':q > 0:=hq0
    have r3:=hput ⟨sid,1,shd,ssay,true,false,ssent,sgot,stx,shrd,ssnd,srm⟩ ⟨sid,1,shd,ssay,true,false,ssent,sgot,stx,shrd,ssnd - q,srm⟩ 10 (by decide) (.int .i64 (ssnd - q)) rfl
    have r4:=hput ⟨sid,1,shd,ssay,true,false,ssent,sgot,stx,shrd,ssnd - q,srm⟩ ⟨sid,1,shd,ssay,true,false,ssent+q,sgot,stx,shrd,ssnd - q,srm⟩ 6 (by decide) (.int .i64 (ssent+q)) rfl
    have r5:=hput ⟨sid,1,shd,ssay,true,false,ssent+q,sgot,stx,shrd,ssnd - q,srm⟩ ⟨sid,1,shd,ssay,true,decide (ssent+q=ssay.length),ssent+q,sgot,stx,shrd,ssnd - q,srm⟩ 5 (by decide) (.bool (decide (ssent+q=ssay.length))) rfl
    have r6:=hput ⟨sid,1,shd,ssay,true,decide (ssent+q=ssay.length),ssent+q,sgot,stx,shrd,ssnd - q,srm⟩ ⟨sid,2,shd,ssay,true,decide (ssent+q=ssay.length),ssent+q,sgot,stx,shrd,ssnd - q,srm⟩ 1 (by decide) (.int .i64 2) rfl
    have u6:=hget ⟨sid,1,shd,ssay,true,false,ssent,sgot,stx,shrd,ssnd - q,srm⟩ 6 (by decide)
    have v3:=hget ⟨sid,1,shd,ssay,true,false,ssent+q,sgot,stx,shrd,ssnd - q,srm⟩ 3 (by decide)
    have v6:=hget ⟨sid,1,shd,ssay,true,false,ssent+q,sgot,stx,shrd,ssnd - q,srm⟩ 6 (by decide)
    have w0:=hget ⟨sid,1,shd,ssay,true,decide (ssent+q=ssay.length),ssent+q,sgot,stx,shrd,ssnd - q,srm⟩ 0 (by decide)
    rw [Nat.add_zero] at w0
    have w5:=hget ⟨sid,1,shd,ssay,true,decide (ssent+q=ssay.length),ssent+q,sgot,stx,shrd,ssnd - q,srm⟩ 5 (by decide)
    simp -implicitDefEqProofs (maxSteps:=1000000) (disch:=omega) only [push_cast,simprocAttr,hv,hb,p4,h3,hsy,hll,p5,q0,q3,q5,q6,q10,min3',hq,hq0',hsl hq0,r3,r4,r5,u6,v3,v6,w0,w5,↓gd]
    repeat refine And.intro (by omega) ?_
    have hfok:frameOk ⟨0,decide (ssent+q=ssay.length),sid,(ssay.drop ssent.toNat).take q.toNat⟩=true:=say_frame a1 a5 hsa (by omega) (by omega)
    refine ((FrameWrite_ok ⟨0,decide (ssent+q=ssay.length),sid,(ssay.drop ssent.toNat).take q.toNat⟩ _).as rfl).to ?_
    rw [if_pos hfok]
    have hfd:=frW_len ⟨0,decide (ssent+q=ssay.length),sid,(ssay.drop ssent.toNat).take q.toNat⟩
    simp only at hfd
    cases ans
    ·simp -implicitDefEqProofs (maxSteps:=1000000) (disch:=omega) only [push_cast,simprocAttr,hv,hb,p4,h3,hsy,hll,p5,q0,q3,q5,q6,q10,min3',hq,hq0',hsl hq0,r3,r4,r5,u6,v3,v6,w0,w5,frW_len,↓gd]
     repeat refine And.intro (by omega) ?_
     refine fin _ _ (headW out outM shd).1 (snd - q) ⟨sid,1,shd,ssay,true,decide (ssent+q=ssay.length),ssent+q,sgot,stx,shrd,ssnd - q,srm⟩ _ (by simp [sayE,beginM,pieceM,setSt,hsy,mayM,hq,hq0]) ?_ ?_ ?_ (by repeat (first | exact Upd.refl _ _ | refine Upd.set ?_ _ (.inr (by simp))))
     ·first | exact hv | simp -implicitDefEqProofs (maxSteps:=1000000) (disch:=omega) only [push_cast,simprocAttr,hv,↓gd]
     ·first | exact hb | simp -implicitDefEqProofs (maxSteps:=1000000) (disch:=omega) only [push_cast,simprocAttr,↓gd]
     ·first | exact hc | simp -implicitDefEqProofs (maxSteps:=1000000) (disch:=omega) only [push_cast,simprocAttr,hc,↓gd]
    ·by_cases he0:ssent+q=ssay.length
     ·simp only [he0,decide_true] at r5 r6 w0 w5 ⊢
      simp -implicitDefEqProofs (maxSteps:=1000000) (disch:=omega) only [push_cast,simprocAttr,hv,hb,p4,h3,hsy,hll,p5,q0,q3,q5,q6,q10,min3',hq,hq0',hsl hq0,r3,r4,r5,u6,v3,v6,w0,w5,he0,r6,frW_len,↓gd]
      repeat refine And.intro (by omega) ?_
      refine fin _ _ (headW out outM shd).1 (snd - q) ⟨sid,2,shd,ssay,true,true,ssay.length,sgot,stx,shrd,ssnd - q,srm⟩ _ (by simp [sayE,beginM,pieceM,setSt,hsy,mayM,hq,hq0,he0]) ?_ ?_ ?_ (by repeat (first | exact Upd.refl _ _ | refine Upd.set ?_ _ (.inr (by simp))))
      ·first | exact hv | simp -implicitDefEqProofs (maxSteps:=1000000) (disch:=omega) only [push_cast,simprocAttr,hv,↓gd]
      ·first | exact hb | simp -implicitDefEqProofs (maxSteps:=1000000) (disch:=omega) only [push_cast,simprocAttr,↓gd]
      ·first | exact hc | simp -implicitDefEqProofs (maxSteps:=1000000) (disch:=omega) only [push_cast,simprocAttr,hc,↓gd]
     ·simp only [he0,decide_false] at r5 w0 w5 ⊢
      simp -implicitDefEqProofs (maxSteps:=1000000) (disch:=omega) only [push_cast,simprocAttr,hv,hb,p4,h3,hsy,hll,p5,q0,q3,q5,q6,q10,min3',hq,hq0',hsl hq0,r3,r4,r5,u6,v3,v6,w0,w5,he0,frW_len,↓gd]
      repeat refine And.intro (by omega) ?_
      refine fin _ _ (headW out outM shd).1 (snd - q) ⟨sid,1,shd,ssay,true,false,ssent+q,sgot,stx,shrd,ssnd - q,srm⟩ _ (by simp [sayE,beginM,pieceM,setSt,hsy,mayM,hq,hq0,he0]) ?_ ?_ ?_ (by repeat (first | exact Upd.refl _ _ | refine Upd.set ?_ _ (.inr (by simp))))
      ·first | exact hv | simp -implicitDefEqProofs (maxSteps:=1000000) (disch:=omega) only [push_cast,simprocAttr,hv,↓gd]
      ·first | exact hb | simp -implicitDefEqProofs (maxSteps:=1000000) (disch:=omega) only [push_cast,simprocAttr,↓gd]
      ·first | exact hc | simp -implicitDefEqProofs (maxSteps:=1000000) (disch:=omega) only [push_cast,simprocAttr,hc,↓gd]
   ·have hq0':¬q > 0:=hq0
    cases ans
    ·simp -implicitDefEqProofs (maxSteps:=1000000) (disch:=omega) only [push_cast,simprocAttr,hv,hb,p4,h3,hsy,hll,p5,q0,q3,q5,q6,q10,min3',hq,hq0',↓gd]
     repeat refine And.intro (by omega) ?_
     refine fin _ _ (headW out outM shd).1 snd ⟨sid,1,shd,ssay,true,false,ssent,sgot,stx,shrd,ssnd,srm⟩ _ (by simp [sayE,beginM,pieceM,setSt,hsy,mayM,hq,hq0]) ?_ ?_ ?_ (by repeat (first | exact Upd.refl _ _ | refine Upd.set ?_ _ (.inr (by simp))))
     ·first | exact hv | simp -implicitDefEqProofs (maxSteps:=1000000) (disch:=omega) only [push_cast,simprocAttr,hv,↓gd]
     ·first | exact hb | simp -implicitDefEqProofs (maxSteps:=1000000) (disch:=omega) only [push_cast,simprocAttr,↓gd]
     ·first | exact hc | simp -implicitDefEqProofs (maxSteps:=1000000) (disch:=omega) only [push_cast,simprocAttr,hc,↓gd]
    ·simp -implicitDefEqProofs (maxSteps:=1000000) (disch:=omega) only [push_cast,simprocAttr,hv,hb,p4,h3,hsy,hll,p5,q0,q3,q5,q6,q10,min3',hq,hq0',↓gd]
     repeat refine And.intro (by omega) ?_
     refine fin _ _ (headW out outM shd).1 snd ⟨sid,1,shd,ssay,true,false,ssent,sgot,stx,shrd,ssnd,srm⟩ _ (by simp [sayE,beginM,pieceM,setSt,hsy,mayM,hq,hq0]) ?_ ?_ ?_ (by repeat (first | exact Upd.refl _ _ | refine Upd.set ?_ _ (.inr (by simp))))
     ·first | exact hv | simp -implicitDefEqProofs (maxSteps:=1000000) (disch:=omega) only [push_cast,simprocAttr,hv,↓gd]
     ·first | exact hb | simp -implicitDefEqProofs (maxSteps:=1000000) (disch:=omega) only [push_cast,simprocAttr,↓gd]
     ·first | exact hc | simp -implicitDefEqProofs (maxSteps:=1000000) (disch:=omega) only [push_cast,simprocAttr,hc,↓gd]
 ·have g4:=hget ⟨sid,1,shd,ssay,true,false,ssent,sgot,stx,shrd,ssnd,srm⟩ 4 (by decide)
  have q0:=hget ⟨sid,1,shd,ssay,true,false,ssent,sgot,stx,shrd,ssnd,srm⟩ 0 (by decide)
  rw [Nat.add_zero] at q0
  have q3:=hget ⟨sid,1,shd,ssay,true,false,ssent,sgot,stx,shrd,ssnd,srm⟩ 3 (by decide)
  have q5:=hget ⟨sid,1,shd,ssay,true,false,ssent,sgot,stx,shrd,ssnd,srm⟩ 5 (by decide)
  have q6:=hget ⟨sid,1,shd,ssay,true,false,ssent,sgot,stx,shrd,ssnd,srm⟩ 6 (by decide)
  have q10:=hget ⟨sid,1,shd,ssay,true,false,ssent,sgot,stx,shrd,ssnd,srm⟩ 10 (by decide)
  by_cases hq0:0 < q
  ·have hq0':q > 0:=hq0
   have r3:=hput ⟨sid,1,shd,ssay,true,false,ssent,sgot,stx,shrd,ssnd,srm⟩ ⟨sid,1,shd,ssay,true,false,ssent,sgot,stx,shrd,ssnd - q,srm⟩ 10 (by decide) (.int .i64 (ssnd - q)) rfl
   have r4:=hput ⟨sid,1,shd,ssay,true,false,ssent,sgot,stx,shrd,ssnd - q,srm⟩ ⟨sid,1,shd,ssay,true,false,ssent+q,sgot,stx,shrd,ssnd - q,srm⟩ 6 (by decide) (.int .i64 (ssent+q)) rfl
   have r5:=hput ⟨sid,1,shd,ssay,true,false,ssent+q,sgot,stx,shrd,ssnd - q,srm⟩ ⟨sid,1,shd,ssay,true,decide (ssent+q=ssay.length),ssent+q,sgot,stx,shrd,ssnd - q,srm⟩ 5 (by decide) (.bool (decide (ssent+q=ssay.length))) rfl
   have r6:=hput ⟨sid,1,shd,ssay,true,decide (ssent+q=ssay.length),ssent+q,sgot,stx,shrd,ssnd - q,srm⟩ ⟨sid,2,shd,ssay,true,decide (ssent+q=ssay.length),ssent+q,sgot,stx,shrd,ssnd - q,srm⟩ 1 (by decide) (.int .i64 2) rfl
   have u6:=hget ⟨sid,1,shd,ssay,true,false,ssent,sgot,stx,shrd,ssnd - q,srm⟩ 6 (by decide)
   have v3:=hget ⟨sid,1,shd,ssay,true,false,ssent+q,sgot,stx,shrd,ssnd - q,srm⟩ 3 (by decide)
   have v6:=hget ⟨sid,1,shd,ssay,true,false,ssent+q,sgot,stx,shrd,ssnd - q,srm⟩ 6 (by decide)
   have w0:=hget ⟨sid,1,shd,ssay,true,decide (ssent+q=ssay.length),ssent+q,sgot,stx,shrd,ssnd - q,srm⟩ 0 (by decide)
   rw [Nat.add_zero] at w0
   have w5:=hget ⟨sid,1,shd,ssay,true,decide (ssent+q=ssay.length),ssent+q,sgot,stx,shrd,ssnd - q,srm⟩ 5 (by decide)
   simp -implicitDefEqProofs (maxSteps:=1000000) (disch:=omega) only [push_cast,simprocAttr,hv,hb,g4,hll,q0,q3,q5,q6,q10,min3',hq,hq0',hsl hq0,r3,r4,r5,u6,v3,v6,w0,w5,↓gd]
   repeat refine And.intro (by omega) ?_
   have hfok:frameOk ⟨0,decide (ssent+q=ssay.length),sid,(ssay.drop ssent.toNat).take q.toNat⟩=true:=say_frame a1 a5 hsa (by omega) (by omega)
   refine ((FrameWrite_ok ⟨0,decide (ssent+q=ssay.length),sid,(ssay.drop ssent.toNat).take q.toNat⟩ _).as rfl).to ?_
   rw [if_pos hfok]
   have hfd:=frW_len ⟨0,decide (ssent+q=ssay.length),sid,(ssay.drop ssent.toNat).take q.toNat⟩
   simp only at hfd
   cases ans
   ·simp -implicitDefEqProofs (maxSteps:=1000000) (disch:=omega) only [push_cast,simprocAttr,hv,hb,g4,hll,q0,q3,q5,q6,q10,min3',hq,hq0',hsl hq0,r3,r4,r5,u6,v3,v6,w0,w5,frW_len,↓gd]
    repeat refine And.intro (by omega) ?_
    refine fin0 _ out (snd - q) ⟨sid,1,shd,ssay,true,decide (ssent+q=ssay.length),ssent+q,sgot,stx,shrd,ssnd - q,srm⟩ _ (by simp [sayE,beginM,pieceM,setSt,mayM,hq,hq0]) ?_ ?_ ?_ (by repeat (first | exact Upd.refl _ _ | refine Upd.set ?_ _ (.inr (by simp))))
    ·first | exact hv | simp -implicitDefEqProofs (maxSteps:=1000000) (disch:=omega) only [push_cast,simprocAttr,hv,↓gd]
    ·first | exact hb | simp -implicitDefEqProofs (maxSteps:=1000000) (disch:=omega) only [push_cast,simprocAttr,↓gd]
    ·first | exact hc | simp -implicitDefEqProofs (maxSteps:=1000000) (disch:=omega) only [push_cast,simprocAttr,hc,↓gd]
   ·by_cases he0:ssent+q=ssay.length
    ·simp only [he0,decide_true] at r5 r6 w0 w5 ⊢
     simp -implicitDefEqProofs (maxSteps:=1000000) (disch:=omega) only [push_cast,simprocAttr,hv,hb,g4,hll,q0,q3,q5,q6,q10,min3',hq,hq0',hsl hq0,r3,r4,r5,u6,v3,v6,w0,w5,he0,r6,frW_len,↓gd]
     repeat refine And.intro (by omega) ?_
     refine fin0 _ out (snd - q) ⟨sid,2,shd,ssay,true,true,ssay.length,sgot,stx,shrd,ssnd - q,srm⟩ _ (by simp [sayE,beginM,pieceM,setSt,mayM,hq,hq0,he0]) ?_ ?_ ?_ (by repeat (first | exact Upd.refl _ _ | refine Upd.set ?_ _ (.inr (by simp))))
     ·first | exact hv | simp -implicitDefEqProofs (maxSteps:=1000000) (disch:=omega) only [push_cast,simprocAttr,hv,↓gd]
     ·first | exact hb | simp -implicitDefEqProofs (maxSteps:=1000000) (disch:=omega) only [push_cast,simprocAttr,↓gd]
     ·first | exact hc | simp -implicitDefEqProofs (maxSteps:=1000000) (disch:=omega) only [push_cast,simprocAttr,hc,↓gd]
    ·simp only [he0,decide_false] at r5 w0 w5 ⊢
     simp -implicitDefEqProofs (maxSteps:=1000000) (disch:=omega) only [push_cast,simprocAttr,hv,hb,g4,hll,q0,q3,q5,q6,q10,min3',hq,hq0',hsl hq0,r3,r4,r5,u6,v3,v6,w0,w5,he0,frW_len,↓gd]
     repeat refine And.intro (by omega) ?_
     refine fin0 _ out (snd - q) ⟨sid,1,shd,ssay,true,false,ssent+q,sgot,stx,shrd,ssnd - q,srm⟩ _ (by simp [sayE,beginM,pieceM,setSt,mayM,hq,hq0,he0]) ?_ ?_ ?_ (by repeat (first | exact Upd.refl _ _ | refine Upd.set ?_ _ (.inr (by simp))))
     ·first | exact hv | simp -implicitDefEqProofs (maxSteps:=1000000) (disch:=omega) only [push_cast,simprocAttr,hv,↓gd]
     ·first | exact hb | simp -implicitDefEqProofs (maxSteps:=1000000) (disch:=omega) only [push_cast,simprocAttr,↓gd]
     ·first | exact hc | simp -implicitDefEqProofs (maxSteps:=1000000) (disch:=omega) only [push_cast,simprocAttr,hc,↓gd]
  ·have hq0':¬q > 0:=hq0
   cases ans
   ·simp -implicitDefEqProofs (maxSteps:=1000000) (disch:=omega) only [push_cast,simprocAttr,hv,hb,g4,hll,q0,q3,q5,q6,q10,min3',hq,hq0',↓gd]
    repeat refine And.intro (by omega) ?_
    refine fin0 _ out snd ⟨sid,1,shd,ssay,true,false,ssent,sgot,stx,shrd,ssnd,srm⟩ _ (by simp [sayE,beginM,pieceM,setSt,mayM,hq,hq0]) ?_ ?_ ?_ (by repeat (first | exact Upd.refl _ _ | refine Upd.set ?_ _ (.inr (by simp))))
    ·first | exact hv | simp -implicitDefEqProofs (maxSteps:=1000000) (disch:=omega) only [push_cast,simprocAttr,hv,↓gd]
    ·first | exact hb | simp -implicitDefEqProofs (maxSteps:=1000000) (disch:=omega) only [push_cast,simprocAttr,↓gd]
    ·first | exact hc | simp -implicitDefEqProofs (maxSteps:=1000000) (disch:=omega) only [push_cast,simprocAttr,hc,↓gd]
   ·simp -implicitDefEqProofs (maxSteps:=1000000) (disch:=omega) only [push_cast,simprocAttr,hv,hb,g4,hll,q0,q3,q5,q6,q10,min3',hq,hq0',↓gd]
    repeat refine And.intro (by omega) ?_
    refine fin0 _ out snd ⟨sid,1,shd,ssay,true,false,ssent,sgot,stx,shrd,ssnd,srm⟩ _ (by simp [sayE,beginM,pieceM,setSt,mayM,hq,hq0]) ?_ ?_ ?_ (by repeat (first | exact Upd.refl _ _ | refine Upd.set ?_ _ (.inr (by simp))))
    ·first | exact hv | simp -implicitDefEqProofs (maxSteps:=1000000) (disch:=omega) only [push_cast,simprocAttr,hv,↓gd]
    ·first | exact hb | simp -implicitDefEqProofs (maxSteps:=1000000) (disch:=omega) only [push_cast,simprocAttr,↓gd]
    ·first | exact hc | simp -implicitDefEqProofs (maxSteps:=1000000) (disch:=omega) only [push_cast,simprocAttr,hc,↓gd]
end
end Go.Proofs.YtdplmibomopkcaaGreat
