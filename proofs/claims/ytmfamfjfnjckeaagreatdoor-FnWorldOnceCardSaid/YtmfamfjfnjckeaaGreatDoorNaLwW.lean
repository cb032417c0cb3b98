/- A part of the proof: contracts of functions, or plain facts on which these lean. -/
import Derived.Test.YtmfamfjfnjckeaaGreatDoorNa40
import Derived.Test.YtmfamfjfnjckeaaGreatDoorNaLwP
namespace Go.Proofs.YtmfamfjfnjckeaaGreatDoor
open Go
set_option linter.unusedVariables false
set_option linter.unusedSimpArgs false
set_option maxRecDepth 100000
set_option maxHeartbeats 16000000

section
open Go
theorem hDo:TypesOk Tryz.prog (wrOf D [45,57,3,4]):=wrOk hD _
def hdsC (l:List Fr):List V:=(List.range 8).map fun j=>.int .i64 ((cntH ((j:Nat):Int) l:Nat):Int)
def lstC (l:List Fr):List V:=(List.range 8).map fun j=>.bool (lastF ((j:Nat):Int) false l)
theorem hds_len (l:List Fr):(hdsC l).length=8:=rfl
theorem lst_len (l:List Fr):(lstC l).length=8:=rfl
theorem hds_get (l:List Fr) {n:Nat} (h:n < 8):(hdsC l)[n]?=some (.int .i64 ((cntH (n:Int) l:Nat):Int)):=by
 simp [hdsC,List.getElem?_map,List.getElem?_range h]
theorem lst_get (l:List Fr) {n:Nat} (h:n < 8):(lstC l)[n]?=some (.bool (lastF (n:Int) false l)):=by
 simp [lstC,List.getElem?_map,List.getElem?_range h]
theorem hds_put (l:List Fr) {f:Fr} {n:Nat} (h:n < 8) (hf:f.stream=n) (hk:f.kind=1):splice (hdsC l) n [.int .i64 ((cntH (n:Int) l:Nat)+1)]=hdsC (l++[f]):=by
 rw [splice_one]
 apply List.ext_getElem?
 intro j
 by_cases hj:j < 8
 ·rw [hds_get _ hj]
  by_cases hjn:j=n
  ·subst hjn
   rw [List.getElem?_set_self (by rw [hds_len]; exact hj),cntH_app]
   simp [cntH,hk,hf]
  ·rw [List.getElem?_set_ne (Ne.symm hjn),hds_get _ hj,cntH_app]
   have:¬f.stream=(j:Int):=by rw [hf]; omega
   simp [cntH,this]
 ·rw [List.getElem?_eq_none (by rw [List.length_set,hds_len]; omega),List.getElem?_eq_none (by rw [hds_len]; omega)]
theorem hds_same (l:List Fr) {f:Fr} (hk:f.kind≠1):hdsC (l++[f])=hdsC l:=by
 unfold hdsC
 congr 1
 funext j
 rw [cntH_app]
 simp [cntH,hk]
theorem lst_put (l:List Fr) {f:Fr} {n:Nat} (h:n < 8) (hf:f.stream=n) (hk:f.kind=1∨f.kind=0):splice (lstC l) n [.bool f.last]=lstC (l++[f]):=by
 rw [splice_one]
 apply List.ext_getElem?
 intro j
 by_cases hj:j < 8
 ·rw [lst_get _ hj]
  by_cases hjn:j=n
  ·subst hjn
   rw [List.getElem?_set_self (by rw [lst_len]; exact hj),lastF_app]
   simp [lastF,hk,hf]
  ·rw [List.getElem?_set_ne (Ne.symm hjn),lst_get _ hj,lastF_app]
   have:¬f.stream=(j:Int):=by rw [hf]; omega
   simp [lastF,this]
 ·rw [List.getElem?_eq_none (by rw [List.length_set,lst_len]; omega),List.getElem?_eq_none (by rw [lst_len]; omega)]
theorem lst_same (l:List Fr) {f:Fr} (hk:¬(f.kind=1∨f.kind=0)):lstC (l++[f])=lstC l:=by
 unfold lstC
 congr 1
 funext j
 rw [lastF_app]
 simp only [lastF]
 rw [if_neg (fun z=>hk z.1)]
theorem cntH_le (i:Int):∀l:List Fr,cntH i l≤l.length
 | []=>Nat.le_refl _
 | f :: l=>by have:=cntH_le i l; simp only [cntH,List.length_cons]; split <;> omega
theorem strm8 {f:Fr} (h:frameOk f=true) (hk:f.kind=1∨f.kind=0):∃n:Nat,n < 8∧f.stream=n:=by
 unfold frameOk at h
 rw [if_pos (Or.symm hk)] at h
 simp [strmOk] at h
 exact ⟨f.stream.toNat,by omega,by omega⟩
theorem lkStep_none {e:En} (he:EnB e) {S:List Blk} {b c:Nat} (h1:EnAt S b c e) {id:Int} (hk:atM e.strs id=none):VCall Tryz.prog 14 [eV b c e,.int .i64 id] S fun r S'=>r=.tup [.agg zSt,.bool false]∧S'=S:=by
 have hel:=he.len
 have lb:=lt_of_some h1.1
 have hb:=h1.1
 have hlen:=strsC_len e.strs
 have hno:∀i,i < e.strs.length→¬(e.strs.getD i st0).id=id:=fun i hi q=>by
  have:=List.findIdx?_eq_none_iff.1 hk _ (getD_memS hi)
  exact of_decide_eq_false this q
 refine VCall.en hDe Tryz.func14 Tryz.ntmps14 Tryz.results14 ?_
 simp -implicitDefEqProofs (maxSteps:=1000000) (disch:=omega) only [push_cast,simprocAttr,↓gd]
 refine wpV_loop (fun m t S'=>∃i:Nat,m=e.strs.length - i∧i≤e.strs.length∧t 1=.int .i64 id∧t 2=.ptr S.length 0∧t 4=.ptr (S.length+1) 0∧t 6=.int .i64 i∧S'=S++[.cells 0 (enC (.heap b e.strs.length) (.heap c e.wait.length) e),.cells 0 zSt]) e.strs.length ⟨0,by omega,by omega,rfl,rfl,rfl,rfl,rfl⟩ ?_
 rintro m t S' ⟨i,rfl,hi',ht1,h2,h4,h6,rfl⟩
 refine wpV_of0 hDe ?_
 by_cases hil:i < e.strs.length
 ·have hil':(i:Int) < e.strs.length:=by omega
  have hat:=strsC_at hil
  have hidc:=strsC_id hil
  have hid:=hno i hil
  simp -implicitDefEqProofs (maxSteps:=1000000) (disch:=omega) only [push_cast,simprocAttr,ht1,h2,h4,h6,hil',hb,hat,hidc,hid,↓gd]
  repeat refine And.intro (by omega) ?_
  exact ⟨e.strs.length - (i+1),by omega,i+1,rfl,by omega,by simp⟩
 ·have:i=e.strs.length:=by omega
  subst this
  have hil':¬((e.strs.length:Nat):Int) < e.strs.length:=by omega
  simp -implicitDefEqProofs (maxSteps:=1000000) (disch:=omega) only [push_cast,simprocAttr,ht1,h2,h4,h6,hil',↓gd]
  exact fin1 (.tup (fun v hv=>by simp only [List.mem_cons,List.not_mem_nil,or_false] at hv; rcases hv with rfl | rfl; exact .agg (fun v hv=>by simp only [zSt,List.mem_cons,List.not_mem_nil,or_false] at hv; rcases hv with rfl | rfl | rfl | rfl | rfl | rfl | rfl | rfl | rfl | rfl | rfl | rfl <;> first | exact .int _ _ | exact .nils | exact .str _ | exact .bool _); exact .bool _)) rfl
theorem FnWorldOnce_ok (code:List UInt8) (S:List Blk):VCall Tryz.prog 7 [.rows none (code.map u8V)] S fun r S'=>r=.bool true:=by
 refine VCall.ex hDo (fun _=>false) (fun id=>if id=25 then [10,10,10,10,10,10,10,10,10,10,11] else []) Tryz.func7 Tryz.ntmps7 Tryz.results7 ?_
 by_cases hc:(code.length:Int) > 1048576
 ·simp -implicitDefEqProofs (maxSteps:=1000000) (disch:=omega) only [push_cast,simprocAttr,hc,↓gd]
  exact ⟨_,_,Wk.refl _ _ _,rfl⟩
 simp -implicitDefEqProofs (maxSteps:=1000000) (disch:=omega) only [push_cast,simprocAttr,hc,↓gd]
 refine (DrawWorldPlay_ok code (by omega) _).mono ?_
 rintro r S0 ⟨l,hl,hv,rfl,rfl⟩
 have hvB:=fun v hm=>(hv v hm).b
 simp -implicitDefEqProofs (maxSteps:=1000000) (disch:=omega) only [push_cast,simprocAttr,↓gd]
 refine (WorldPlay_ok l (by omega) hvB (fun _ i _=>play_ends l i) _).mono ?_
 rintro r S1 ⟨u,rfl,b,c,d,f,rfl,q1⟩
 have hspec:=fun Z=>sWorldPlay_ok l (by omega) hvB Z
 have hXB:=play_b l
 have hpl:=play_pl l
 generalize worldPlayM l=W at *
 obtain ⟨w,ok⟩:=W
 simp only at hspec hXB hpl q1
 simp -implicitDefEqProofs (maxSteps:=1000000) (disch:=omega) only [push_cast,simprocAttr,↓gd]
 refine (hspec _).mono ?_
 rintro r S2 ⟨u2,rfl,b2,c2,d2,f2,rfl,q2⟩
 have kw:S2[S1.length]?=some (.cells 0 (wC b c d f w)):=q2.upd.get (by simp -implicitDefEqProofs (maxSteps:=1000000) (disch:=omega) only [push_cast,simprocAttr,↓gd]) (by simp)
 have hat:=(q1.at_.app _).upd0 q2.upd
 have lw:=lt_of_some kw
 simp -implicitDefEqProofs (maxSteps:=1000000) (disch:=omega) only [push_cast,simprocAttr,kw,↓gd]
 refine ((lkWorld_self hXB (hat.app _) (q2.at_.app _)).as (by simp [wV,wC,enC])).to ?_
 cases hok:ok
 ·simp -implicitDefEqProofs (maxSteps:=1000000) (disch:=omega) only [push_cast,simprocAttr,kw,↓gd]
  refine ((lkWorld_self hXB (hat.app _) (q2.at_.app _)).as (by simp [wV,wC,enC])).to ?_
  simp -implicitDefEqProofs (maxSteps:=1000000) (disch:=omega) only [push_cast,simprocAttr,↓gd]
  exact ⟨_,_,Wk.refl _ _ _,rfl⟩
 obtain ⟨hP,hle,hplay⟩:=hpl hok
 have hat:=hat.app [.cells 0 (wC b2 c2 d2 f2 w)]
 have kw2:(S2++[.cells 0 (wC b2 c2 d2 f2 w)])[S1.length]?=some (.cells 0 (wC b c d f w)):=by rw [List.getElem?_append_left lw]; exact kw
 obtain ⟨fu,fd,hs⟩:=hP.syn
 have hwok:=hP.all.ok
 obtain ⟨hfr0,hfr1⟩:=hs.frames hwok
 obtain ⟨n0,n1⟩:=hs.short_frames hP.all.1
 have hF:=fun (T:List Blk) (way:Int) (q:WoAt T b c d f w)=>WorldFrames_ok hXB way q
 simp -implicitDefEqProofs (maxSteps:=1000000) (disch:=omega) only [push_cast,simprocAttr,kw2,↓gd]
 refine wpV_loop (fun m t S'=>∃i:Nat,m=2 - i∧i≤2∧t 4=.ptr S1.length 0∧t 8=.int .i64 i∧S'[S1.length]?=some (.cells 0 (wC b c d f w))∧WoAt S' b c d f w) 2 ⟨0,by omega,by omega,rfl,rfl,?_,?_⟩ ?_
 ·simpa only [wC,enC,List.cons_append,List.nil_append] using kw2
 ·simpa only [wC,enC,List.cons_append,List.nil_append] using hat
 rintro m t SA ⟨i,rfl,hi,h4,h8,kw',hat'⟩
 refine wpV_of hDo (fun _=>false) (fun id=>if id=25 then [10,10,10,10,10,10,10,10,10,10,11] else []) (by kernel_rfl) ?_
 have lkw:=lt_of_some kw'
 rcases (by omega:i=0∨i=1∨i=2) with rfl | rfl | rfl
 ·simp -implicitDefEqProofs (maxSteps:=1000000) (disch:=omega) only [push_cast,simprocAttr,h4,h8,kw',↓gd]
  refine ((hF _ 0 (hat'.app _)).as (by simp [wV,wC,enC])).mono ?_
  rintro r S3 ⟨p0,rfl,z0,z1,z2⟩
  rw [hfr0] at z0 ⊢
  have kw3:=z2.get (j:=S1.length) (B:=.cells 0 (wC b c d f w)) (by simp -implicitDefEqProofs (maxSteps:=1000000) (disch:=omega) only [push_cast,simprocAttr,kw',↓gd]) (by simp)
  have hat3:=(hat'.app _).upd0 z2
  have kt3:=z2.get (j:=SA.length) (B:=.cells 0 (enC (.heap d w.answerer.strs.length) (.heap f w.answerer.wait.length) w.answerer)) (by simp -implicitDefEqProofs (maxSteps:=1000000) (disch:=omega) only [push_cast,simprocAttr,↓gd]) (by simp)
  have kh3:=z2.get (j:=SA.length+1) (B:=.cells 1 (hdsC [])) (by simp -implicitDefEqProofs (maxSteps:=1000000) (disch:=omega) only [push_cast,simprocAttr,↓gd]; rfl) (by simp)
  have kl3:=z2.get (j:=SA.length+2) (B:=.cells 1 (lstC [])) (by simp -implicitDefEqProofs (maxSteps:=1000000) (disch:=omega) only [push_cast,simprocAttr,↓gd]; rfl) (by simp)
  have lu:=z2.1
  simp only [List.length_append,List.length_cons,List.length_nil] at lu
  simp -implicitDefEqProofs (maxSteps:=1000000) (disch:=omega) only [push_cast,simprocAttr,↓gd]
  refine wpV_loop (fun m t S'=>∃j:Nat,m=fu.length - j∧j≤fu.length∧t 4=.ptr S1.length 0∧t 8=.int .i64 0∧t 9=.ptr SA.length 0∧t 10=.heap (SA.length+1) 8∧t 11=.heap (SA.length+2) 8∧t 12=.heap p0 fu.length∧t 13=.int .i64 j ∧
   S'[S1.length]?=some (.cells 0 (wC b c d f w))∧WoAt S' b c d f w∧S'[SA.length]?=some (.cells 0 (enC (.heap d w.answerer.strs.length) (.heap f w.answerer.wait.length) w.answerer))∧S'[SA.length+1]?=some (.cells 1 (hdsC (fu.take j)))∧S'[SA.length+2]?=some (.cells 1 (lstC (fu.take j)))∧S'[p0]?=some (.cells 4 (frmsC fu))∧SA.length+3≤S'.length) fu.length ⟨0,by omega,by omega,by simp -implicitDefEqProofs (maxSteps:=1000000) (disch:=omega) only [push_cast,simprocAttr,h4,↓gd],by simp -implicitDefEqProofs (maxSteps:=1000000) (disch:=omega) only [push_cast,simprocAttr,h8,↓gd],rfl,rfl,rfl,rfl,rfl,kw3,hat3,kt3,kh3,kl3,z0,by omega⟩ ?_
  rintro m t S' ⟨j,rfl,hj,h4,h8,h9,h10,h11,h12,h13,kw',hat',kt,kh,kl,kf,lS⟩
  refine wpV_of hDo (fun _=>false) (fun id=>if id=25 then [10,10,10,10,10,10,10,10,10,10,11] else []) (by kernel_rfl) ?_
  have lkw:=lt_of_some kw'
  have lkt:=lt_of_some kt
  have lkh:=lt_of_some kh
  have lkl:=lt_of_some kl
  have lkf:=lt_of_some kf
  by_cases hjl:j < fu.length
  ·have hjl':(j:Int) < fu.length:=by omega
   have hfat:=frmsC_at hjl
   have hsn:fu.take (j+1)=fu.take j++[fu.getD j Go.Proofs.YtmfamfjfnjckeaaGreatDoor.fr0]:=take_succ_fr hjl
   have hfo:frameOk (fu.getD j Go.Proofs.YtmfamfjfnjckeaaGreatDoor.fr0)=true:=hs.j.u.ok _ (by rw [getD_lt Go.Proofs.YtmfamfjfnjckeaaGreatDoor.fr0 hjl]; exact List.getElem_mem hjl)
   have hsplit:fu=fu.take j++fu.getD j Go.Proofs.YtmfamfjfnjckeaaGreatDoor.fr0 :: fu.drop (j+1):=by
    rw [←List.singleton_append,←List.append_assoc,←hsn,List.take_append_drop]
   have honce:=fun h=>Dir.once hs.j.u (f:=fu.getD j Go.Proofs.YtmfamfjfnjckeaaGreatDoor.fr0) hsplit h
   have hcl:=fun i=>cntH_le i (fu.take j)
   have hfw:=frmsC_len fu
   have htl:(fu.take j).length≤1000000:=by rw [List.length_take]; omega
   clear hsplit
   generalize fu.getD j Go.Proofs.YtmfamfjfnjckeaaGreatDoor.fr0=g at *
   generalize hA:fu.take j=A at *
   by_cases hkk:g.kind=1∨g.kind=0
   rotate_left
   ·have k1:¬g.kind=1:=fun z=>hkk (.inl z)
    have k0:¬g.kind=0:=fun z=>hkk (.inr z)
    have e1:=hds_same A k1
    have e2:=lst_same A hkk
    simp -implicitDefEqProofs (maxSteps:=1000000) (disch:=omega) only [push_cast,simprocAttr,h4,h8,h9,h10,h11,h12,h13,hjl',kf,hfat,k1,k0,↓gd]
    repeat refine And.intro (by omega) ?_
    refine ⟨fu.length - (j+1),by omega,j+1,rfl,by omega,by simp,hat'.app _,by rw [hsn,e1],by rw [hsn,e2],?_⟩
    omega
   obtain ⟨n,hn8,hgs⟩:=strm8 hfo hkk
   obtain ⟨o1,o2,o3,o4⟩:=honce hkk
   have hhg:=hds_get A hn8
   have hlg:=lst_get A hn8
   have hlp:=lst_put A hn8 hgs hkk
   have hcn:=hcl n
   rw [hgs] at o1 o2 o3 o4
   clear honce hcl
   have hn8':(n:Int) < 8:=by omega
   have hn0:0≤(n:Int):=by omega
   have n1:n * 1=n:=Nat.mul_one n
   have hdl:=hds_len A
   have hll:=lst_len A
   have hp1:p0≠SA.length+1:=cells_ne kf kh (by decide)
   have hp2:p0≠SA.length+2:=cells_ne kf kl (by decide)
   have hs1:S1.length≠SA.length+1:=cells_ne kw' kh (by decide)
   have hs2:S1.length≠SA.length+2:=cells_ne kw' kl (by decide)
   have hat2:=fun B=>hat'.set (j:=SA.length+2) B ⟨cells_ne hat'.caller.1 kl (by decide),cells_ne hat'.caller.2 kl (by decide),cells_ne hat'.answerer.1 kl (by decide),cells_ne hat'.answerer.2 kl (by decide)⟩
   have hat1:=fun B C=>(hat'.set (j:=SA.length+1) B ⟨cells_ne hat'.caller.1 kh (by decide),cells_ne hat'.caller.2 kh (by decide),cells_ne hat'.answerer.1 kh (by decide),cells_ne hat'.answerer.2 kh (by decide)⟩).set (j:=SA.length+2) C ⟨cells_ne hat'.caller.1 kl (by decide),cells_ne hat'.caller.2 kl (by decide),cells_ne hat'.answerer.1 kl (by decide),cells_ne hat'.answerer.2 kl (by decide)⟩
   have hgo:stOf w.answerer (n:Int)=match atM w.answerer.strs (n:Int) with | some k=>stAt w.answerer k | none=>newSt (n:Int):=rfl
   by_cases k1:g.kind=1
   ·obtain ⟨o3a,o3b⟩:=o3 k1
    have hdp:=hds_put A hn8 hgs k1
    have hhg2:=hds_get (A++[g]) hn8
    have hc1:cntH (n:Int) (A++[g])=1:=by rw [cntH_app,o3b]; simp [cntH,k1,hgs]
    rw [hc1] at hhg2
    rw [o3b] at hdp hhg
    have hdp:splice (hdsC A) n [.int .i64 1]=hdsC (A++[g]):=hdp
    have hhg2:(hdsC (A++[g]))[n]?=some (.int .i64 1):=hhg2
    cases hatm:atM w.answerer.strs (n:Int) with
    | none =>
     simp -implicitDefEqProofs (maxSteps:=1000000) (disch:=omega) only [push_cast,simprocAttr,h4,h8,h9,h10,h11,h12,h13,hjl',kf,hfat,k1,↓gd]
     repeat refine And.intro (by omega) ?_
     refine ((lkStep_none hXB.answerer (hat'.answerer.app _) (id:=(n:Int)) hatm).as (by simp [eV,enV,enC,hgs])).to ?_
     simp -implicitDefEqProofs (maxSteps:=1000000) (disch:=omega) only [push_cast,simprocAttr,h4,h8,h9,h10,h11,h12,h13,k1,kh,kl,hgs,hn0,hn8',n1,hhg,hlg,hdp,hhg2,hlp,o1,↓gd]
     repeat refine And.intro (by omega) ?_
     simp -implicitDefEqProofs (maxSteps:=1000000) (disch:=omega) only [push_cast,simprocAttr,h4,h8,h9,h10,h11,h12,h13,k1,kw',kt,kf,kh,kl,hgs,hn0,hn8',n1,hhg,hlg,hdp,hhg2,hlp,o1,↓gd]
     repeat refine And.intro (by omega) ?_
     refine ⟨fu.length - (j+1),by omega,j+1,rfl,by omega,by simp,?_⟩
     rw [hsn]
     exact ⟨(hat1 _ _).app _,rfl,rfl,by omega⟩
    | some k =>
     have hso:stOf w.answerer (n:Int)=stAt w.answerer k:=stOf_some hatm
     rw [hso] at o2 o3a
     simp -implicitDefEqProofs (maxSteps:=1000000) (disch:=omega) only [push_cast,simprocAttr,h4,h8,h9,h10,h11,h12,h13,hjl',kf,hfat,k1,↓gd]
     repeat refine And.intro (by omega) ?_
     refine ((lkStep_ok hXB.answerer (hat'.answerer.app _) (id:=(n:Int)) hatm).as (by simp [eV,enV,enC,hgs])).to ?_
     generalize stAt w.answerer k=s at *
     simp -implicitDefEqProofs (maxSteps:=1000000) (disch:=omega) only [push_cast,simprocAttr,h4,h8,h9,h10,h11,h12,h13,k1,kh,kl,hgs,hn0,hn8',n1,hhg,hlg,hdp,hhg2,hlp,o1,o2,o3a,↓gd]
     repeat refine And.intro (by omega) ?_
     simp -implicitDefEqProofs (maxSteps:=1000000) (disch:=omega) only [push_cast,simprocAttr,h4,h8,h9,h10,h11,h12,h13,k1,kw',kt,kf,kh,kl,hgs,hn0,hn8',n1,hhg,hlg,hdp,hhg2,hlp,o1,o2,o3a,↓gd]
     repeat refine And.intro (by omega) ?_
     refine ⟨fu.length - (j+1),by omega,j+1,rfl,by omega,by simp,?_⟩
     rw [hsn]
     exact ⟨(hat1 _ _).app _,rfl,rfl,by omega⟩
   ·have k0:g.kind=0:=hkk.resolve_left k1
    have hds:=hds_same A k1
    have o4:=o4 k0
    cases hatm:atM w.answerer.strs (n:Int) with
    | none =>
     have hso:stOf w.answerer (n:Int)=newSt (n:Int):=by rw [hgo,hatm]
     rw [hso] at o4
     have o5:¬((cntH (n:Int) A:Nat):Int)=0:=by
      rcases o4 with z | z
      ·exact absurd rfl z
      ·omega
     simp -implicitDefEqProofs (maxSteps:=1000000) (disch:=omega) only [push_cast,simprocAttr,h4,h8,h9,h10,h11,h12,h13,hjl',kf,hfat,k1,k0,↓gd]
     repeat refine And.intro (by omega) ?_
     refine ((lkStep_none hXB.answerer (hat'.answerer.app _) (id:=(n:Int)) hatm).as (by simp [eV,enV,enC,hgs])).to ?_
     simp -implicitDefEqProofs (maxSteps:=1000000) (disch:=omega) only [push_cast,simprocAttr,h4,h8,h9,h10,h11,h12,h13,k1,k0,kh,kl,hgs,hn0,hn8',n1,hhg,hlg,hlp,o1,o5,kw',kt,kf,↓gd]
     repeat refine And.intro (by omega) ?_
     refine ⟨fu.length - (j+1),by omega,j+1,rfl,by omega,by simp,?_⟩
     rw [hsn]
     exact ⟨(hat2 _).app _,by rw [hds],rfl,by omega⟩
    | some k =>
     have hso:stOf w.answerer (n:Int)=stAt w.answerer k:=stOf_some hatm
     rw [hso] at o2 o4
     simp -implicitDefEqProofs (maxSteps:=1000000) (disch:=omega) only [push_cast,simprocAttr,h4,h8,h9,h10,h11,h12,h13,hjl',kf,hfat,k1,k0,↓gd]
     repeat refine And.intro (by omega) ?_
     refine ((lkStep_ok hXB.answerer (hat'.answerer.app _) (id:=(n:Int)) hatm).as (by simp [eV,enV,enC,hgs])).to ?_
     generalize stAt w.answerer k=s at *
     by_cases hg0:s.got=[]
     ·have o5:¬((cntH (n:Int) A:Nat):Int)=0:=by
       rcases o4 with z | z
       ·exact absurd hg0 z
       ·omega
      simp -implicitDefEqProofs (maxSteps:=1000000) (disch:=omega) only [push_cast,simprocAttr,h4,h8,h9,h10,h11,h12,h13,k1,k0,kh,kl,hgs,hn0,hn8',n1,hhg,hlg,hlp,o1,o2,o5,hg0,kw',kt,kf,↓gd]
      repeat refine And.intro (by omega) ?_
      refine ⟨fu.length - (j+1),by omega,j+1,rfl,by omega,by simp,?_⟩
      rw [hsn]
      exact ⟨(hat2 _).app _,by rw [hds],rfl,by omega⟩
     ·have hg1:(s.got.length:Int) > 0:=by have:=List.length_pos_iff.2 hg0; omega
      simp -implicitDefEqProofs (maxSteps:=1000000) (disch:=omega) only [push_cast,simprocAttr,h4,h8,h9,h10,h11,h12,h13,k1,k0,kh,kl,hgs,hn0,hn8',n1,hhg,hlg,hlp,o1,o2,hg1,List.length_map,kw',kt,kf,↓gd]
      repeat refine And.intro (by omega) ?_
      refine ⟨fu.length - (j+1),by omega,j+1,rfl,by omega,by simp,?_⟩
      rw [hsn]
      exact ⟨(hat2 _).app _,by rw [hds],rfl,by omega⟩
  ·have:j=fu.length:=by omega
   subst this
   have hjl':¬((fu.length:Nat):Int) < fu.length:=by omega
   simp -implicitDefEqProofs (maxSteps:=1000000) (disch:=omega) only [push_cast,simprocAttr,h4,h8,h9,h10,h11,h12,h13,hjl',↓gd]
   exact ⟨2 - (0+1),by omega,0+1,rfl,by omega,by simp,kw',hat'⟩
 ·simp -implicitDefEqProofs (maxSteps:=1000000) (disch:=omega) only [push_cast,simprocAttr,h4,h8,kw',↓gd]
  refine ((hF _ 1 (hat'.app _)).as (by simp [wV,wC,enC])).mono ?_
  rintro r S3 ⟨p0,rfl,z0,z1,z2⟩
  rw [hfr1] at z0 ⊢
  have kw3:=z2.get (j:=S1.length) (B:=.cells 0 (wC b c d f w)) (by simp -implicitDefEqProofs (maxSteps:=1000000) (disch:=omega) only [push_cast,simprocAttr,kw',↓gd]) (by simp)
  have hat3:=(hat'.app _).upd0 z2
  have kt3:=z2.get (j:=SA.length) (B:=.cells 0 (enC (.heap b w.caller.strs.length) (.heap c w.caller.wait.length) w.caller)) (by simp -implicitDefEqProofs (maxSteps:=1000000) (disch:=omega) only [push_cast,simprocAttr,↓gd]) (by simp)
  have kh3:=z2.get (j:=SA.length+1) (B:=.cells 1 (hdsC [])) (by simp -implicitDefEqProofs (maxSteps:=1000000) (disch:=omega) only [push_cast,simprocAttr,↓gd]; rfl) (by simp)
  have kl3:=z2.get (j:=SA.length+2) (B:=.cells 1 (lstC [])) (by simp -implicitDefEqProofs (maxSteps:=1000000) (disch:=omega) only [push_cast,simprocAttr,↓gd]; rfl) (by simp)
  have lu:=z2.1
  simp only [List.length_append,List.length_cons,List.length_nil] at lu
  simp -implicitDefEqProofs (maxSteps:=1000000) (disch:=omega) only [push_cast,simprocAttr,↓gd]
  refine wpV_loop (fun m t S'=>∃j:Nat,m=fd.length - j∧j≤fd.length∧t 4=.ptr S1.length 0∧t 8=.int .i64 1∧t 9=.ptr SA.length 0∧t 10=.heap (SA.length+1) 8∧t 11=.heap (SA.length+2) 8∧t 12=.heap p0 fd.length∧t 13=.int .i64 j ∧
   S'[S1.length]?=some (.cells 0 (wC b c d f w))∧WoAt S' b c d f w∧S'[SA.length]?=some (.cells 0 (enC (.heap b w.caller.strs.length) (.heap c w.caller.wait.length) w.caller))∧S'[SA.length+1]?=some (.cells 1 (hdsC (fd.take j)))∧S'[SA.length+2]?=some (.cells 1 (lstC (fd.take j)))∧S'[p0]?=some (.cells 4 (frmsC fd))∧SA.length+3≤S'.length) fd.length ⟨0,by omega,by omega,by simp -implicitDefEqProofs (maxSteps:=1000000) (disch:=omega) only [push_cast,simprocAttr,h4,↓gd],by simp -implicitDefEqProofs (maxSteps:=1000000) (disch:=omega) only [push_cast,simprocAttr,h8,↓gd],rfl,rfl,rfl,rfl,rfl,kw3,hat3,kt3,kh3,kl3,z0,by omega⟩ ?_
  rintro m t S' ⟨j,rfl,hj,h4,h8,h9,h10,h11,h12,h13,kw',hat',kt,kh,kl,kf,lS⟩
  refine wpV_of hDo (fun _=>false) (fun id=>if id=25 then [10,10,10,10,10,10,10,10,10,10,11] else []) (by kernel_rfl) ?_
  have lkw:=lt_of_some kw'
  have lkt:=lt_of_some kt
  have lkh:=lt_of_some kh
  have lkl:=lt_of_some kl
  have lkf:=lt_of_some kf
  by_cases hjl:j < fd.length
  ·have hjl':(j:Int) < fd.length:=by omega
   have hfat:=frmsC_at hjl
   have hsn:fd.take (j+1)=fd.take j++[fd.getD j Go.Proofs.YtmfamfjfnjckeaaGreatDoor.fr0]:=take_succ_fr hjl
   have hfo:frameOk (fd.getD j Go.Proofs.YtmfamfjfnjckeaaGreatDoor.fr0)=true:=hs.j.d.ok _ (by rw [getD_lt Go.Proofs.YtmfamfjfnjckeaaGreatDoor.fr0 hjl]; exact List.getElem_mem hjl)
   have hsplit:fd=fd.take j++fd.getD j Go.Proofs.YtmfamfjfnjckeaaGreatDoor.fr0 :: fd.drop (j+1):=by
    rw [←List.singleton_append,←List.append_assoc,←hsn,List.take_append_drop]
   have honce:=fun h=>Dir.once hs.j.d (f:=fd.getD j Go.Proofs.YtmfamfjfnjckeaaGreatDoor.fr0) hsplit h
   have hcl:=fun i=>cntH_le i (fd.take j)
   have hfw:=frmsC_len fd
   have htl:(fd.take j).length≤1000000:=by rw [List.length_take]; omega
   clear hsplit
   generalize fd.getD j Go.Proofs.YtmfamfjfnjckeaaGreatDoor.fr0=g at *
   generalize hA:fd.take j=A at *
   by_cases hkk:g.kind=1∨g.kind=0
   rotate_left
   ·have k1:¬g.kind=1:=fun z=>hkk (.inl z)
    have k0:¬g.kind=0:=fun z=>hkk (.inr z)
    have e1:=hds_same A k1
    have e2:=lst_same A hkk
    simp -implicitDefEqProofs (maxSteps:=1000000) (disch:=omega) only [push_cast,simprocAttr,h4,h8,h9,h10,h11,h12,h13,hjl',kf,hfat,k1,k0,↓gd]
    repeat refine And.intro (by omega) ?_
    refine ⟨fd.length - (j+1),by omega,j+1,rfl,by omega,by simp,hat'.app _,by rw [hsn,e1],by rw [hsn,e2],?_⟩
    omega
   obtain ⟨n,hn8,hgs⟩:=strm8 hfo hkk
   obtain ⟨o1,o2,o3,o4⟩:=honce hkk
   have hhg:=hds_get A hn8
   have hlg:=lst_get A hn8
   have hlp:=lst_put A hn8 hgs hkk
   have hcn:=hcl n
   rw [hgs] at o1 o2 o3 o4
   clear honce hcl
   have hn8':(n:Int) < 8:=by omega
   have hn0:0≤(n:Int):=by omega
   have n1:n * 1=n:=Nat.mul_one n
   have hdl:=hds_len A
   have hll:=lst_len A
   have hp1:p0≠SA.length+1:=cells_ne kf kh (by decide)
   have hp2:p0≠SA.length+2:=cells_ne kf kl (by decide)
   have hs1:S1.length≠SA.length+1:=cells_ne kw' kh (by decide)
   have hs2:S1.length≠SA.length+2:=cells_ne kw' kl (by decide)
   have hat2:=fun B=>hat'.set (j:=SA.length+2) B ⟨cells_ne hat'.caller.1 kl (by decide),cells_ne hat'.caller.2 kl (by decide),cells_ne hat'.answerer.1 kl (by decide),cells_ne hat'.answerer.2 kl (by decide)⟩
   have hat1:=fun B C=>(hat'.set (j:=SA.length+1) B ⟨cells_ne hat'.caller.1 kh (by decide),cells_ne hat'.caller.2 kh (by decide),cells_ne hat'.answerer.1 kh (by decide),cells_ne hat'.answerer.2 kh (by decide)⟩).set (j:=SA.length+2) C ⟨cells_ne hat'.caller.1 kl (by decide),cells_ne hat'.caller.2 kl (by decide),cells_ne hat'.answerer.1 kl (by decide),cells_ne hat'.answerer.2 kl (by decide)⟩
   have hgo:stOf w.caller (n:Int)=match atM w.caller.strs (n:Int) with | some k=>stAt w.caller k | none=>newSt (n:Int):=rfl
   by_cases k1:g.kind=1
   ·obtain ⟨o3a,o3b⟩:=o3 k1
    have hdp:=hds_put A hn8 hgs k1
    have hhg2:=hds_get (A++[g]) hn8
    have hc1:cntH (n:Int) (A++[g])=1:=by rw [cntH_app,o3b]; simp [cntH,k1,hgs]
    rw [hc1] at hhg2
    rw [o3b] at hdp hhg
    have hdp:splice (hdsC A) n [.int .i64 1]=hdsC (A++[g]):=hdp
    have hhg2:(hdsC (A++[g]))[n]?=some (.int .i64 1):=hhg2
    cases hatm:atM w.caller.strs (n:Int) with
    | none =>
     simp -implicitDefEqProofs (maxSteps:=1000000) (disch:=omega) only [push_cast,simprocAttr,h4,h8,h9,h10,h11,h12,h13,hjl',kf,hfat,k1,↓gd]
     repeat refine And.intro (by omega) ?_
     refine ((lkStep_none hXB.caller (hat'.caller.app _) (id:=(n:Int)) hatm).as (by simp [eV,enV,enC,hgs])).to ?_
     simp -implicitDefEqProofs (maxSteps:=1000000) (disch:=omega) only [push_cast,simprocAttr,h4,h8,h9,h10,h11,h12,h13,k1,kh,kl,hgs,hn0,hn8',n1,hhg,hlg,hdp,hhg2,hlp,o1,↓gd]
     repeat refine And.intro (by omega) ?_
     simp -implicitDefEqProofs (maxSteps:=1000000) (disch:=omega) only [push_cast,simprocAttr,h4,h8,h9,h10,h11,h12,h13,k1,kw',kt,kf,kh,kl,hgs,hn0,hn8',n1,hhg,hlg,hdp,hhg2,hlp,o1,↓gd]
     repeat refine And.intro (by omega) ?_
     refine ⟨fd.length - (j+1),by omega,j+1,rfl,by omega,by simp,?_⟩
     rw [hsn]
     exact ⟨(hat1 _ _).app _,rfl,rfl,by omega⟩
    | some k =>
     have hso:stOf w.caller (n:Int)=stAt w.caller k:=stOf_some hatm
     rw [hso] at o2 o3a
     simp -implicitDefEqProofs (maxSteps:=1000000) (disch:=omega) only [push_cast,simprocAttr,h4,h8,h9,h10,h11,h12,h13,hjl',kf,hfat,k1,↓gd]
     repeat refine And.intro (by omega) ?_
     refine ((lkStep_ok hXB.caller (hat'.caller.app _) (id:=(n:Int)) hatm).as (by simp [eV,enV,enC,hgs])).to ?_
     generalize stAt w.caller k=s at *
     simp -implicitDefEqProofs (maxSteps:=1000000) (disch:=omega) only [push_cast,simprocAttr,h4,h8,h9,h10,h11,h12,h13,k1,kh,kl,hgs,hn0,hn8',n1,hhg,hlg,hdp,hhg2,hlp,o1,o2,o3a,↓gd]
     repeat refine And.intro (by omega) ?_
     simp -implicitDefEqProofs (maxSteps:=1000000) (disch:=omega) only [push_cast,simprocAttr,h4,h8,h9,h10,h11,h12,h13,k1,kw',kt,kf,kh,kl,hgs,hn0,hn8',n1,hhg,hlg,hdp,hhg2,hlp,o1,o2,o3a,↓gd]
     repeat refine And.intro (by omega) ?_
     refine ⟨fd.length - (j+1),by omega,j+1,rfl,by omega,by simp,?_⟩
     rw [hsn]
     exact ⟨(hat1 _ _).app _,rfl,rfl,by omega⟩
   ·have k0:g.kind=0:=hkk.resolve_left k1
    have hds:=hds_same A k1
    have o4:=o4 k0
    cases hatm:atM w.caller.strs (n:Int) with
    | none =>
     have hso:stOf w.caller (n:Int)=newSt (n:Int):=by rw [hgo,hatm]
     rw [hso] at o4
     have o5:¬((cntH (n:Int) A:Nat):Int)=0:=by
      rcases o4 with z | z
      ·exact absurd rfl z
      ·omega
     simp -implicitDefEqProofs (maxSteps:=1000000) (disch:=omega) only [push_cast,simprocAttr,h4,h8,h9,h10,h11,h12,h13,hjl',kf,hfat,k1,k0,↓gd]
     repeat refine And.intro (by omega) ?_
     refine ((lkStep_none hXB.caller (hat'.caller.app _) (id:=(n:Int)) hatm).as (by simp [eV,enV,enC,hgs])).to ?_
     simp -implicitDefEqProofs (maxSteps:=1000000) (disch:=omega) only [push_cast,simprocAttr,h4,h8,h9,h10,h11,h12,h13,k1,k0,kh,kl,hgs,hn0,hn8',n1,hhg,hlg,hlp,o1,o5,kw',kt,kf,↓gd]
     repeat refine And.intro (by omega) ?_
     refine ⟨fd.length - (j+1),by omega,j+1,rfl,by omega,by simp,?_⟩
     rw [hsn]
     exact ⟨(hat2 _).app _,by rw [hds],rfl,by omega⟩
    | some k =>
     have hso:stOf w.caller (n:Int)=stAt w.caller k:=stOf_some hatm
     rw [hso] at o2 o4
     simp -implicitDefEqProofs (maxSteps:=1000000) (disch:=omega) only [push_cast,simprocAttr,h4,h8,h9,h10,h11,h12,h13,hjl',kf,hfat,k1,k0,↓gd]
     repeat refine And.intro (by omega) ?_
     refine ((lkStep_ok hXB.caller (hat'.caller.app _) (id:=(n:Int)) hatm).as (by simp [eV,enV,enC,hgs])).to ?_
     generalize stAt w.caller k=s at *
     by_cases hg0:s.got=[]
     ·have o5:¬((cntH (n:Int) A:Nat):Int)=0:=by
       rcases o4 with z | z
       ·exact absurd hg0 z
       ·omega
      simp -implicitDefEqProofs (maxSteps:=1000000) (disch:=omega) only [push_cast,simprocAttr,h4,h8,h9,h10,h11,h12,h13,k1,k0,kh,kl,hgs,hn0,hn8',n1,hhg,hlg,hlp,o1,o2,o5,hg0,kw',kt,kf,↓gd]
      repeat refine And.intro (by omega) ?_
      refine ⟨fd.length - (j+1),by omega,j+1,rfl,by omega,by simp,?_⟩
      rw [hsn]
      exact ⟨(hat2 _).app _,by rw [hds],rfl,by omega⟩
     ·have hg1:(s.got.length:Int) > 0:=by have:=List.length_pos_iff.2 hg0; omega
      simp -implicitDefEqProofs (maxSteps:=1000000) (disch:=omega) only [push_cast,simprocAttr,h4,h8,h9,h10,h11,h12,h13,k1,k0,kh,kl,hgs,hn0,hn8',n1,hhg,hlg,hlp,o1,o2,hg1,List.length_map,kw',kt,kf,↓gd]
      repeat refine And.intro (by omega) ?_
      refine ⟨fd.length - (j+1),by omega,j+1,rfl,by omega,by simp,?_⟩
      rw [hsn]
      exact ⟨(hat2 _).app _,by rw [hds],rfl,by omega⟩
  ·have:j=fd.length:=by omega
   subst this
   have hjl':¬((fd.length:Nat):Int) < fd.length:=by omega
   simp -implicitDefEqProofs (maxSteps:=1000000) (disch:=omega) only [push_cast,simprocAttr,h4,h8,h9,h10,h11,h12,h13,hjl',↓gd]
   exact ⟨2 - (1+1),by omega,1+1,rfl,by omega,by simp,kw',hat'⟩
 ·simp -implicitDefEqProofs (maxSteps:=1000000) (disch:=omega) only [push_cast,simprocAttr,h4,h8,↓gd]
  exact ⟨_,_,Wk.refl _ _ _,rfl⟩
end
end Go.Proofs.YtmfamfjfnjckeaaGreatDoor
