/- A part of the proof: contracts of functions, or plain facts on which these lean. -/
import Derived.Test.YtdplmibomopkcaaGreatDoorPa27
import Derived.Test.YtdplmibomopkcaaGreatDoorPa32
namespace Go.Proofs.YtdplmibomopkcaaGreatDoor
open Go
set_option linter.unusedVariables false
set_option linter.unusedSimpArgs false
set_option maxRecDepth 100000
set_option maxHeartbeats 16000000

section
open Go
section
variable {P:Program} {D:Nat→TD}
theorem Rel.nhCell {G:Gh} {w:World} {S:List Blk} (hR:Rel G w S) {p m sz:Nat} {cs ds:List V} (hp:S[p]?=some (.cells m cs)) (hl:cs.length=ds.length) (h:∀(i:Nat) (v u:V),cs[i]?=some v→ds[i]?=some u→NH S.length v u) :
  ∃G',Rel G' w (S.set p (.cells m ds)++[.cells sz []])∧Evol G w S G' w (S.set p (.cells m ds)++[.cells sz []]):=by
 obtain ⟨h1,h2⟩:=hR.pushNil sz (.cells sz []) (fun z cs e=>by cases e; rfl)
 have hlt:=lt_of_some hp
 have hp':(S++[Blk.cells sz []])[p]?=some (.cells m cs):=by rw [List.getElem?_append_left hlt]; exact hp
 have hset:S.set p (.cells m ds)++[Blk.cells sz []]=(S++[Blk.cells sz []]).set p (.cells m ds):=by rw [List.set_append_left _ _ hlt]
 rw [hset]
 cases hk:(G.pushNil sz).ok p with
 | false =>
  have hcs:=h1.vac p m cs hp' hk
  subst hcs
  have hds:ds=[]:=List.length_eq_zero_iff.1 hl.symm
  subst hds
  have he:(S++[Blk.cells sz []]).set p (.cells m [])=S++[Blk.cells sz []]:=by
   apply List.ext_getElem?
   intro j
   rw [List.getElem?_set]
   by_cases e:p=j
   ·subst e
    rw [if_pos rfl,if_pos (lt_of_some hp'),hp']
   ·rw [if_neg e]
  rw [he]
  exact ⟨_,h1,h2⟩
 | true =>
  obtain ⟨arr,ty,g1,g2,g3,g4,g5,g6⟩:=h1.live p _ hp' rfl hk
  obtain ⟨t1,t2⟩:=h1.touch (B':=.cells m ds) hp' rfl hk (⟨rfl,rfl,rfl,rfl,fun _ _=>rfl⟩:But w w ((G.pushNil sz).blk p)) g2 rfl (fun he=>⟨arr,ty,g1,g2,g3,by omega,g5,fun i v u hv hu=>by
   have hi:=List.getElem?_eq_some_iff.1 hv
   obtain ⟨hi,_⟩:=hi
   have hc:cs[i]?=some (cs[i]'(by omega)):=List.getElem?_eq_getElem _
   have:=g6 i _ u hc hu
   exact ⟨(h i _ v hc hv).ok (Ext.refl _ _) (by simp [Gh.pushNil,hR.n]) this.1,this.2⟩⟩)
  exact ⟨_,t1,h2.trans t2⟩
theorem wpV_ghost {N:Nat} {c:Code} {k:Exit→(Nat→V)→List Blk→Prop} {t:Nat→V} {S S1:List Blk} (hg:∀(G:Gh) (w:World),Rel G w S→∃G',Rel G' w S1∧Evol G w S G' w S1) (h:wpV P D N c k t S1):wpV P D N c k t S:=by
 intro hc
 obtain ⟨e,t',S',hk,hr⟩:=h hc
 refine ⟨e,t',S',hk,fun G a w Q ha hR hQ=>?_⟩
 obtain ⟨G1,h1,h2⟩:=hg G w hR
 exact hr G1 a w Q (ha.ext h2.ext) h1 (fun a' w' G' p1 p2 p3=>hQ a' w' G' p1 p2 (h2.trans p3))
end
theorem NH.at_ {n:Nat} {cs:List V} {i:Nat} (h:cs[i]?=some .nils) (j:Nat) (v u:V) (hv:cs[j]?=some v) (hu:(cs.set i (.heap n 0))[j]?=some u):NH n v u:=by
 rw [List.getElem?_set] at hu
 by_cases e:i=j
 ·subst e
  rw [h] at hv
  cases hv
  rw [if_pos rfl,if_pos (List.getElem?_eq_some_iff.1 h).1] at hu
  cases hu
  exact .nil
 ·rw [if_neg e,hv] at hu
  cases hu
  exact .refl _
theorem hDw:TypesOk Tryz.prog (bldOf (wrOf D [59,40]) [69]):=bldOk (wrOk hD _) _ (by
 intro t ht hk
 simp at ht
 subst ht
 cases hk)
theorem BdAt.app {S:List Blk} {n b:Nat} {s:List UInt8} (h:BdAt S n b s) (X:List Blk):BdAt (S++X) n b s:=by
 obtain ⟨h1,addr,buf,h2,h3,h4⟩:=h
 refine ⟨h1,addr,buf,by rw [List.getElem?_append_left (lt_of_some h2)]; exact h2,h3,?_⟩
 rcases h4 with h4 | ⟨q,q1,q2,q3,q4,q5⟩
 ·exact .inl h4
 ·exact .inr ⟨q,q1,q2,q3,by rw [List.getElem?_append_left (lt_of_some q4)]; exact q4,q5⟩
theorem BdAt.upd {S S':List Blk} {n b:Nat} {s:List UInt8} (h:BdAt S n b s) {bs:List Nat} (hu:Upd bs S S') (hb:∀j ∈ bs,∃m cs,S[j]?=some (.cells m cs)∧m < 1000000):BdAt S' n b s:=by
 have key:∀(j m:Nat) (cs:List V),S[j]?=some (.cells m cs)→1000000≤m→S'[j]?=some (.cells m cs):=by
  intro j m cs hj hm
  rw [hu.2 j (lt_of_some hj) ?_]
  ·exact hj
  ·intro hmem
   obtain ⟨m',cs',h1,h2⟩:=hb j hmem
   rw [hj] at h1
   cases h1
   omega
 obtain ⟨h1,addr,buf,h2,h3,h4⟩:=h
 refine ⟨h1,addr,buf,key _ _ _ h2 (by decide),h3,?_⟩
 rcases h4 with h4 | ⟨q,q1,q2,q3,q4,q5⟩
 ·exact .inl h4
 ·exact .inr ⟨q,q1,q2,q3,key _ _ _ q4 (by decide),q5⟩
theorem PtrAt.updU {S S':List Blk} {n p b c:Nat} {e:En} (h:PtrAt S p b c e) (hu:UpdU n S S'):PtrAt S' p b c e :=
 ⟨hu.2 _ _ h.var (.inr (by simp [Unm])),hu.2 _ _ h.at_.1 (.inr (by simp [Unm])),hu.2 _ _ h.at_.2 (.inr (by simp [Unm]))⟩
theorem BdAt.updP {S S':List Blk} {n bb p b c b' c':Nat} {s:List UInt8} {e e':En} (h:BdAt S n bb s) (hp:PtrAt S p b c e) (hu:PtrTo S p b c e' b' c' S'):BdAt S' n bb s :=
 h.upd hu.upd (by
  intro j hj
  simp only [List.mem_cons,List.not_mem_nil,or_false] at hj
  rcases hj with rfl | rfl | rfl
  ·exact ⟨_,_,hp.var,by decide⟩
  ·exact ⟨_,_,hp.at_.1,by decide⟩
  ·exact ⟨_,_,hp.at_.2,by decide⟩)
theorem Upd.ofU {n:Nat} {S S1 S2:List Blk} (h:Upd [] S S1) (hn:S.length≤n) (hu:UpdU n S1 S2):Upd [] S S2 :=
 ⟨Nat.le_trans h.1 hu.1,fun j hj hm=>by
  have h1:=h.2 j hj hm
  have h2:S[j]?=some S[j]:=List.getElem?_eq_getElem hj
  rw [h2] at h1 ⊢
  exact hu.2 j _ h1 (.inl (by omega))⟩
theorem Upd.ofP {S S1 S2:List Blk} {p b c b' c':Nat} {e:En} (h:Upd [] S S1) (hu:PtrTo S1 p b c e b' c' S2) (h1:S.length≤p) (h2:S.length≤b) (h3:S.length≤c):Upd [] S S2 :=
 h.then_ hu.upd (fun j hj hm=>by simp only [List.mem_cons,List.not_mem_nil,or_false] at hm; omega)
theorem EndWrite_ok {e:En} (he:EnB e) {S:List Blk} {b c:Nat} (h:EnAt S b c e):VCall Tryz.prog 9 [eV b c e] S fun r S' =>
  ∃v,r=.tup [v,.str (endWriteM e).2]∧RNew S (endWriteM e).1 v S':=by
 have hok:=fun X=>EndOk_ok he (h.app X)
 have hcp:=fun X=>eclone_ok he (h.app X)
 refine VCall.en hDw Tryz.func9 Tryz.ntmps9 Tryz.results9 ?_
 simp -implicitDefEqProofs (disch:=omega) only [push_cast,simprocAttr,↓gd]
 refine ((hok _).as (by simp [eV,enV,enC])).to ?_
 cases hE:endOk e
 ·rw [endWriteM,if_pos hE]
  simp -implicitDefEqProofs (disch:=omega) only [push_cast,simprocAttr,↓gd]
  exact RNew.zeroT (by simp [Plain])
 have hW:=endOk_w hE
 rw [endWriteM,if_neg (by rw [hE]; simp)]
 simp -implicitDefEqProofs (disch:=omega) only [push_cast,simprocAttr,↓gd]
 refine ((hcp _).as (by simp [eV,enV,enC])).mono ?_
 rintro r S1 ⟨b',c',rfl,hn⟩
 have k0:S1[S.length]?=some (.cells 0 (enC (.heap b e.strs.length) (.heap c e.wait.length) e)):=hn.upd.get (by simp -implicitDefEqProofs (disch:=omega) only [push_cast,simprocAttr,↓gd]) (by simp)
 have k1:S1[S.length+1]?=some (.cells 0 zE):=hn.upd.get (by simp -implicitDefEqProofs (disch:=omega) only [push_cast,simprocAttr,↓gd]) (by simp)
 have l0:=lt_of_some k0
 have l1:=lt_of_some k1
 have hx:=hn.app
 have hb1:=hn.hb; have hc1:=hn.hc
 simp at hb1 hc1
 rcases Bool.eq_false_or_eq_true e.bad with hbd | hbd
 ·rw [if_pos hbd]
  simp -implicitDefEqProofs (disch:=omega) only [push_cast,simprocAttr,k0,k1,hbd,↓gd]
  refine ⟨_,_,Wk.refl _ _ _,_,rfl,b',c',?_,(hx.set (j:=S.length+1) _ (by omega) (by omega) (by omega)).appR _⟩
  simp [eV,enV,enC,hbd]
 rw [if_neg (by rw [hbd]; simp)]
 have hst:∀i,EnW 60 (waitM e (e.wait.take i)).1∧(waitM e (e.wait.take i)).1.strs.length=e.strs.length∧(waitM e (e.wait.take i)).1.wait=e.wait:=fun i=>waitM_w _ _ hW
 have hol:∀i,(waitM e (e.wait.take i)).2.length≤(e.wait.take i).length * 300:=fun i=>waitM_len (N:=60) _ _ (fun f hf=>hW.wait f (List.mem_of_mem_take hf))
 have hwl:=hW.len
 simp -implicitDefEqProofs (disch:=omega) only [push_cast,simprocAttr,k0,k1,hbd,↓gd]
 refine wpV_loop (fun m t S2=>∃i:Nat,m=e.wait.length - i∧i≤e.wait.length∧t 2=.ptr (S.length+1) 0∧t 4=.ptr S1.length 0∧t 5=.ptr (S1.length+1) 0∧t 20=.heap c' e.wait.length∧t 21=.int .i64 e.wait.length∧t 22=.int .i64 i ∧
  PtrAt S2 S1.length b' c' (waitM e (e.wait.take i)).1∧BdAt S2 S.length (S1.length+1) (waitM e (e.wait.take i)).2∧S2[S.length+1]?=some (.cells 0 zE)∧Upd [] S S2) e.wait.length
  ⟨0,by omega,by omega,rfl,rfl,rfl,rfl,rfl,rfl,⟨?_,?_⟩,⟨by omega,.nilp,.nils,?_,.inl rfl,.inl ⟨rfl,rfl⟩⟩,?_,hx.upd.app _⟩ ?_
 ·simp -implicitDefEqProofs (disch:=omega) only [push_cast,simprocAttr,↓gd]
  simp [waitM,enC,hbd]
 ·exact hn.at_.app _
 ·simp -implicitDefEqProofs (disch:=omega) only [push_cast,simprocAttr,↓gd]
 ·simp -implicitDefEqProofs (disch:=omega) only [push_cast,simprocAttr,k1,↓gd]
 rintro m t S2 ⟨i,rfl,hi,h2,h4,h5,h20,h21,h22,hpt,hbdr,kz,hup⟩
 obtain ⟨hEw,hEs,hEl⟩:=hst i
 have hoi:=hol i
 have hti:(e.wait.take i).length=i:=by simp; omega
 generalize hE:waitM e (e.wait.take i)=E at *
 obtain ⟨E,o⟩:=E
 simp only at *
 have hvar:=hpt.var
 have hcw:=hpt.at_.2
 rw [hEl] at hcw
 rw [hEl,hEs] at hvar
 obtain ⟨n1,n2,n3,n4,n5,n6⟩:=hpt.nes
 have lz:=lt_of_some kz
 refine wpV_of0 hDw ?_
 simp -implicitDefEqProofs (disch:=omega) only [push_cast,simprocAttr,h2,h4,h5,h20,h21,h22,↓gd]
 refine ⟨fun hlt=>?_,fun hlt=>?_⟩
 ·have hil:i < e.wait.length:=by omega
  have hat:=frmsC_at hil
  have hlw:=frmsC_len e.wait
  have hfk:=hW.wait _ (getD_memF hil)
  simp -implicitDefEqProofs (disch:=omega) only [push_cast,simprocAttr,h2,h4,h5,h20,h21,h22,hcw,hat,↓gd]
  repeat refine And.intro (by omega) ?_
  refine ((FrameWrite_ok (e.wait.getD i fr0) _).as rfl).to ?_
  rw [if_pos hfk]
  have hfp:=(frameOk_nat hfk).2.2
  have hstep:=waitM_snoc (e.wait.take i) (e.wait.getD i fr0) e
  rw [hE,←take_fr hil] at hstep
  simp only at hstep
  simp -implicitDefEqProofs (disch:=omega) only [push_cast,simprocAttr,h2,h4,h5,h20,h21,h22,hcw,hat,↓gd]
  refine ((WriteString_ok (hbdr.app _) (by simp; omega) (frW (e.wait.getD i fr0)) (by omega) (by rw [frW_len]; omega)).as rfl).mono ?_
  rintro r S3 ⟨hb3,hu3⟩
  have hpt3:=(hpt.app _).updU hu3
  have kz3:=hu3.2 (S.length+1) (.cells 0 zE) (by rw [List.getElem?_append_left lz]; exact kz) (.inr (by simp [Unm]))
  generalize hf:e.wait.getD i fr0=f at *
  have kf:S3[S2.length]?=some (.cells 0 [V.int IntKind.i64 f.kind,V.bool f.last,V.int IntKind.i64 f.stream,V.str f.body]):=hu3.2 _ _ (by simp -implicitDefEqProofs (disch:=omega) only [push_cast,simprocAttr,↓gd]) (.inr (by simp [Unm]))
  have hup3:=(hup.app _).ofU (Nat.le_refl _) hu3
  simp -implicitDefEqProofs (disch:=omega) only [push_cast,simprocAttr,h2,h4,h5,h20,h21,h22,kf,↓gd]
  refine ((widen_ok hEw (by omega) hfk hpt3).as rfl).mono ?_
  rintro r S4 ⟨rfl,hto⟩
  have hb4:=hb3.updP hpt3 hto
  have hup4:=hup3.ofP hto (by omega) (by omega) (by omega)
  have kz4:=hto.upd.get kz3 (by simp; omega)
  simp -implicitDefEqProofs (disch:=omega) only [push_cast,simprocAttr,h2,h4,h5,h20,h21,h22,↓gd]
  exact ⟨e.wait.length - (i+1),by omega,i+1,rfl,by omega,by simp,by rw [hstep]; exact hto.at_,by rw [hstep]; exact hb4,kz4,hup4⟩
 ·have:i=e.wait.length:=by omega
  subst this
  rw [List.take_length] at hE
  have hw0:=hEw.noWait
  have hwe:writeM e=((saysM e.strs.length 0 { E with wait:=[] }).1,o++(saysM e.strs.length 0 { E with wait:=[] }).2):=by rw [writeM_eq,hE]
  rw [hwe]
  have hns0:({ E with wait:=[] }:En).strs.length=e.strs.length:=hEs
  have hel:=hW.b (by decide)
  have hel:=hel.len
  simp -implicitDefEqProofs (disch:=omega) only [push_cast,simprocAttr,h2,h4,h5,h20,h21,h22,hvar,↓gd]
  have hpt0:PtrAt ((S2.set S1.length (.cells 0 (enC (.heap b' e.strs.length) .nils { E with wait:=[] }))).set S1.length (.cells 0 (enC (.heap b' e.strs.length) (.heap S2.length 0) { E with wait:=[] }))++[.cells 4 []]) S1.length b' S2.length { E with wait:=[] }:=by
   have hb2:=hpt.at_.1
   refine ⟨?_,?_,?_⟩
   ·simp -implicitDefEqProofs (disch:=omega) only [push_cast,simprocAttr,↓gd]
    rw [hEs]
   ·simp -implicitDefEqProofs (disch:=omega) only [push_cast,simprocAttr,hb2,↓gd]
   ·simp -implicitDefEqProofs (disch:=omega) only [push_cast,simprocAttr,↓gd]
    rfl
  have hbd0:=(hbdr.upd (((Upd.refl [S1.length] S2).set (i:=S1.length) (.cells 0 (enC (.heap b' e.strs.length) .nils { E with wait:=[] })) (.inr (by simp))).set (i:=S1.length) (.cells 0 (enC (.heap b' e.strs.length) (.heap S2.length 0) { E with wait:=[] })) (.inr (by simp))) (fun j hj=>by obtain rfl:=List.mem_singleton.1 hj; exact ⟨_,_,hpt.var,by decide⟩)).app [.cells 4 []]
  have kz0:((S2.set S1.length (.cells 0 (enC (.heap b' e.strs.length) .nils { E with wait:=[] }))).set S1.length (.cells 0 (enC (.heap b' e.strs.length) (.heap S2.length 0) { E with wait:=[] }))++[.cells 4 []])[S.length+1]?=some (.cells 0 zE):=by simp -implicitDefEqProofs (disch:=omega) only [push_cast,simprocAttr,kz,↓gd]
  have hup0:Upd [] S ((S2.set S1.length (.cells 0 (enC (.heap b' e.strs.length) .nils { E with wait:=[] }))).set S1.length (.cells 0 (enC (.heap b' e.strs.length) (.heap S2.length 0) { E with wait:=[] }))++[.cells 4 []]) :=
   ((hup.set _ (.inl (by omega))).set _ (.inl (by omega))).app _
  obtain ⟨S3,hS3⟩:∃S3,S3=(S2.set S1.length (.cells 0 (enC (.heap b' e.strs.length) .nils { E with wait:=[] }))).set S1.length (.cells 0 (enC (.heap b' e.strs.length) (.heap S2.length 0) { E with wait:=[] }))++[.cells 4 []]:=⟨_,rfl⟩
  rw [←hS3] at hpt0 hbd0 kz0 hup0
  refine wpV_ghost (S1:=S3) (fun G w hR=>?_) ?_
  ·rw [hS3]
   have hat9:=NH.at_ (n:=S2.length) (cs:=enC (.heap b' e.strs.length) .nils { E with wait:=[] }) (i:=9) rfl
   refine hR.nhCell (p:=S1.length) (m:=0) (sz:=4) (cs:=enC (.heap b' e.strs.length) .nils { E with wait:=[] }) (ds:=enC (.heap b' e.strs.length) (.heap S2.length 0) { E with wait:=[] }) ?_ rfl ?_
   ·simp -implicitDefEqProofs (disch:=omega) only [push_cast,simprocAttr,↓gd]
   ·rw [List.length_set]
    exact hat9
  generalize hF:({ E with wait:=[] }:En)=F at hpt0 hw0 hns0
  have hk1:∀n,n≤e.strs.length→EnW 0 (saysM n 0 F).1∧(saysM n 0 F).1.strs.length=e.strs.length∧(saysM n 0 F).2.length≤n * 2000:=fun n hn=>⟨(saysM_w n 0 F hw0 (by omega)).1,by rw [(saysM_w n 0 F hw0 (by omega)).2,hns0],saysM_len n 0 F hw0 (by omega)⟩
  have hol2:o.length≤e.wait.length * 300:=Nat.le_trans hoi (Nat.mul_le_mul_right _ (by simp))
  have hs4:=stsOk_len hW.sts
  have l3:=lt_of_some kz0
  have lv:=lt_of_some hpt0.var
  refine wpV_loop (fun m t S4=>∃n:Nat,m=e.strs.length - n∧n≤e.strs.length∧t 2=.ptr (S.length+1) 0∧t 4=.ptr S1.length 0∧t 5=.ptr (S1.length+1) 0∧t 35=.int .i64 e.strs.length∧t 36=.int .i64 n ∧
   PtrAt S4 S1.length b' S2.length (saysM n 0 F).1∧BdAt S4 S.length (S1.length+1) (o++(saysM n 0 F).2)∧S4[S.length+1]?=some (.cells 0 zE)∧Upd [] S S4) e.strs.length
   ⟨0,by omega,by omega,h2,h4,h5,rfl,rfl,by simpa [saysM] using hpt0,by have:(saysM 0 0 F).2=[]:=rfl; rw [this,List.append_nil]; exact hbd0,kz0,hup0⟩ ?_
  rintro m t S4 ⟨n,rfl,hn',h2,h4,h5,h35,h36,hpt,hbdr,kz,hup⟩
  obtain ⟨hXw,hXs,hXl⟩:=hk1 n hn'
  have hsn:=saysM_snoc n 0 F
  rw [Nat.zero_add] at hsn
  generalize hX:saysM n 0 F=X at *
  obtain ⟨X,q⟩:=X
  simp only at *
  have hvar:=hpt.var
  have hbs:=hpt.at_.1
  rw [hXs] at hvar
  obtain ⟨n1,n2,n3,n4,n5,n6⟩:=hpt.nes
  have lz:=lt_of_some kz
  refine wpV_of0 hDw ?_
  simp -implicitDefEqProofs (disch:=omega) only [push_cast,simprocAttr,h2,h4,h5,h35,h36,↓gd]
  refine ⟨fun hlt=>?_,fun hlt=>?_⟩
  ·have hil:n < X.strs.length:=by omega
   have hlen:=strsC_len X.strs
   have g1:=strsC_get hil (c:=1) (by decide)
   have g2:=strsC_get hil (c:=2) (by decide)
   have g5:=strsC_get hil (c:=5) (by decide)
   have hm0:∀s,X.strs.getD n st0=s→(stAt X n=s∧sayM X n=if s.state≠1∨s.head=[]∨s.said=true then (X,[]) else sayE X n s):=fun s hs=>by subst hs; exact ⟨rfl,rfl⟩
   have hol:=hXw.sts
   have hlw:=sayM_len hXw hil
   have hYs:(sayM X n).1.strs.length=e.strs.length:=by rw [(sayM_w hXw hil).2]; exact hXs
   generalize hs:X.strs.getD n st0=s at g1 g2 g5
   obtain ⟨hs0,hm0⟩:=hm0 s hs
   obtain ⟨sid,sst,shd,ssay,sbg,ssd,ssent,sgot,stx,shrd,ssnd,srm⟩:=s
   have next:∀S5,(sayM X n)=(X,[])→S5=S4→∃m',m' < e.strs.length - n∧∃j:Nat,m'=e.strs.length - j∧j≤e.strs.length∧V.int .i64 ((n:Int)+1)=V.int .i64 (j:Int)∧PtrAt S5 S1.length b' S2.length (saysM j 0 F).1∧BdAt S5 S.length (S1.length+1) (o++(saysM j 0 F).2)∧S5[S.length+1]?=some (.cells 0 zE)∧Upd [] S S5:=by
    rintro S5 hq rfl
    rw [hq] at hsn
    refine ⟨e.strs.length - (n+1),by omega,n+1,rfl,by omega,by simp,?_,?_,kz,hup⟩
    ·rw [hsn]; exact hpt
    ·rw [hsn]; simpa using hbdr
   by_cases hst:sst=1
   ·by_cases hhd:shd=[]
    ·rw [if_pos (by simp [hhd])] at hm0
     subst hhd
     simp -implicitDefEqProofs (disch:=omega) only [push_cast,simprocAttr,h2,h4,h5,h35,h36,hvar,hbs,g1,g2,hst,↓gd]
     exact ⟨by omega,by omega,next _ hm0 rfl⟩
    ·have hpos:=List.length_pos_iff.2 hhd
     have hgt:(shd.length:Int) > 0:=by omega
     cases ssd
     ·rw [if_neg (by simp [hhd,hst])] at hm0
      simp -implicitDefEqProofs (disch:=omega) only [push_cast,simprocAttr,h2,h4,h5,h35,h36,hvar,hbs,g1,g2,g5,hst,hgt,↓gd]
      repeat refine And.intro (by omega) ?_
      refine ((say_ok hXw (by omega) hil (by rw [hs0]; exact hst) (by rw [hs0]) hpt).as rfl).mono ?_
      rintro r S5 ⟨rfl,hto⟩
      rw [hs0,←hm0] at hto ⊢
      have hb5:=hbdr.updP hpt hto
      have hup5:=hup.ofP hto (by omega) (by omega) (by omega)
      have kz5:=hto.upd.get kz (by simp; omega)
      clear hm0 hs0 next
      generalize hY:sayM X n=Y at *
      obtain ⟨Y,u⟩:=Y
      simp only at *
      simp -implicitDefEqProofs (disch:=omega) only [push_cast,simprocAttr,h2,h4,h5,h35,h36,↓gd]
      refine ((WriteString_ok hb5 (by have:=hup5.1; omega) u (by rw [List.length_append]; omega) (by omega)).as rfl).mono ?_
      rintro r S6 ⟨hb6,hu6⟩
      have hpt6:=hto.at_.updU hu6
      have kz6:=hu6.2 _ _ kz5 (.inr (by simp [Unm]))
      have hup6:=hup5.ofU (Nat.le_refl _) hu6
      simp -implicitDefEqProofs (disch:=omega) only [push_cast,simprocAttr,h2,h4,h5,h35,h36,↓gd]
      refine ⟨e.strs.length - (n+1),by omega,n+1,rfl,by omega,by simp,?_,?_,kz6,hup6⟩
      ·rw [hsn]; exact hpt6
      ·rw [hsn]; simpa using hb6
     ·rw [if_pos (by simp)] at hm0
      simp -implicitDefEqProofs (disch:=omega) only [push_cast,simprocAttr,h2,h4,h5,h35,h36,hvar,hbs,g1,g2,g5,hst,hgt,↓gd]
      exact ⟨by omega,by omega,next _ hm0 rfl⟩
   ·rw [if_pos (by simp [hst])] at hm0
    simp -implicitDefEqProofs (disch:=omega) only [push_cast,simprocAttr,h2,h4,h5,h35,h36,hvar,hbs,g1,hst,↓gd]
    exact ⟨by omega,by omega,next _ hm0 rfl⟩
  ·have:n=e.strs.length:=by omega
   subst this
   rw [hX]
   simp -implicitDefEqProofs (disch:=omega) only [push_cast,simprocAttr,h2,h4,h5,h35,h36,hvar,↓gd]
   refine ((eclone_ok (hXw.b (by decide)) hpt.at_).as (by simp [eV,enV,enC,hXs])).mono ?_
   rintro r S5 ⟨b5,c5,rfl,q5⟩
   have hb5:=hbdr.upd q5.upd (by simp)
   have kz5:=q5.upd.get kz (by simp)
   simp -implicitDefEqProofs (disch:=omega) only [push_cast,simprocAttr,h2,h4,h5,↓gd]
   refine ((String_ok hb5 (by rw [List.length_append]; omega)).as rfl).mono ?_
   rintro r S6 ⟨rfl,hu6⟩
   have kz6:=hu6.2 _ _ kz5 (.inr (by simp [Unm]))
   have lz6:=lt_of_some kz6
   have hat6:EnAt S6 b5 c5 X:=⟨hu6.2 _ _ q5.at_.1 (.inr (by simp [Unm])),hu6.2 _ _ q5.at_.2 (.inr (by simp [Unm]))⟩
   have e1:=q5.hb; have e2:=q5.hc; have e3:=hup.1
   have hup6:Upd [] S S6:=(hup.trans q5.upd).ofU (Nat.le_refl _) hu6
   have v1:=cells_ne hat6.1 kz6 (by decide)
   have v2:=cells_ne hat6.2 kz6 (by decide)
   have q6:EnNew S X b5 c5 S6:=⟨hat6,by omega,by omega,hup6⟩
   simp -implicitDefEqProofs (disch:=omega) only [push_cast,simprocAttr,h2,kz6,↓gd]
   exact ⟨_,_,Wk.refl _ _ _,_,rfl,b5,c5,by simp [eV,enV,enC,hXs],q6.set (j:=S.length+1) _ (by omega) v1 v2⟩
end
section
open Go
theorem sEndCall_ok {e:En} (he:EnB e) (path text:List UInt8) (hp:path.length≤2000000) (ht:text.length≤2000000) {S:List Blk} {b c:Nat} (h:EnAt S b c e):VCall Tryz.prog 6 [eV b c e,.str path,.str text] S fun r S' =>
  ∃v,r=.tup [v,.int .i64 (endCallM e path text).2.1,.bool (endCallM e path text).2.2]∧RNew S (endCallM e path text).1 v S':=by
 have hok:=fun X=>sEndOk_at he (h.app X)
 have hcp:=fun X=>l21Copy_ok he (h.app X)
 refine VCall.en hDe Tryz.func6 Tryz.ntmps6 Tryz.results6 ?_
 simp -implicitDefEqProofs (disch:=omega) only [push_cast,simprocAttr,↓gd]
 refine ((hok _).as (by simp [eV,enV,enC])).to ?_
 cases hE:endOk e
 ·rw [endCallM,if_pos hE]
  simp -implicitDefEqProofs (disch:=omega) only [push_cast,simprocAttr,↓gd]
  exact RNew.zeroT (by simp [Plain])
 have hW:=endOk_w hE
 rw [endCallM,if_neg (by rw [hE]; simp)]
 simp -implicitDefEqProofs (disch:=omega) only [push_cast,simprocAttr,↓gd]
 refine ((hcp _).as (by simp [eV,enV,enC])).mono ?_
 rintro r S' ⟨b',c',rfl,hn⟩
 have k0:S'[S.length+1]?=some (.cells 0 zE):=hn.upd.get (by simp -implicitDefEqProofs (disch:=omega) only [push_cast,simprocAttr,↓gd]) (by simp)
 have l0:=lt_of_some k0
 have hbb:=hn.hb; have hcc:=hn.hc
 simp at hbb hcc
 simp -implicitDefEqProofs (disch:=omega) only [push_cast,simprocAttr,↓gd]
 refine ((l21Call_ok hW (by decide) path text hp ht hn.at_).as (by simp [eV,enV,enC])).mono ?_
 rintro r S2 ⟨v,rfl,⟨b2,c2,rfl,hto⟩,_⟩
 have k0':=hto.upd.get k0 (by simp; omega)
 have l0':=lt_of_some k0'
 have hn2:=(hn.to hto).app
 generalize callM e path text=y at *
 obtain ⟨y,o,z⟩:=y
 simp -implicitDefEqProofs (disch:=omega) only [push_cast,simprocAttr,k0',↓gd]
 exact ⟨_,_,Wk.refl _ _ _,_,rfl,b2,c2,rfl,hn2.set (j:=S.length+1) _ (by omega) (cells_ne hto.at_.1 k0' (by decide)) (cells_ne hto.at_.2 k0' (by decide))⟩
end
section
def more0:List Fr→Nat
 | []=>0
 | f :: l=>(if f.kind=8∧f.stream=0 then byteAt f.body 0 else 0)+more0 l
theorem more0_app:∀l k:List Fr,more0 (l++k)=more0 l+more0 k
 | [],k=>by simp [more0]
 | f :: l,k=>by simp only [List.cons_append,more0,more0_app l k]; omega
def gone:List St→Nat
 | []=>0
 | s :: l=>(if s.state=3 then 1 else 0)+gone l
theorem gone_app:∀l k:List St,gone (l++k)=gone l+gone k
 | [],k=>by simp [gone]
 | f :: l,k=>by simp only [List.cons_append,gone,gone_app l k]; omega
theorem gone_le:∀l:List St,gone l≤l.length
 | []=>by simp [gone]
 | s :: l=>by have:=gone_le l; simp only [gone,List.length_cons]; split <;> omega
theorem gone_set:∀(l:List St) (k:Nat) (s:St),((l.getD k st0).state=3→s.state=3)→gone l≤gone (l.set k s)
 | [],k,s,_=>by simp
 | a :: l,0,s,hs=>by
  have h:a.state=3→s.state=3:=hs
  simp only [List.set_cons_zero,gone]
  by_cases q:a.state=3
  ·rw [if_pos q,if_pos (h q)]; exact Nat.le_refl _
  ·rw [if_neg q]; split <;> omega
 | a :: l,k+1,s,hs=>by
  have:=gone_set l k s (by simpa using hs)
  simp only [List.set_cons_succ,gone]; omega
theorem gone_more:∀(l:List St) (k:Nat) (s:St),k < l.length→(l.getD k st0).state≠3→s.state=3→gone (l.set k s)=gone l+1
 | [],k,s,h,_,_=>by simp at h
 | a :: l,0,s,_,hs,h3=>by
  have h:a.state≠3:=hs
  simp only [List.set_cons_zero,gone,if_neg h,if_pos h3]; omega
 | a :: l,k+1,s,h,hs,h3=>by
  have:=gone_more l k s (by simpa using h) (by simpa using hs) h3
  simp only [List.set_cons_succ,gone]; omega
structure Loc (e:En):Prop where
 sum:e.room+more0 e.wait=16
 len:e.wait.length≤2 * more0 e.wait+gone e.strs
 four:e.strs.length≤4
theorem Loc.wait {e:En} (h:Loc e) (hr:0≤e.room):e.wait.length≤36:=by
 have:=h.sum; have:=h.len; have:=h.four; have:=gone_le e.strs; omega
theorem Loc.setSt {e:En} {k:Nat} {s:St} (h:Loc e) (hs:(stAt e k).state=3→s.state=3):Loc (setSt e k s) :=
 ⟨h.sum,Nat.le_trans h.len (Nat.add_le_add_left (gone_set e.strs k s hs) _),Nat.le_trans (Nat.le_of_eq (List.length_set ..)) h.four⟩
theorem Loc.bad {e:En} (h:Loc e):Loc (badM e):=⟨h.sum,h.len,h.four⟩
theorem loc_new (a:Bool):Loc (newEn a):=⟨rfl,by simp [newEn],by simp [newEn]⟩
theorem callM_loc {e:En} (h:Loc e) (p t:List UInt8):Loc (callM e p t).1:=by
 unfold callM
 split
 ·exact h
 ·rename_i hc
  have h2:¬2 * (e.strs.length:Int)+1 > 7:=fun q=>hc (.inr (.inl q))
  refine ⟨h.sum,?_,by simp; omega⟩
  have:=h.len
  simp only [gone_app]; omega
theorem leaveM_loc {e:En} (h:Loc e) (id:Int):Loc (leaveM e id).1:=by
 unfold leaveM
 split
 ·exact h
 ·rename_i k hk
  obtain ⟨h1,h2⟩:=atM_some hk
  split
  ·exact h
  ·rename_i hc
   have hs:(stAt e k).state=1:=by simpa using fun q=>hc (.inr q)
   have hg:=gone_more e.strs k { stAt e k with state:=3 } h1 (by show (stAt e k).state≠3; rw [hs]; decide) rfl
   have:=h.len
   have:=h.sum
   refine ⟨?_,?_,by simpa [setSt] using h.four⟩
   ·show e.room+more0 (if _ then _ else _)=16
    split
    ·rw [more0_app]; simpa [more0] using h.sum
    ·exact h.sum
   ·show (if _ then _ else _:List Fr).length≤2 * more0 (if _ then _ else _)+gone (e.strs.set k _)
    rw [hg]
    split
    ·rw [more0_app]; simp [more0]; omega
    ·omega
theorem beginM_keeps (e:En) (s:St):(beginM e s).1.room=e.room∧(beginM e s).1.wait=e.wait∧(beginM e s).1.strs=e.strs∧(beginM e s).2.1.state=s.state:=by unfold beginM; split <;> exact ⟨rfl,rfl,rfl,rfl⟩
theorem pieceM_keeps (e:En) (s:St):(pieceM e s).1.room=e.room∧(pieceM e s).1.wait=e.wait∧(pieceM e s).1.strs=e.strs∧(pieceM e s).2.1.state=s.state:=by unfold pieceM; split <;> exact ⟨rfl,rfl,rfl,rfl⟩
theorem sayM_room (e:En) (k:Nat):(sayM e k).1.room=e.room∧(sayM e k).1.wait=e.wait∧(sayM e k).1.strs.length=e.strs.length∧gone e.strs≤gone (sayM e k).1.strs:=by
 unfold sayM
 simp only
 split
 ·exact ⟨rfl,rfl,rfl,Nat.le_refl _⟩
 ·rename_i hc
  have hs:(stAt e k).state=1:=by simpa using fun q=>hc (.inl q)
  obtain ⟨b1,b2,b3,b4⟩:=beginM_keeps e (stAt e k)
  obtain ⟨c1,c2,c3,c4⟩:=pieceM_keeps (beginM e (stAt e k)).1 (beginM e (stAt e k)).2.1
  refine ⟨c1.trans b1,c2.trans b2,by simp [setSt,c3,b3],?_⟩
  simp only [setSt,c3,b3]
  refine gone_set _ _ _ (fun q=>?_)
  exact absurd (hs.symm.trans q) (by decide)
theorem saysM_room:∀(n k:Nat) (e:En),(saysM n k e).1.room=e.room∧(saysM n k e).1.wait=e.wait∧(saysM n k e).1.strs.length=e.strs.length∧gone e.strs≤gone (saysM n k e).1.strs
 | 0,k,e=>⟨rfl,rfl,rfl,Nat.le_refl _⟩
 | n+1,k,e=>by
  obtain ⟨a1,a2,a3,a4⟩:=sayM_room e k
  obtain ⟨b1,b2,b3,b4⟩:=saysM_room n (k+1) (sayM e k).1
  exact ⟨b1.trans a1,b2.trans a2,b3.trans a3,Nat.le_trans a4 b4⟩
theorem roomM_room (e:En) (f:Fr) (h:e.room+more0 [f]≤31):(roomM e f).room=e.room+more0 [f]∧(roomM e f).strs.length=e.strs.length∧gone e.strs≤gone (roomM e f).strs:=by
 unfold roomM
 split
 ·rename_i h8
  refine ⟨?_,rfl,Nat.le_refl _⟩
  simp [more0,h8]
 ·rename_i h8
  have h8:f.kind=8:=by simpa using h8
  split
  ·rename_i h0
   refine ⟨?_,rfl,Nat.le_refl _⟩
   simp only [more0,h8,h0,and_self,if_true,Nat.add_zero] at h ⊢
   omega
  ·rename_i h0
   have e0:more0 [f]=0:=by simp [more0,h0]
   rw [e0]
   split
   ·exact ⟨by simp,rfl,Nat.le_refl _⟩
   ·rename_i k hk
    exact ⟨by simp [setSt],by simp [setSt],gone_set _ _ _ (fun q=>q)⟩
theorem waitM_room:∀(l:List Fr) (e:En),e.room+more0 l≤31→(waitM e l).1.room=e.room+more0 l∧(waitM e l).1.strs.length=e.strs.length∧gone e.strs≤gone (waitM e l).1.strs
 | [],e,h=>⟨by simp [waitM,more0],rfl,Nat.le_refl _⟩
 | f :: l,e,h=>by
  have hm:more0 (f :: l)=more0 [f]+more0 l:=by simp [more0]
  obtain ⟨a1,a2,a3⟩:=roomM_room e f (by omega)
  obtain ⟨b1,b2,b3⟩:=waitM_room l (roomM e f) (by omega)
  exact ⟨by show (waitM (roomM e f) l).1.room=_; omega,b2.trans a2,Nat.le_trans a3 b3⟩
theorem writeM_loc {e:En} (h:Loc e):Loc (writeM e).1∧(writeM e).1.wait=[]:=by
 obtain ⟨a1,a2,a3⟩:=waitM_room e.wait e (by have:=h.sum; omega)
 obtain ⟨b1,b2,b3,b4⟩:=saysM_room e.strs.length 0 { (waitM e e.wait).1 with wait:=[] }
 have hw:(writeM e).1=(saysM e.strs.length 0 { (waitM e e.wait).1 with wait:=[] }).1:=rfl
 rw [hw]
 refine ⟨⟨?_,?_,?_⟩,b2⟩
 ·rw [b1,b2]; simp only [more0]; have:=h.sum; simp only [a1]; omega
 ·rw [b2]; simp [more0]
 ·rw [b3]; simp only [a2]; exact h.four
theorem doneM_state (ans:Bool) (s:St) (h:s.state=3):(doneM ans s).state=3:=by unfold doneM; rw [if_pos (by rw [h]; decide)]; exact h
theorem growM_loc {N:Nat} {e:En} (h:Loc e) (hw:EnW N e) {id:Int} (hid:strmOk id=true):Loc (growM e id):=by
 have hg:=growM_w hw hid
 have h4:=stsOk_len hg.sts
 revert h4
 unfold growM
 split
 ·intro h4
  refine ⟨h.sum,?_,h4⟩
  have:=h.len
  simp only [gone_app]; omega
 ·intro _; exact h
theorem headFM_loc {N:Nat} {e:En} (h:Loc e) (hw:EnW N e) {f:Fr} (hid:strmOk f.stream=true):Loc (headFM e f):=by
 unfold headFM
 have hg:=growM_loc h hw hid
 simp only
 split
 ·rename_i t hd k hr hk
  split
  ·exact hg.bad
  ·have hw:Loc { growM e f.stream with inn:=t }:=⟨hg.sum,hg.len,hg.four⟩
   refine hw.setSt (fun q=>?_)
   split
   ·exact doneM_state _ _ q
   ·exact q
 ·exact hg.bad
theorem dataM_loc {N:Nat} {e:En} (h:Loc e) (hw:EnW N e) {f:Fr}:Loc (dataM e f):=by
 unfold dataM
 split
 ·exact h.bad
 ·rename_i k hk
  obtain ⟨h1,h2⟩:=atM_some hk
  simp only
  split
  ·exact h.bad
  ·rename_i hc
   have c1:¬(f.body.length:Int) > e.room:=fun q=>hc (.inr (.inr (.inl q)))
   have hf:=flowOk_iff.1 hw.flow
   have hs:=(stOk_iff.1 (hw.st h1)).1
   have hi:(stAt e k).id≠0:=by rcases strmOk_cases hs with q | q | q | q <;> rw [q] <;> decide
   have hb:byteAt [by8 f.body.length] 0=f.body.length:=by8_toNat (by omega)
   have:=h.sum
   have:=h.len
   have hl:Loc { e with room:=e.room - f.body.length,wait:=if f.body=[] then e.wait else e.wait++[⟨8,false,0,[by8 f.body.length]⟩,⟨8,false,(stAt e k).id,[by8 f.body.length]⟩] }:=by
    by_cases hne:f.body=[]
    ·rw [if_pos hne]; rw [hne]; exact ⟨by simpa using h.sum,h.len,h.four⟩
    ·rw [if_neg hne]
     have hpos:=List.length_pos_iff.2 hne
     have hm:more0 (e.wait++[⟨8,false,0,[by8 f.body.length]⟩,⟨8,false,(stAt e k).id,[by8 f.body.length]⟩])=more0 e.wait+f.body.length:=by
      rw [more0_app]; simp [more0,hi,hb]
     refine ⟨?_,?_,h.four⟩
     ·simp only [hm]; omega
     ·simp only [hm]; rw [List.length_append]; simp only [List.length_cons,List.length_nil]; omega
   refine hl.setSt (fun q=>?_)
   split
   ·exact doneM_state _ _ q
   ·exact q
theorem moreM_loc {e:En} (h:Loc e) {f:Fr}:Loc (moreM e f):=by
 unfold moreM
 split
 ·exact ⟨h.sum,h.len,h.four⟩
 ·split
  ·exact h.bad
  ·rename_i k hk
   have hw:Loc { e with bad:=e.bad || decide ((stAt e k).send+byteAt f.body 0 > 31) }:=⟨h.sum,h.len,h.four⟩
   exact hw.setSt (fun q=>q)
theorem frameM_loc {N:Nat} {e:En} (h:Loc e) (hw:EnW N e) {f:Fr} (hf:frameOk f=true):Loc (frameM e f):=by
 unfold frameM
 split
 ·rename_i h1
  unfold frameOk at hf
  rw [if_pos (.inr h1)] at hf
  simp only [Bool.and_eq_true,decide_eq_true_eq] at hf
  exact headFM_loc h hw hf.1
 ·split
  ·exact dataM_loc h hw
  ·split
   ·exact moreM_loc h
   ·split
    ·exact h.bad
    ·split
     ·exact h.bad
     ·exact h.setSt (fun _=>rfl)
theorem hearsM_loc:∀(n N:Nat) (e:En),EnW N e→Loc e→Loc (hearsM n e)
 | 0,N,e,_,h=>h
 | n+1,N,e,hw,h=>by
  unfold hearsM
  split
  ·exact h
  ·simp only
   split
   ·exact h.bad
   ·split
    ·exact h
    ·rename_i h1 h2
     obtain ⟨g1,g2,g3,g4⟩:=frR_some (b:=e.came) (by omega)
     have hc:=hw.withCame (c:=e.came.drop (frR e.came).2.1) (by have:=hw.came; rw [List.length_drop]; omega)
     have hl:Loc { e with came:=e.came.drop (frR e.came).2.1 }:=⟨h.sum,h.len,h.four⟩
     exact hearsM_loc n (N+2) _ (frameM_w hc g1) (frameM_loc hl hc g1)
theorem hearM_loc {N:Nat} {e:En} (hw:EnW N e) (h:Loc e) {b:List UInt8} (hb:e.came.length+b.length≤600):Loc (hearM e b) :=
 hearsM_loc _ N _ (hw.withCame (by rw [List.length_append]; omega)) ⟨h.sum,h.len,h.four⟩
theorem hearWM_loc {N:Nat} {e:En} (hw:EnW N e) (h:Loc e) (b:List UInt8):Loc (hearWM e b):=by
 unfold hearWM
 split
 ·exact h
 ·rename_i hc
  have:¬e.came.length+b.length > 300:=fun q=>hc (.inr (.inl q))
  exact hearM_loc hw h (by omega)
theorem Loc.w {N:Nat} {e:En} (h:Loc e) (hw:EnW N e):EnW 36 e:=⟨hw.sts,hw.wait,hw.out,hw.inn,hw.flow,hw.came,h.wait (flowOk_iff.1 hw.flow).2.2.1⟩
structure WoL (w:Wo):Prop where
 caller:Loc w.caller
 answerer:Loc w.answerer
theorem WoL.w {N:Nat} {w:Wo} (h:WoL w) (hw:WoW N w):WoW 36 w:=⟨h.caller.w hw.caller,h.answerer.w hw.answerer,hw.calls,hw.answers,hw.up,hw.down⟩
theorem sayWM_loc {w:Wo} (h:WoL w) (side:Int):WoL (sayWM w side):=by
 unfold sayWM
 split
 ·split
  ·exact ⟨(writeM_loc h.caller).1,h.answerer⟩
  ·exact h
 ·split
  ·split
   ·exact ⟨h.caller,(writeM_loc h.answerer).1⟩
   ·exact h
  ·exact h
theorem passM_loc {N:Nat} {w:Wo} (hw:WoW N w) (h:WoL w) (way n:Int):WoL (passM w way n):=by
 unfold passM
 split
 ·split
  ·exact ⟨h.caller,hearWM_loc hw.answerer h.answerer _⟩
  ·split
   ·exact ⟨hearWM_loc hw.caller h.caller _,h.answerer⟩
   ·exact h
 ·exact h
theorem doM_loc {N:Nat} {w:Wo} (hw:WoW N w) (h:WoL w) (v:Ev):WoL (doM w v):=by
 unfold doM
 split
 ·exact ⟨callM_loc h.caller _ _,h.answerer⟩
 ·split
  ·exact ⟨leaveM_loc h.caller _,h.answerer⟩
  ·split
   ·exact sayWM_loc h _
   ·split
    ·exact passM_loc hw h _ _
    ·exact h
theorem doM_all {w:Wo} (hw:WoW 36 w) (h:WoL w) (v:Ev):WoW 36 (doM w v)∧WoL (doM w v):=by
 have h1:=doM_loc hw h v
 exact ⟨h1.w (doM_w (hw.mono (show 36≤642 by decide)) (Nat.le_refl _) v),h1⟩
theorem play_all:∀(l:List Ev) (w:Wo),WoW 36 w→WoL w→WoW 36 (l.foldl doM w)∧WoL (l.foldl doM w)
 | [],w,hw,h=>⟨hw,h⟩
 | v :: l,w,hw,h=>by
  obtain ⟨a,b⟩:=doM_all hw h v
  exact play_all l (doM w v) a b
theorem playM_all (l:List Ev):WoW 36 (playM l)∧WoL (playM l):=play_all l newWo (newWo_w.mono (by decide)) ⟨loc_new _,loc_new _⟩
theorem WoW.ok {w:Wo} (h:WoW 36 w):woOk w=true:=woOk_iff.2 (h.mono (by decide))
end
section
def Inc (e:En):Prop:=e.bad=true∨(frR e.came).2.2=0
theorem hearsM_stops:∀(n:Nat) (e:En),e.came.length < n→Inc (hearsM n e)
 | 0,e,h=>absurd h (Nat.not_lt_zero _)
 | n+1,e,h=>by
  unfold hearsM
  split
  ·rename_i hb; exact .inl hb
  ·simp only
   split
   ·exact .inl rfl
   ·split
    ·rename_i h0; exact .inr h0
    ·rename_i h1 h2
     obtain ⟨g1,g2,g3,g4⟩:=frR_some (b:=e.came) (by omega)
     refine hearsM_stops n _ ?_
     rw [frameM_came]
     simp only [List.length_drop]; omega
theorem hearM_inc (e:En) (b:List UInt8):Inc (hearM e b):=hearsM_stops _ _ (by simp)
theorem hearWM_inc {e:En} (h:Inc e) (b:List UInt8):Inc (hearWM e b):=by
 unfold hearWM
 split
 ·exact h
 ·exact hearM_inc e b
theorem hearsM_idle {e:En} (h:Inc e):∀n,hearsM n e=e
 | 0=>rfl
 | n+1=>by
  unfold hearsM
  rcases h with h | h
  ·rw [if_pos h]
  ·split
   ·rfl
   ·simp only
    rw [if_neg (by omega),if_pos h]
theorem hearM_idle {e:En} (h:Inc e):hearM e []=e:=by
 unfold hearM
 simp only [List.append_nil]
 exact hearsM_idle h _
theorem hearWM_idle {e:En} (h:Inc e):hearWM e []=e:=by
 unfold hearWM
 split
 ·rfl
 ·exact hearM_idle h
theorem saysM_cb:∀(n k:Nat) (e:En),(saysM n k e).1.came=e.came∧(saysM n k e).1.bad=e.bad
 | 0,k,e=>⟨rfl,rfl⟩
 | n+1,k,e=>by
  obtain ⟨b1,b2⟩:=saysM_cb n (k+1) (sayM e k).1
  have a:(sayM e k).1.came=e.came∧(sayM e k).1.bad=e.bad:=by
   unfold sayM
   simp only
   split
   ·exact ⟨rfl,rfl⟩
   ·have h1:∀x s,(beginM x s).1.came=x.came∧(beginM x s).1.bad=x.bad:=fun x s=>by unfold beginM; split <;> exact ⟨rfl,rfl⟩
    have h2:∀x s,(pieceM x s).1.came=x.came∧(pieceM x s).1.bad=x.bad:=fun x s=>by unfold pieceM; split <;> exact ⟨rfl,rfl⟩
    exact ⟨(h2 _ _).1.trans (h1 _ _).1,(h2 _ _).2.trans (h1 _ _).2⟩
  exact ⟨b1.trans a.1,b2.trans a.2⟩
theorem waitM_cb:∀(l:List Fr) (e:En),(waitM e l).1.came=e.came∧(waitM e l).1.bad=e.bad
 | [],e=>⟨rfl,rfl⟩
 | f :: l,e=>by
  obtain ⟨b1,b2⟩:=waitM_cb l (roomM e f)
  have a:(roomM e f).came=e.came∧(roomM e f).bad=e.bad:=by
   unfold roomM
   split
   ·exact ⟨rfl,rfl⟩
   ·split
    ·exact ⟨rfl,rfl⟩
    ·split <;> exact ⟨rfl,rfl⟩
  exact ⟨b1.trans a.1,b2.trans a.2⟩
theorem writeM_cb (e:En):(writeM e).1.came=e.came∧(writeM e).1.bad=e.bad:=by
 obtain ⟨a1,a2⟩:=waitM_cb e.wait e
 obtain ⟨b1,b2⟩:=saysM_cb e.strs.length 0 { (waitM e e.wait).1 with wait:=[] }
 exact ⟨b1.trans a1,b2.trans a2⟩
theorem callM_cb (e:En) (p t:List UInt8):(callM e p t).1.came=e.came∧(callM e p t).1.bad=e.bad:=by unfold callM; split <;> exact ⟨rfl,rfl⟩
theorem leaveM_cb (e:En) (id:Int):(leaveM e id).1.came=e.came∧(leaveM e id).1.bad=e.bad:=by
 unfold leaveM
 split
 ·exact ⟨rfl,rfl⟩
 ·split <;> exact ⟨rfl,rfl⟩
theorem Inc.of {e x:En} (h:Inc e) (hx:x.came=e.came∧x.bad=e.bad):Inc x:=by unfold Inc at *; rw [hx.1,hx.2]; exact h
structure WoI (w:Wo):Prop where
 caller:Inc w.caller
 answerer:Inc w.answerer
theorem doM_inc {w:Wo} (h:WoI w) (v:Ev):WoI (doM w v):=by
 unfold doM
 split
 ·exact ⟨h.caller.of (callM_cb _ _ _),h.answerer⟩
 ·split
  ·exact ⟨h.caller.of (leaveM_cb _ _),h.answerer⟩
  ·split
   ·unfold sayWM
    split
    ·split
     ·exact ⟨h.caller.of (writeM_cb _),h.answerer⟩
     ·exact h
    ·split
     ·split
      ·exact ⟨h.caller,h.answerer.of (writeM_cb _)⟩
      ·exact h
     ·exact h
   ·split
    ·unfold passM
     split
     ·split
      ·exact ⟨h.caller,hearWM_inc h.answerer _⟩
      ·split
       ·exact ⟨hearWM_inc h.caller _,h.answerer⟩
       ·exact h
     ·exact h
    ·exact h
theorem newEn_inc (a:Bool):Inc (newEn a):=.inr rfl
theorem play_inc:∀(l:List Ev) (w:Wo),WoI w→WoI (l.foldl doM w)
 | [],w,h=>h
 | v :: l,w,h=>play_inc l (doM w v) (doM_inc h v)
theorem playM_inc (l:List Ev):WoI (playM l):=play_inc l newWo ⟨newEn_inc _,newEn_inc _⟩
structure WoP (w:Wo):Prop where
 loc:WoL w
 inc:WoI w
theorem playM_p (l:List Ev):WoP (playM l):=⟨(playM_all l).2,playM_inc l⟩
def WoAll (w:Wo):Prop:=WoW 36 w∧WoP w
theorem WoP.all {w:Wo} (h:WoP w) (hok:woOk w=true):WoAll w:=⟨h.loc.w (woOk_iff.1 hok),h⟩
theorem WoAll.step {w:Wo} (h:WoAll w) (v:Ev):WoAll (doM w v):=⟨(doM_all h.1 h.2.loc v).1,(doM_all h.1 h.2.loc v).2,doM_inc h.2.inc v⟩
theorem WoAll.ok {w:Wo} (h:WoAll w):woOk w=true:=h.1.ok
end
end Go.Proofs.YtdplmibomopkcaaGreatDoor
