/- A part of the proof: contracts of functions, or plain facts on which these lean. -/
import Derived.Test.YtaamlddnpamomaaGreatDoorMf31
namespace Go.Proofs.YtaamlddnpamomaaGreatDoor
open Go
set_option linter.unusedVariables false
set_option linter.unusedSimpArgs false
set_option maxRecDepth 100000
set_option maxHeartbeats 16000000

section
open Go
section
variable {P:Program} {D:Nat→TD}
theorem Rel.nhCell {G:Gh} {w:World} {S:List Blk} (hR:Rel G w S) {p m sz:Nat} {cs ds:List V} (hp:S[p]?=some (.cells m cs)) (hl:cs.length=ds.length) (h:∀(i:Nat) (v u:V),cs[i]?=some v→ds[i]?=some u→NH S.length v u) :
  ∃G',Rel G' w (S.set p (.cells m ds)++[.cells sz []])∧Evol G w S G' w (S.set p (.cells m ds)++[.cells sz []]):=by
 obtain ⟨h1,h2⟩:=hR.pushNil sz (.cells sz []) (fun z cs e=>by cases e; rfl)
 have hlt:=lt_of_some hp
 have hp':(S++[Blk.cells sz []])[p]?=some (.cells m cs):=by rw [List.getElem?_append_left hlt]; exact hp
 have hset:S.set p (.cells m ds)++[Blk.cells sz []]=(S++[Blk.cells sz []]).set p (.cells m ds):=by rw [List.set_append_left _ _ hlt]
 rw [hset]
 cases hk:(G.pushNil sz).ok p with
 | false =>
  have hcs:=h1.vac p m cs hp' hk
  subst hcs
  have hds:ds=[]:=List.length_eq_zero_iff.1 hl.symm
  subst hds
  have he:(S++[Blk.cells sz []]).set p (.cells m [])=S++[Blk.cells sz []]:=by
   apply List.ext_getElem?
   intro j
   rw [List.getElem?_set]
   by_cases e:p=j
   ·subst e
    rw [if_pos rfl,if_pos (lt_of_some hp'),hp']
   ·rw [if_neg e]
  rw [he]
  exact ⟨_,h1,h2⟩
 | true =>
  obtain ⟨arr,ty,g1,g2,g3,g4,g5,g6⟩:=h1.live p _ hp' rfl hk
  obtain ⟨t1,t2⟩:=h1.touch (B':=.cells m ds) hp' rfl hk (⟨rfl,rfl,rfl,rfl,fun _ _=>rfl⟩:But w w ((G.pushNil sz).blk p)) g2 rfl (fun he=>⟨arr,ty,g1,g2,g3,by omega,g5,fun i v u hv hu=>by
   have hi:=List.getElem?_eq_some_iff.1 hv
   obtain ⟨hi,_⟩:=hi
   have hc:cs[i]?=some (cs[i]'(by omega)):=List.getElem?_eq_getElem _
   have:=g6 i _ u hc hu
   exact ⟨(h i _ v hc hv).ok (Ext.refl _ _) (by simp [Gh.pushNil,hR.n]) this.1,this.2⟩⟩)
  exact ⟨_,t1,h2.trans t2⟩
theorem wpV_ghost {N:Nat} {c:Code} {k:Exit→(Nat→V)→List Blk→Prop} {t:Nat→V} {S S1:List Blk} (hg:∀(G:Gh) (w:World),Rel G w S→∃G',Rel G' w S1∧Evol G w S G' w S1) (h:wpV P D N c k t S1):wpV P D N c k t S:=by
 intro hc
 obtain ⟨e,t',S',hk,hr⟩:=h hc
 refine ⟨e,t',S',hk,fun G a w Q ha hR hQ=>?_⟩
 obtain ⟨G1,h1,h2⟩:=hg G w hR
 exact hr G1 a w Q (ha.ext h2.ext) h1 (fun a' w' G' p1 p2 p3=>hQ a' w' G' p1 p2 (h2.trans p3))
end
theorem NH.at_ {n:Nat} {cs:List V} {i:Nat} (h:cs[i]?=some .nils) (j:Nat) (v u:V) (hv:cs[j]?=some v) (hu:(cs.set i (.heap n 0))[j]?=some u):NH n v u:=by
 rw [List.getElem?_set] at hu
 by_cases e:i=j
 ·subst e
  rw [h] at hv
  cases hv
  rw [if_pos rfl,if_pos (List.getElem?_eq_some_iff.1 h).1] at hu
  cases hu
  exact .nil
 ·rw [if_neg e,hv] at hu
  cases hu
  exact .refl _
theorem hDw:TypesOk Tryz.prog (bldOf (wrOf D [39,41]) [98]):=bldOk (wrOk hD _) _ (by
 intro t ht hk
 simp at ht
 subst ht
 cases hk)
theorem BdAt.app {S:List Blk} {n b:Nat} {s:List UInt8} (h:BdAt S n b s) (X:List Blk):BdAt (S++X) n b s:=by
 obtain ⟨h1,addr,buf,h2,h3,h4⟩:=h
 refine ⟨h1,addr,buf,by rw [List.getElem?_append_left (lt_of_some h2)]; exact h2,h3,?_⟩
 rcases h4 with h4 | ⟨q,q1,q2,q3,q4,q5⟩
 ·exact .inl h4
 ·exact .inr ⟨q,q1,q2,q3,by rw [List.getElem?_append_left (lt_of_some q4)]; exact q4,q5⟩
theorem BdAt.upd {S S':List Blk} {n b:Nat} {s:List UInt8} (h:BdAt S n b s) {bs:List Nat} (hu:Upd bs S S') (hb:∀j ∈ bs,∃m cs,S[j]?=some (.cells m cs)∧m < 1000000):BdAt S' n b s:=by
 have key:∀(j m:Nat) (cs:List V),S[j]?=some (.cells m cs)→1000000≤m→S'[j]?=some (.cells m cs):=by
  intro j m cs hj hm
  rw [hu.2 j (lt_of_some hj) ?_]
  ·exact hj
  ·intro hmem
   obtain ⟨m',cs',h1,h2⟩:=hb j hmem
   rw [hj] at h1
   cases h1
   omega
 obtain ⟨h1,addr,buf,h2,h3,h4⟩:=h
 refine ⟨h1,addr,buf,key _ _ _ h2 (by decide),h3,?_⟩
 rcases h4 with h4 | ⟨q,q1,q2,q3,q4,q5⟩
 ·exact .inl h4
 ·exact .inr ⟨q,q1,q2,q3,key _ _ _ q4 (by decide),q5⟩
theorem PtrAt.updU {S S':List Blk} {n p b c:Nat} {e:En} (h:PtrAt S p b c e) (hu:UpdU n S S'):PtrAt S' p b c e :=
 ⟨hu.2 _ _ h.var (.inr (by simp [Unm])),hu.2 _ _ h.at_.1 (.inr (by simp [Unm])),hu.2 _ _ h.at_.2 (.inr (by simp [Unm]))⟩
theorem BdAt.updP {S S':List Blk} {n bb p b c b' c':Nat} {s:List UInt8} {e e':En} (h:BdAt S n bb s) (hp:PtrAt S p b c e) (hu:PtrTo S p b c e' b' c' S'):BdAt S' n bb s :=
 h.upd hu.upd (by
  intro j hj
  simp only [List.mem_cons,List.not_mem_nil,or_false] at hj
  rcases hj with rfl | rfl | rfl
  ·exact ⟨_,_,hp.var,by decide⟩
  ·exact ⟨_,_,hp.at_.1,by decide⟩
  ·exact ⟨_,_,hp.at_.2,by decide⟩)
theorem Upd.ofU {n:Nat} {S S1 S2:List Blk} (h:Upd [] S S1) (hn:S.length≤n) (hu:UpdU n S1 S2):Upd [] S S2 :=
 ⟨Nat.le_trans h.1 hu.1,fun j hj hm=>by
  have h1:=h.2 j hj hm
  have h2:S[j]?=some S[j]:=List.getElem?_eq_getElem hj
  rw [h2] at h1 ⊢
  exact hu.2 j _ h1 (.inl (by omega))⟩
theorem Upd.ofP {S S1 S2:List Blk} {p b c b' c':Nat} {e:En} (h:Upd [] S S1) (hu:PtrTo S1 p b c e b' c' S2) (h1:S.length≤p) (h2:S.length≤b) (h3:S.length≤c):Upd [] S S2 :=
 h.then_ hu.upd (fun j hj hm=>by simp only [List.mem_cons,List.not_mem_nil,or_false] at hm; omega)
theorem EndWrite_ok {e:En} (he:EnB e) {S:List Blk} {b c:Nat} (h:EnAt S b c e):VCall Tryz.prog 25 [eV b c e] S fun r S' =>
  ∃v,r=.tup [v,.str (endWriteM e).2]∧RNew S (endWriteM e).1 v S':=by
 have hok:=fun X=>EndOk_ok he (h.app X)
 have hcp:=fun X=>eclone_ok he (h.app X)
 refine VCall.en hDw Tryz.func25 Tryz.ntmps25 Tryz.results25 ?_
 simp -implicitDefEqProofs (disch:=omega) only [push_cast,simprocAttr,↓gd]
 refine ((hok _).as (by simp [eV,enV,enC])).to ?_
 cases hE:endOk e
 ·rw [endWriteM,if_pos hE]
  simp -implicitDefEqProofs (disch:=omega) only [push_cast,simprocAttr,↓gd]
  exact RNew.zeroT (by simp [Plain])
 have hW:=endOk_w hE
 rw [endWriteM,if_neg (by rw [hE]; simp)]
 simp -implicitDefEqProofs (disch:=omega) only [push_cast,simprocAttr,↓gd]
 refine ((hcp _).as (by simp [eV,enV,enC])).mono ?_
 rintro r S1 ⟨b',c',rfl,hn⟩
 have k0:S1[S.length]?=some (.cells 0 (enC (.heap b e.strs.length) (.heap c e.wait.length) e)):=hn.upd.get (by simp -implicitDefEqProofs (disch:=omega) only [push_cast,simprocAttr,↓gd]) (by simp)
 have k1:S1[S.length+1]?=some (.cells 0 zE):=hn.upd.get (by simp -implicitDefEqProofs (disch:=omega) only [push_cast,simprocAttr,↓gd]) (by simp)
 have l0:=lt_of_some k0
 have l1:=lt_of_some k1
 have hx:=hn.app
 have hb1:=hn.hb; have hc1:=hn.hc
 simp at hb1 hc1
 rcases Bool.eq_false_or_eq_true e.bad with hbd | hbd
 ·rw [if_pos hbd]
  simp -implicitDefEqProofs (disch:=omega) only [push_cast,simprocAttr,k0,k1,hbd,↓gd]
  refine ⟨_,_,Wk.refl _ _ _,_,rfl,b',c',?_,(hx.set (j:=S.length+1) _ (by omega) (by omega) (by omega)).appR _⟩
  simp [eV,enV,enC,hbd]
 rw [if_neg (by rw [hbd]; simp)]
 have hst:∀i,EnW 60 (waitM e (e.wait.take i)).1∧(waitM e (e.wait.take i)).1.strs.length=e.strs.length∧(waitM e (e.wait.take i)).1.wait=e.wait:=fun i=>waitM_w _ _ hW
 have hol:∀i,(waitM e (e.wait.take i)).2.length≤(e.wait.take i).length * 300:=fun i=>waitM_len (N:=60) _ _ (fun f hf=>hW.wait f (List.mem_of_mem_take hf))
 have hwl:=hW.len
 simp -implicitDefEqProofs (disch:=omega) only [push_cast,simprocAttr,k0,k1,hbd,↓gd]
 refine wpV_loop (fun m t S2=>∃i:Nat,m=e.wait.length - i∧i≤e.wait.length∧t 2=.ptr (S.length+1) 0∧t 4=.ptr S1.length 0∧t 5=.ptr (S1.length+1) 0∧t 20=.heap c' e.wait.length∧t 21=.int .i64 e.wait.length∧t 22=.int .i64 i ∧
  PtrAt S2 S1.length b' c' (waitM e (e.wait.take i)).1∧BdAt S2 S.length (S1.length+1) (waitM e (e.wait.take i)).2∧S2[S.length+1]?=some (.cells 0 zE)∧Upd [] S S2) e.wait.length
  ⟨0,by omega,by omega,rfl,rfl,rfl,rfl,rfl,rfl,⟨?_,?_⟩,⟨by omega,.nilp,.nils,?_,.inl rfl,.inl ⟨rfl,rfl⟩⟩,?_,hx.upd.app _⟩ ?_
 ·simp -implicitDefEqProofs (disch:=omega) only [push_cast,simprocAttr,↓gd]
  simp [waitM,enC,hbd]
 ·exact hn.at_.app _
 ·simp -implicitDefEqProofs (disch:=omega) only [push_cast,simprocAttr,↓gd]
 ·simp -implicitDefEqProofs (disch:=omega) only [push_cast,simprocAttr,k1,↓gd]
 rintro m t S2 ⟨i,rfl,hi,h2,h4,h5,h20,h21,h22,hpt,hbdr,kz,hup⟩
 obtain ⟨hEw,hEs,hEl⟩:=hst i
 have hoi:=hol i
 have hti:(e.wait.take i).length=i:=by simp; omega
 generalize hE:waitM e (e.wait.take i)=E at *
 obtain ⟨E,o⟩:=E
 simp only at *
 have hvar:=hpt.var
 have hcw:=hpt.at_.2
 rw [hEl] at hcw
 rw [hEl,hEs] at hvar
 obtain ⟨n1,n2,n3,n4,n5,n6⟩:=hpt.nes
 have lz:=lt_of_some kz
 refine wpV_of0 hDw ?_
 simp -implicitDefEqProofs (disch:=omega) only [push_cast,simprocAttr,h2,h4,h5,h20,h21,h22,↓gd]
 refine ⟨fun hlt=>?_,fun hlt=>?_⟩
 ·have hil:i < e.wait.length:=by omega
  have hat:=frmsC_at hil
  have hlw:=frmsC_len e.wait
  have hfk:=hW.wait _ (getD_memF hil)
  simp -implicitDefEqProofs (disch:=omega) only [push_cast,simprocAttr,h2,h4,h5,h20,h21,h22,hcw,hat,↓gd]
  repeat refine And.intro (by omega) ?_
  refine ((FrameWrite_ok (e.wait.getD i fr0) _).as rfl).to ?_
  rw [if_pos hfk]
  have hfp:=(frameOk_nat hfk).2.2
  have hstep:=waitM_snoc (e.wait.take i) (e.wait.getD i fr0) e
  rw [hE,←take_fr hil] at hstep
  simp only at hstep
  simp -implicitDefEqProofs (disch:=omega) only [push_cast,simprocAttr,h2,h4,h5,h20,h21,h22,hcw,hat,↓gd]
  refine ((WriteString_ok (hbdr.app _) (by simp; omega) (frW (e.wait.getD i fr0)) (by omega) (by rw [frW_len]; omega)).as rfl).mono ?_
  rintro r S3 ⟨hb3,hu3⟩
  have hpt3:=(hpt.app _).updU hu3
  have kz3:=hu3.2 (S.length+1) (.cells 0 zE) (by rw [List.getElem?_append_left lz]; exact kz) (.inr (by simp [Unm]))
  generalize hf:e.wait.getD i fr0=f at *
  have kf:S3[S2.length]?=some (.cells 0 [V.int IntKind.i64 f.kind,V.bool f.last,V.int IntKind.i64 f.stream,V.str f.body]):=hu3.2 _ _ (by simp -implicitDefEqProofs (disch:=omega) only [push_cast,simprocAttr,↓gd]) (.inr (by simp [Unm]))
  have hup3:=(hup.app _).ofU (Nat.le_refl _) hu3
  simp -implicitDefEqProofs (disch:=omega) only [push_cast,simprocAttr,h2,h4,h5,h20,h21,h22,kf,↓gd]
  refine ((widen_ok hEw (by omega) hfk hpt3).as rfl).mono ?_
  rintro r S4 ⟨rfl,hto⟩
  have hb4:=hb3.updP hpt3 hto
  have hup4:=hup3.ofP hto (by omega) (by omega) (by omega)
  have kz4:=hto.upd.get kz3 (by simp; omega)
  simp -implicitDefEqProofs (disch:=omega) only [push_cast,simprocAttr,h2,h4,h5,h20,h21,h22,↓gd]
  exact ⟨e.wait.length - (i+1),by omega,i+1,rfl,by omega,by simp,by rw [hstep]; exact hto.at_,by rw [hstep]; exact hb4,kz4,hup4⟩
 ·have:i=e.wait.length:=by omega
  subst this
  rw [List.take_length] at hE
  have hw0:=hEw.noWait
  have hwe:writeM e=((saysM e.strs.length 0 { E with wait:=[] }).1,o++(saysM e.strs.length 0 { E with wait:=[] }).2):=by rw [writeM_eq,hE]
  rw [hwe]
  have hns0:({ E with wait:=[] }:En).strs.length=e.strs.length:=hEs
  have hel:=hW.b (by decide)
  have hel:=hel.len
  simp -implicitDefEqProofs (disch:=omega) only [push_cast,simprocAttr,h2,h4,h5,h20,h21,h22,hvar,↓gd]
  have hpt0:PtrAt ((S2.set S1.length (.cells 0 (enC (.heap b' e.strs.length) .nils { E with wait:=[] }))).set S1.length (.cells 0 (enC (.heap b' e.strs.length) (.heap S2.length 0) { E with wait:=[] }))++[.cells 4 []]) S1.length b' S2.length { E with wait:=[] }:=by
   have hb2:=hpt.at_.1
   refine ⟨?_,?_,?_⟩
   ·simp -implicitDefEqProofs (disch:=omega) only [push_cast,simprocAttr,↓gd]
    rw [hEs]
   ·simp -implicitDefEqProofs (disch:=omega) only [push_cast,simprocAttr,hb2,↓gd]
   ·simp -implicitDefEqProofs (disch:=omega) only [push_cast,simprocAttr,↓gd]
    rfl
  have hbd0:=(hbdr.upd (((Upd.refl [S1.length] S2).set (i:=S1.length) (.cells 0 (enC (.heap b' e.strs.length) .nils { E with wait:=[] })) (.inr (by simp))).set (i:=S1.length) (.cells 0 (enC (.heap b' e.strs.length) (.heap S2.length 0) { E with wait:=[] })) (.inr (by simp))) (fun j hj=>by obtain rfl:=List.mem_singleton.1 hj; exact ⟨_,_,hpt.var,by decide⟩)).app [.cells 4 []]
  have kz0:((S2.set S1.length (.cells 0 (enC (.heap b' e.strs.length) .nils { E with wait:=[] }))).set S1.length (.cells 0 (enC (.heap b' e.strs.length) (.heap S2.length 0) { E with wait:=[] }))++[.cells 4 []])[S.length+1]?=some (.cells 0 zE):=by simp -implicitDefEqProofs (disch:=omega) only [push_cast,simprocAttr,kz,↓gd]
  have hup0:Upd [] S ((S2.set S1.length (.cells 0 (enC (.heap b' e.strs.length) .nils { E with wait:=[] }))).set S1.length (.cells 0 (enC (.heap b' e.strs.length) (.heap S2.length 0) { E with wait:=[] }))++[.cells 4 []]) :=
   ((hup.set _ (.inl (by omega))).set _ (.inl (by omega))).app _
  obtain ⟨S3,hS3⟩:∃S3,S3=(S2.set S1.length (.cells 0 (enC (.heap b' e.strs.length) .nils { E with wait:=[] }))).set S1.length (.cells 0 (enC (.heap b' e.strs.length) (.heap S2.length 0) { E with wait:=[] }))++[.cells 4 []]:=⟨_,rfl⟩
  rw [←hS3] at hpt0 hbd0 kz0 hup0
  refine wpV_ghost (S1:=S3) (fun G w hR=>?_) ?_
  ·rw [hS3]
   have hat9:=NH.at_ (n:=S2.length) (cs:=enC (.heap b' e.strs.length) .nils { E with wait:=[] }) (i:=9) rfl
   refine hR.nhCell (p:=S1.length) (m:=0) (sz:=4) (cs:=enC (.heap b' e.strs.length) .nils { E with wait:=[] }) (ds:=enC (.heap b' e.strs.length) (.heap S2.length 0) { E with wait:=[] }) ?_ rfl ?_
   ·simp -implicitDefEqProofs (disch:=omega) only [push_cast,simprocAttr,↓gd]
   ·rw [List.length_set]
    exact hat9
  generalize hF:({ E with wait:=[] }:En)=F at hpt0 hw0 hns0
  have hk1:∀n,n≤e.strs.length→EnW 0 (saysM n 0 F).1∧(saysM n 0 F).1.strs.length=e.strs.length∧(saysM n 0 F).2.length≤n * 2000:=fun n hn=>⟨(saysM_w n 0 F hw0 (by omega)).1,by rw [(saysM_w n 0 F hw0 (by omega)).2,hns0],saysM_len n 0 F hw0 (by omega)⟩
  have hol2:o.length≤e.wait.length * 300:=Nat.le_trans hoi (Nat.mul_le_mul_right _ (by simp))
  have hs4:=stsOk_len hW.sts
  have l3:=lt_of_some kz0
  have lv:=lt_of_some hpt0.var
  refine wpV_loop (fun m t S4=>∃n:Nat,m=e.strs.length - n∧n≤e.strs.length∧t 2=.ptr (S.length+1) 0∧t 4=.ptr S1.length 0∧t 5=.ptr (S1.length+1) 0∧t 35=.int .i64 e.strs.length∧t 36=.int .i64 n ∧
   PtrAt S4 S1.length b' S2.length (saysM n 0 F).1∧BdAt S4 S.length (S1.length+1) (o++(saysM n 0 F).2)∧S4[S.length+1]?=some (.cells 0 zE)∧Upd [] S S4) e.strs.length
   ⟨0,by omega,by omega,h2,h4,h5,rfl,rfl,by simpa [saysM] using hpt0,by have:(saysM 0 0 F).2=[]:=rfl; rw [this,List.append_nil]; exact hbd0,kz0,hup0⟩ ?_
  rintro m t S4 ⟨n,rfl,hn',h2,h4,h5,h35,h36,hpt,hbdr,kz,hup⟩
  obtain ⟨hXw,hXs,hXl⟩:=hk1 n hn'
  have hsn:=saysM_snoc n 0 F
  rw [Nat.zero_add] at hsn
  generalize hX:saysM n 0 F=X at *
  obtain ⟨X,q⟩:=X
  simp only at *
  have hvar:=hpt.var
  have hbs:=hpt.at_.1
  rw [hXs] at hvar
  obtain ⟨n1,n2,n3,n4,n5,n6⟩:=hpt.nes
  have lz:=lt_of_some kz
  refine wpV_of0 hDw ?_
  simp -implicitDefEqProofs (disch:=omega) only [push_cast,simprocAttr,h2,h4,h5,h35,h36,↓gd]
  refine ⟨fun hlt=>?_,fun hlt=>?_⟩
  ·have hil:n < X.strs.length:=by omega
   have hlen:=strsC_len X.strs
   have g1:=strsC_get hil (c:=1) (by decide)
   have g2:=strsC_get hil (c:=2) (by decide)
   have g5:=strsC_get hil (c:=5) (by decide)
   have hm0:∀s,X.strs.getD n st0=s→(stAt X n=s∧sayM X n=if s.state≠1∨s.head=[]∨s.said=true then (X,[]) else sayE X n s):=fun s hs=>by subst hs; exact ⟨rfl,rfl⟩
   have hol:=hXw.sts
   have hlw:=sayM_len hXw hil
   have hYs:(sayM X n).1.strs.length=e.strs.length:=by rw [(sayM_w hXw hil).2]; exact hXs
   generalize hs:X.strs.getD n st0=s at g1 g2 g5
   obtain ⟨hs0,hm0⟩:=hm0 s hs
   obtain ⟨sid,sst,shd,ssay,sbg,ssd,ssent,sgot,stx,shrd,ssnd,srm⟩:=s
   have next:∀S5,(sayM X n)=(X,[])→S5=S4→∃m',m' < e.strs.length - n∧∃j:Nat,m'=e.strs.length - j∧j≤e.strs.length∧V.int .i64 ((n:Int)+1)=V.int .i64 (j:Int)∧PtrAt S5 S1.length b' S2.length (saysM j 0 F).1∧BdAt S5 S.length (S1.length+1) (o++(saysM j 0 F).2)∧S5[S.length+1]?=some (.cells 0 zE)∧Upd [] S S5:=by
    rintro S5 hq rfl
    rw [hq] at hsn
    refine ⟨e.strs.length - (n+1),by omega,n+1,rfl,by omega,by simp,?_,?_,kz,hup⟩
    ·rw [hsn]; exact hpt
    ·rw [hsn]; simpa using hbdr
   by_cases hst:sst=1
   ·by_cases hhd:shd=[]
    ·rw [if_pos (by simp [hhd])] at hm0
     subst hhd
     simp -implicitDefEqProofs (disch:=omega) only [push_cast,simprocAttr,h2,h4,h5,h35,h36,hvar,hbs,g1,g2,hst,↓gd]
     exact ⟨by omega,by omega,next _ hm0 rfl⟩
    ·have hpos:=List.length_pos_iff.2 hhd
     have hgt:(shd.length:Int) > 0:=by omega
     cases ssd
     ·rw [if_neg (by simp [hhd,hst])] at hm0
      simp -implicitDefEqProofs (disch:=omega) only [push_cast,simprocAttr,h2,h4,h5,h35,h36,hvar,hbs,g1,g2,g5,hst,hgt,↓gd]
      repeat refine And.intro (by omega) ?_
      refine ((say_ok hXw (by omega) hil (by rw [hs0]; exact hst) (by rw [hs0]) hpt).as rfl).mono ?_
      rintro r S5 ⟨rfl,hto⟩
      rw [hs0,←hm0] at hto ⊢
      have hb5:=hbdr.updP hpt hto
      have hup5:=hup.ofP hto (by omega) (by omega) (by omega)
      have kz5:=hto.upd.get kz (by simp; omega)
      clear hm0 hs0 next
      generalize hY:sayM X n=Y at *
      obtain ⟨Y,u⟩:=Y
      simp only at *
      simp -implicitDefEqProofs (disch:=omega) only [push_cast,simprocAttr,h2,h4,h5,h35,h36,↓gd]
      refine ((WriteString_ok hb5 (by have:=hup5.1; omega) u (by rw [List.length_append]; omega) (by omega)).as rfl).mono ?_
      rintro r S6 ⟨hb6,hu6⟩
      have hpt6:=hto.at_.updU hu6
      have kz6:=hu6.2 _ _ kz5 (.inr (by simp [Unm]))
      have hup6:=hup5.ofU (Nat.le_refl _) hu6
      simp -implicitDefEqProofs (disch:=omega) only [push_cast,simprocAttr,h2,h4,h5,h35,h36,↓gd]
      refine ⟨e.strs.length - (n+1),by omega,n+1,rfl,by omega,by simp,?_,?_,kz6,hup6⟩
      ·rw [hsn]; exact hpt6
      ·rw [hsn]; simpa using hb6
     ·rw [if_pos (by simp)] at hm0
      simp -implicitDefEqProofs (disch:=omega) only [push_cast,simprocAttr,h2,h4,h5,h35,h36,hvar,hbs,g1,g2,g5,hst,hgt,↓gd]
      exact ⟨by omega,by omega,next _ hm0 rfl⟩
   ·rw [if_pos (by simp [hst])] at hm0
    simp -implicitDefEqProofs (disch:=omega) only [push_cast,simprocAttr,h2,h4,h5,h35,h36,hvar,hbs,g1,hst,↓gd]
    exact ⟨by omega,by omega,next _ hm0 rfl⟩
  ·have:n=e.strs.length:=by omega
   subst this
   rw [hX]
   simp -implicitDefEqProofs (disch:=omega) only [push_cast,simprocAttr,h2,h4,h5,h35,h36,hvar,↓gd]
   refine ((eclone_ok (hXw.b (by decide)) hpt.at_).as (by simp [eV,enV,enC,hXs])).mono ?_
   rintro r S5 ⟨b5,c5,rfl,q5⟩
   have hb5:=hbdr.upd q5.upd (by simp)
   have kz5:=q5.upd.get kz (by simp)
   simp -implicitDefEqProofs (disch:=omega) only [push_cast,simprocAttr,h2,h4,h5,↓gd]
   refine ((String_ok hb5 (by rw [List.length_append]; omega)).as rfl).mono ?_
   rintro r S6 ⟨rfl,hu6⟩
   have kz6:=hu6.2 _ _ kz5 (.inr (by simp [Unm]))
   have lz6:=lt_of_some kz6
   have hat6:EnAt S6 b5 c5 X:=⟨hu6.2 _ _ q5.at_.1 (.inr (by simp [Unm])),hu6.2 _ _ q5.at_.2 (.inr (by simp [Unm]))⟩
   have e1:=q5.hb; have e2:=q5.hc; have e3:=hup.1
   have hup6:Upd [] S S6:=(hup.trans q5.upd).ofU (Nat.le_refl _) hu6
   have v1:=cells_ne hat6.1 kz6 (by decide)
   have v2:=cells_ne hat6.2 kz6 (by decide)
   have q6:EnNew S X b5 c5 S6:=⟨hat6,by omega,by omega,hup6⟩
   simp -implicitDefEqProofs (disch:=omega) only [push_cast,simprocAttr,h2,kz6,↓gd]
   exact ⟨_,_,Wk.refl _ _ _,_,rfl,b5,c5,by simp [eV,enV,enC,hXs],q6.set (j:=S.length+1) _ (by omega) v1 v2⟩
end
section
open Go
theorem WorldNew_ok (S:List Blk):VCall Tryz.prog 77 [] S fun r S'=>RWNew S newWo r S':=by
 refine VCall.en hDe Tryz.func77 Tryz.ntmps77 Tryz.results77 ?_
 simp -implicitDefEqProofs (disch:=omega) only [push_cast,simprocAttr,↓gd]
 refine (EndNew_ok false _).mono ?_
 rintro r S1 ⟨b,c,rfl,h1⟩
 have k0:S1[S.length]?=some (.cells 0 zW):=h1.upd.get (by simp -implicitDefEqProofs (disch:=omega) only [push_cast,simprocAttr,↓gd]) (by simp)
 simp -implicitDefEqProofs (disch:=omega) only [push_cast,simprocAttr,k0,↓gd]
 refine (EndNew_ok true _).mono ?_
 rintro r S2 ⟨d,f,rfl,h2⟩
 have k0':=h2.upd.get k0 (by simp)
 have l0:=lt_of_some k0'
 have hA:EnAt S2 b c (newEn false):=h1.at_.upd h2.upd (by simp) (by simp)
 simp -implicitDefEqProofs (disch:=omega) only [push_cast,simprocAttr,k0',↓gd]
 have hb1:=h1.hb; have hc1:=h1.hc; have hd1:=h2.hb; have hf1:=h2.hc
 have hbl:=lt_of_some h1.at_.1; have hcl:=lt_of_some h1.at_.2
 have hu:=h1.app.upd.trans h2.upd
 simp at hb1 hc1
 have hl1:=h1.upd.1
 simp at hl1
 refine ⟨_,_,Wk.refl _ _ _,b,c,d,f,rfl,⟨⟨hA.set _ (by omega) (by omega),h2.at_.set _ (by omega) (by omega),by omega,by omega⟩,by omega,by omega,by omega,by omega,hu.set _ (.inl (Nat.le_refl _))⟩⟩
theorem WorldOk_ok {w:Wo} (hB:WoB w) {S:List Blk} {b c d f:Nat} (h:WoAt S b c d f w):VCall Tryz.prog 82 [wV b c d f w] S fun r S'=>r=.bool (woOk w)∧S'=S:=by
 have h1:=fun X=>EndOk_ok hB.caller (h.caller.app X)
 have h2:=fun X=>EndOk_ok hB.answerer (h.answerer.app X)
 refine VCall.en hDe Tryz.func82 Tryz.ntmps82 Tryz.results82 ?_
 simp -implicitDefEqProofs (disch:=omega) only [push_cast,simprocAttr,↓gd]
 refine ((h1 _).as (by simp [eV,enV,enC])).to ?_
 cases e1:endOk w.caller
 ·simp -implicitDefEqProofs (disch:=omega) only [push_cast,simprocAttr,↓gd]
  exact fin1 (.bool _) (by simp [woOk,e1])
 simp -implicitDefEqProofs (disch:=omega) only [push_cast,simprocAttr,↓gd]
 refine ((h2 _).as (by simp [eV,enV,enC])).to ?_
 cases e2:endOk w.answerer
 ·simp -implicitDefEqProofs (disch:=omega) only [push_cast,simprocAttr,↓gd]
  exact fin1 (.bool _) (by simp [woOk,e1,e2])
 rcases Bool.eq_false_or_eq_true w.caller.ans with e3 | e3
 ·simp -implicitDefEqProofs (disch:=omega) only [push_cast,simprocAttr,e3,↓gd]
  exact fin1 (.bool _) (by simp [woOk,e1,e2,e3])
 rcases Bool.eq_false_or_eq_true w.answerer.ans with e4 | e4
 ·by_cases e5:(w.up.length:Int)≤800
  ·have e5':w.up.length≤800:=by omega
   simp -implicitDefEqProofs (disch:=omega) only [push_cast,simprocAttr,e3,e4,e5,↓gd]
   exact fin1 (.bool _) (by simp only [woOk,e1,e2,e3,e4,decide_eq_true e5',Bool.true_and,Bool.not_false]; congr 1; exact decide_eq_decide.2 (by omega))
  ·have e5':¬w.up.length≤800:=by omega
   simp -implicitDefEqProofs (disch:=omega) only [push_cast,simprocAttr,e3,e4,e5,↓gd]
   exact fin1 (.bool _) (by simp [woOk,e5'])
 ·simp -implicitDefEqProofs (disch:=omega) only [push_cast,simprocAttr,e3,e4,↓gd]
  exact fin1 (.bool _) (by simp [woOk,e1,e2,e3,e4])
theorem wclone_ok {w:Wo} (hB:WoB w) {S:List Blk} {b c d f:Nat} (h:WoAt S b c d f w):VCall Tryz.prog 79 [wV b c d f w] S fun r S'=>RWNew S w r S':=by
 have h1:=fun X=>eclone_ok hB.caller (h.caller.app X)
 have h2:=fun S2 q=>eclone_ok hB.answerer (S:=S2) (b:=d) (c:=f) q
 refine VCall.ex hDe (fun _=>false) (fun id=>if id=1 then [2,2,5,5,5,7,7,9,9,10] else []) Tryz.func79 Tryz.ntmps79 Tryz.results79 ?_
 simp -implicitDefEqProofs (disch:=omega) only [push_cast,simprocAttr,↓gd]
 refine ((h1 _).as (by simp [eV,enV,enC])).mono ?_
 rintro r S1 ⟨b1,c1,rfl,n1⟩
 have k0:S1[S.length]?=some (.cells 0 (wC b c d f w)):=n1.upd.get (by simp -implicitDefEqProofs (disch:=omega) only [push_cast,simprocAttr,↓gd]) (by simp)
 have k1:S1[S.length+1]?=some (.cells 0 zW):=n1.upd.get (by simp -implicitDefEqProofs (disch:=omega) only [push_cast,simprocAttr,↓gd]) (by simp)
 simp -implicitDefEqProofs (disch:=omega) only [push_cast,simprocAttr,k0,k1,↓gd]
 refine ((h2 _ ((h.answerer.app _).upd n1.upd (by simp) (by simp))).as (by simp [eV,enV,enC])).mono ?_
 rintro r S2 ⟨d1,f1,rfl,n2⟩
 have k0':=n2.upd.get k0 (by simp)
 have k1':=n2.upd.get k1 (by simp)
 have l0:=lt_of_some k0'
 have l1:=lt_of_some k1'
 have hA:EnAt S2 b1 c1 w.caller:=n1.at_.upd n2.upd (by simp) (by simp)
 simp -implicitDefEqProofs (disch:=omega) only [push_cast,simprocAttr,k0,k1,k0',k1',↓gd]
 have hb1:=n1.hb; have hc1:=n1.hc; have hd1:=n2.hb; have hf1:=n2.hc
 have hbl:=lt_of_some n1.at_.1; have hcl:=lt_of_some n1.at_.2
 have hu:=n1.app.upd.trans n2.upd
 simp at hb1 hc1
 have hl1:=n1.upd.1
 simp at hl1
 refine ⟨_,_,Wk.refl _ _ _,b1,c1,d1,f1,rfl,⟨⟨(hA.set _ (by omega) (by omega)).set _ (by omega) (by omega),(n2.at_.set _ (by omega) (by omega)).set _ (by omega) (by omega),by omega,by omega⟩,by omega,by omega,by omega,by omega,(hu.set _ (.inl (by omega))).set _ (.inl (by omega))⟩⟩
theorem iwrite_ok {e:En} (he:EnB e) (hok:endOk e=true) {wire:List UInt8} (hw:wire.length≤1100000) {S:List Blk} {b c:Nat} (h:EnAt S b c e):VCall Tryz.prog 122 [eV b c e,.str wire] S fun r S' =>
  ∃v,r=.tup [v,.str (if e.bad=false∧wire.length+(writeM e).2.length≤800 then wire++(writeM e).2 else wire)]∧RTo S b c (if e.bad=false∧wire.length+(writeM e).2.length≤800 then (writeM e).1 else e) v S'∧Upd [] S S':=by
 have hcon:=fun X=>EndWrite_ok he (h.app X)
 have hW:=endOk_w hok
 have hol:=writeM_len hW
 refine VCall.en hDe Tryz.func122 Tryz.ntmps122 Tryz.results122 ?_
 simp -implicitDefEqProofs (disch:=omega) only [push_cast,simprocAttr,↓gd]
 refine ((hcon _).as (by simp [eV,enV,enC])).mono ?_
 rintro r S1 ⟨v,rfl,b1,c1,rfl,q1⟩
 have k0:S1[S.length]?=some (.cells 0 (enC (.heap b e.strs.length) (.heap c e.wait.length) e)):=q1.upd.get (by simp -implicitDefEqProofs (disch:=omega) only [push_cast,simprocAttr,↓gd]) (by simp)
 have k1:S1[S.length+1]?=some (.cells 0 zE):=q1.upd.get (by simp -implicitDefEqProofs (disch:=omega) only [push_cast,simprocAttr,↓gd]) (by simp)
 have l0:=lt_of_some k0
 have l1:=lt_of_some k1
 have hm:endWriteM e=if e.bad then (e,[]) else writeM e:=by rw [endWriteM,if_neg (by rw [hok]; simp)]
 have hn:=q1.app
 have hst:EnTo S b c e b c S1:=⟨h.upd hn.upd (by simp) (by simp),.inl rfl,.inl rfl,hn.upd.mono (fun _ _ hm=>by cases hm)⟩
 have hbl:=lt_of_some h.1; have hcl:=lt_of_some h.2
 rcases Bool.eq_false_or_eq_true e.bad with hb | hb
 ·rw [if_pos hb] at hm
  rw [hm]
  rw [if_neg (by rw [hb]; simp),if_neg (by rw [hb]; simp)]
  simp -implicitDefEqProofs (disch:=omega) only [push_cast,simprocAttr,k0,k1,hb,↓gd]
  exact ⟨_,_,Wk.refl _ _ _,_,rfl,⟨b,c,by simp [eV,enV,enC,hb],(hst.set (j:=S.length+1) _ (by omega) (by omega) (by omega)).appR _⟩,(hn.upd.set _ (.inl (by omega))).app _⟩
 ·rw [if_neg (by rw [hb]; simp)] at hm
  rw [hm] at q1 hn ⊢
  have hto:=hn.toTo b c
  have v1:=cells_ne hto.at_.1 k1 (by decide)
  have v2:=cells_ne hto.at_.2 k1 (by decide)
  generalize writeM e=y at *
  obtain ⟨y,o⟩:=y
  simp only at *
  by_cases hl:(wire.length:Int)+o.length > 800
  ·rw [if_neg (by omega),if_neg (by omega)]
   simp -implicitDefEqProofs (disch:=omega) only [push_cast,simprocAttr,k0,k1,hb,hl,↓gd]
   exact ⟨_,_,Wk.refl _ _ _,_,rfl,⟨b,c,by simp [eV,enV,enC,hb],(hst.set (j:=S.length+1) _ (by omega) (by omega) (by omega)).appR _⟩,(hn.upd.set _ (.inl (by omega))).app _⟩
  ·rw [if_pos ⟨hb,by omega⟩,if_pos ⟨hb,by omega⟩]
   simp -implicitDefEqProofs (disch:=omega) only [push_cast,simprocAttr,k0,k1,hb,hl,↓gd]
   repeat refine And.intro (by omega) ?_
   exact ⟨_,_,Wk.refl _ _ _,_,rfl,⟨b1,c1,rfl,(hto.set (j:=S.length+1) _ (by omega) v1 v2).appR _⟩,(hn.upd.set _ (.inl (by omega))).app _⟩
theorem ipass_ok {e:En} (he:EnB e) (hok:endOk e=true) {wire:List UInt8} (hw:wire.length≤1100000) (n:Int) {S:List Blk} {b c:Nat} (h:EnAt S b c e):VCall Tryz.prog 123 [eV b c e,.str wire,.int .i64 n] S fun r S' =>
  ∃v,r=.tup [v,.str (if 0≤n∧n≤90 then wire.drop n.toNat else wire)]∧RTo S b c (if 0≤n∧n≤90 then hearWM e (wire.take n.toNat) else e) v S'∧Upd [] S S':=by
 refine VCall.ex hDe (fun _=>false) (fun id=>if id=4 then [4,4,4,4,8,10,10,10,10,10] else []) Tryz.func123 Tryz.ntmps123 Tryz.results123 ?_
 simp -implicitDefEqProofs (disch:=omega) only [push_cast,simprocAttr,↓gd]
 by_cases hin:0≤n∧n≤90
 ·rw [if_pos hin,if_pos hin]
  refine (in_t hin _).to ?_
  have emin:(if (wire.length:Int) < n then (wire.length:Int) else n)=((min n.toNat wire.length:Nat):Int):=by omega
  have etk:wire.take (min n.toNat wire.length)=wire.take n.toNat:=by rw [List.take_eq_take_iff]; omega
  have edr:wire.drop (min n.toNat wire.length)=wire.drop n.toNat:=by
   rw [List.drop_eq_drop_iff]; omega
  have hcon:=fun S2 q=>EndHear_ok he (wire.take n.toNat) (by rw [List.length_take]; omega) (S:=S2) (b:=b) (c:=c) q
  simp -implicitDefEqProofs (disch:=omega) only [push_cast,simprocAttr,emin,etk,↓gd]
  repeat refine And.intro (by omega) ?_
  refine ((hcon _ (h.app _)).as (by simp [eV,enV,enC,List.drop_zero])).mono ?_
  rintro r S1 ⟨b1,c1,rfl,q1⟩
  have hm:endHearM e (wire.take n.toNat)=hearWM e (wire.take n.toNat):=by
   rw [endHearM,if_neg]
   rw [hok,List.length_take]
   rintro (q | q)
   ·cases q
   ·omega
  rw [hm] at q1 ⊢
  have k1:S1[S.length+1]?=some (.cells 0 zE):=q1.upd.get (by simp -implicitDefEqProofs (disch:=omega) only [push_cast,simprocAttr,↓gd]) (by simp)
  have l1:=lt_of_some k1
  have hto:=q1.app.toTo b c
  have v1:=cells_ne hto.at_.1 k1 (by decide)
  have v2:=cells_ne hto.at_.2 k1 (by decide)
  generalize hearWM e (wire.take n.toNat)=y at *
  simp -implicitDefEqProofs (disch:=omega) only [push_cast,simprocAttr,k1,edr,List.take_length,↓gd]
  repeat refine And.intro (by omega) ?_
  exact ⟨_,_,Wk.refl _ _ _,_,rfl,⟨b1,c1,rfl,hto.set (j:=S.length+1) _ (by omega) v1 v2⟩,q1.app.upd.set _ (.inl (by omega))⟩
 ·rw [if_neg hin,if_neg hin]
  refine (in_f hin _).to ?_
  simp -implicitDefEqProofs (disch:=omega) only [push_cast,simprocAttr,↓gd]
  exact ⟨_,_,Wk.refl _ _ _,_,rfl,⟨b,c,rfl,.stay h⟩,(Upd.refl _ _).app _⟩
end
end Go.Proofs.YtaamlddnpamomaaGreatDoor
