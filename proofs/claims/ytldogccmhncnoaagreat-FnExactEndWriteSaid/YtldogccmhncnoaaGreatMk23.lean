/- A part of the proof: contracts of functions, or plain facts on which these lean. -/
import Derived.Test.YtldogccmhncnoaaGreatMk21
import Derived.Test.YtldogccmhncnoaaGreatMk22
namespace Go.Proofs.YtldogccmhncnoaaGreat
open Go
set_option linter.unusedVariables false
set_option linter.unusedSimpArgs false
set_option maxRecDepth 100000
set_option maxHeartbeats 16000000

section
open Go
section
variable {P:Program} {D:Nat→TD}
theorem Rel.nhCell {G:Gh} {w:World} {S:List Blk} (hR:Rel G w S) {p m sz:Nat} {cs ds:List V} (hp:S[p]?=some (.cells m cs)) (hl:cs.length=ds.length) (h:∀(i:Nat) (v u:V),cs[i]?=some v→ds[i]?=some u→NH S.length v u) :
  ∃G',Rel G' w (S.set p (.cells m ds)++[.cells sz []])∧Evol G w S G' w (S.set p (.cells m ds)++[.cells sz []]):=by
 obtain ⟨h1,h2⟩:=hR.pushNil sz (.cells sz []) (fun z cs e=>by cases e; rfl)
 have hlt:=lt_of_some hp
 have hp':(S++[Blk.cells sz []])[p]?=some (.cells m cs):=by rw [List.getElem?_append_left hlt]; exact hp
 have hset:S.set p (.cells m ds)++[Blk.cells sz []]=(S++[Blk.cells sz []]).set p (.cells m ds):=by rw [List.set_append_left _ _ hlt]
 rw [hset]
 cases hk:(G.pushNil sz).ok p with
 | false =>
  have hcs:=h1.vac p m cs hp' hk
  subst hcs
  have hds:ds=[]:=List.length_eq_zero_iff.1 hl.symm
  subst hds
  have he:(S++[Blk.cells sz []]).set p (.cells m [])=S++[Blk.cells sz []]:=by
   apply List.ext_getElem?
   intro j
   rw [List.getElem?_set]
   by_cases e:p=j
   ·subst e
    rw [if_pos rfl,if_pos (lt_of_some hp'),hp']
   ·rw [if_neg e]
  rw [he]
  exact ⟨_,h1,h2⟩
 | true =>
  obtain ⟨arr,ty,g1,g2,g3,g4,g5,g6⟩:=h1.live p _ hp' rfl hk
  obtain ⟨t1,t2⟩:=h1.touch (B':=.cells m ds) hp' rfl hk (⟨rfl,rfl,rfl,rfl,fun _ _=>rfl⟩:But w w ((G.pushNil sz).blk p)) g2 rfl (fun he=>⟨arr,ty,g1,g2,g3,by omega,g5,fun i v u hv hu=>by
   have hi:=List.getElem?_eq_some_iff.1 hv
   obtain ⟨hi,_⟩:=hi
   have hc:cs[i]?=some (cs[i]'(by omega)):=List.getElem?_eq_getElem _
   have:=g6 i _ u hc hu
   exact ⟨(h i _ v hc hv).ok (Ext.refl _ _) (by simp [Gh.pushNil,hR.n]) this.1,this.2⟩⟩)
  exact ⟨_,t1,h2.trans t2⟩
theorem wpV_ghost {N:Nat} {c:Code} {k:Exit→(Nat→V)→List Blk→Prop} {t:Nat→V} {S S1:List Blk} (hg:∀(G:Gh) (w:World),Rel G w S→∃G',Rel G' w S1∧Evol G w S G' w S1) (h:wpV P D N c k t S1):wpV P D N c k t S:=by
 intro hc
 obtain ⟨e,t',S',hk,hr⟩:=h hc
 refine ⟨e,t',S',hk,fun G a w Q ha hR hQ=>?_⟩
 obtain ⟨G1,h1,h2⟩:=hg G w hR
 exact hr G1 a w Q (ha.ext h2.ext) h1 (fun a' w' G' p1 p2 p3=>hQ a' w' G' p1 p2 (h2.trans p3))
end
theorem NH.at_ {n:Nat} {cs:List V} {i:Nat} (h:cs[i]?=some .nils) (j:Nat) (v u:V) (hv:cs[j]?=some v) (hu:(cs.set i (.heap n 0))[j]?=some u):NH n v u:=by
 rw [List.getElem?_set] at hu
 by_cases e:i=j
 ·subst e
  rw [h] at hv
  cases hv
  rw [if_pos rfl,if_pos (List.getElem?_eq_some_iff.1 h).1] at hu
  cases hu
  exact .nil
 ·rw [if_neg e,hv] at hu
  cases hu
  exact .refl _
theorem hDw:TypesOk Tryz.prog (bldOf (wrOf D [70,61]) [59]):=bldOk (wrOk hD _) _ (by
 intro t ht hk
 simp at ht
 subst ht
 cases hk)
theorem BdAt.app {S:List Blk} {n b:Nat} {s:List UInt8} (h:BdAt S n b s) (X:List Blk):BdAt (S++X) n b s:=by
 obtain ⟨h1,addr,buf,h2,h3,h4⟩:=h
 refine ⟨h1,addr,buf,by rw [List.getElem?_append_left (lt_of_some h2)]; exact h2,h3,?_⟩
 rcases h4 with h4 | ⟨q,q1,q2,q3,q4,q5⟩
 ·exact .inl h4
 ·exact .inr ⟨q,q1,q2,q3,by rw [List.getElem?_append_left (lt_of_some q4)]; exact q4,q5⟩
theorem BdAt.upd {S S':List Blk} {n b:Nat} {s:List UInt8} (h:BdAt S n b s) {bs:List Nat} (hu:Upd bs S S') (hb:∀j ∈ bs,∃m cs,S[j]?=some (.cells m cs)∧m < 1000000):BdAt S' n b s:=by
 have key:∀(j m:Nat) (cs:List V),S[j]?=some (.cells m cs)→1000000≤m→S'[j]?=some (.cells m cs):=by
  intro j m cs hj hm
  rw [hu.2 j (lt_of_some hj) ?_]
  ·exact hj
  ·intro hmem
   obtain ⟨m',cs',h1,h2⟩:=hb j hmem
   rw [hj] at h1
   cases h1
   omega
 obtain ⟨h1,addr,buf,h2,h3,h4⟩:=h
 refine ⟨h1,addr,buf,key _ _ _ h2 (by decide),h3,?_⟩
 rcases h4 with h4 | ⟨q,q1,q2,q3,q4,q5⟩
 ·exact .inl h4
 ·exact .inr ⟨q,q1,q2,q3,key _ _ _ q4 (by decide),q5⟩
theorem PtrAt.updU {S S':List Blk} {n p b c:Nat} {e:En} (h:PtrAt S p b c e) (hu:UpdU n S S'):PtrAt S' p b c e :=
 ⟨hu.2 _ _ h.var (.inr (by simp [Unm])),hu.2 _ _ h.at_.1 (.inr (by simp [Unm])),hu.2 _ _ h.at_.2 (.inr (by simp [Unm]))⟩
theorem BdAt.updP {S S':List Blk} {n bb p b c b' c':Nat} {s:List UInt8} {e e':En} (h:BdAt S n bb s) (hp:PtrAt S p b c e) (hu:PtrTo S p b c e' b' c' S'):BdAt S' n bb s :=
 h.upd hu.upd (by
  intro j hj
  simp only [List.mem_cons,List.not_mem_nil,or_false] at hj
  rcases hj with rfl | rfl | rfl
  ·exact ⟨_,_,hp.var,by decide⟩
  ·exact ⟨_,_,hp.at_.1,by decide⟩
  ·exact ⟨_,_,hp.at_.2,by decide⟩)
theorem Upd.ofU {n:Nat} {S S1 S2:List Blk} (h:Upd [] S S1) (hn:S.length≤n) (hu:UpdU n S1 S2):Upd [] S S2 :=
 ⟨Nat.le_trans h.1 hu.1,fun j hj hm=>by
  have h1:=h.2 j hj hm
  have h2:S[j]?=some S[j]:=List.getElem?_eq_getElem hj
  rw [h2] at h1 ⊢
  exact hu.2 j _ h1 (.inl (by omega))⟩
theorem Upd.ofP {S S1 S2:List Blk} {p b c b' c':Nat} {e:En} (h:Upd [] S S1) (hu:PtrTo S1 p b c e b' c' S2) (h1:S.length≤p) (h2:S.length≤b) (h3:S.length≤c):Upd [] S S2 :=
 h.then_ hu.upd (fun j hj hm=>by simp only [List.mem_cons,List.not_mem_nil,or_false] at hm; omega)
theorem EndWrite_ok {e:En} (he:EnB e) {S:List Blk} {b c:Nat} (h:EnAt S b c e):VCall Tryz.prog 7 [eV b c e] S fun r S' =>
  ∃v,r=.tup [v,.str (endWriteM e).2]∧RNew S (endWriteM e).1 v S':=by
 have hok:=fun X=>EndOk_ok he (h.app X)
 have hcp:=fun X=>eclone_ok he (h.app X)
 refine VCall.en hDw Tryz.func7 Tryz.ntmps7 Tryz.results7 ?_
 simp -implicitDefEqProofs (disch:=omega) only [push_cast,simprocAttr,↓gd]
 refine ((hok _).as (by simp [eV,enV,enC])).to ?_
 cases hE:endOk e
 ·rw [endWriteM,if_pos hE]
  simp -implicitDefEqProofs (disch:=omega) only [push_cast,simprocAttr,↓gd]
  exact RNew.zeroT (by simp [Plain])
 have hW:=endOk_w hE
 rw [endWriteM,if_neg (by rw [hE]; simp)]
 simp -implicitDefEqProofs (disch:=omega) only [push_cast,simprocAttr,↓gd]
 refine ((hcp _).as (by simp [eV,enV,enC])).mono ?_
 rintro r S1 ⟨b',c',rfl,hn⟩
 have k0:S1[S.length]?=some (.cells 0 (enC (.heap b e.strs.length) (.heap c e.wait.length) e)):=hn.upd.get (by simp -implicitDefEqProofs (disch:=omega) only [push_cast,simprocAttr,↓gd]) (by simp)
 have k1:S1[S.length+1]?=some (.cells 0 zE):=hn.upd.get (by simp -implicitDefEqProofs (disch:=omega) only [push_cast,simprocAttr,↓gd]) (by simp)
 have l0:=lt_of_some k0
 have l1:=lt_of_some k1
 have hx:=hn.app
 have hb1:=hn.hb; have hc1:=hn.hc
 simp at hb1 hc1
 rcases Bool.eq_false_or_eq_true e.bad with hbd | hbd
 ·rw [if_pos hbd]
  simp -implicitDefEqProofs (disch:=omega) only [push_cast,simprocAttr,k0,k1,hbd,↓gd]
  refine ⟨_,_,Wk.refl _ _ _,_,rfl,b',c',?_,(hx.set (j:=S.length+1) _ (by omega) (by omega) (by omega)).appR _⟩
  simp [eV,enV,enC,hbd]
 rw [if_neg (by rw [hbd]; simp)]
 have hst:∀i,EnW 60 (waitM e (e.wait.take i)).1∧(waitM e (e.wait.take i)).1.strs.length=e.strs.length∧(waitM e (e.wait.take i)).1.wait=e.wait:=fun i=>waitM_w _ _ hW
 have hol:∀i,(waitM e (e.wait.take i)).2.length≤(e.wait.take i).length * 300:=fun i=>waitM_len (N:=60) _ _ (fun f hf=>hW.wait f (List.mem_of_mem_take hf))
 have hwl:=hW.len
 simp -implicitDefEqProofs (disch:=omega) only [push_cast,simprocAttr,k0,k1,hbd,↓gd]
 refine wpV_loop (fun m t S2=>∃i:Nat,m=e.wait.length - i∧i≤e.wait.length∧t 2=.ptr (S.length+1) 0∧t 4=.ptr S1.length 0∧t 5=.ptr (S1.length+1) 0∧t 20=.heap c' e.wait.length∧t 21=.int .i64 e.wait.length∧t 22=.int .i64 i ∧
  PtrAt S2 S1.length b' c' (waitM e (e.wait.take i)).1∧BdAt S2 S.length (S1.length+1) (waitM e (e.wait.take i)).2∧S2[S.length+1]?=some (.cells 0 zE)∧Upd [] S S2) e.wait.length
  ⟨0,by omega,by omega,rfl,rfl,rfl,rfl,rfl,rfl,⟨?_,?_⟩,⟨by omega,.nilp,.nils,?_,.inl rfl,.inl ⟨rfl,rfl⟩⟩,?_,hx.upd.app _⟩ ?_
 ·simp -implicitDefEqProofs (disch:=omega) only [push_cast,simprocAttr,↓gd]
  simp [waitM,enC,hbd]
 ·exact hn.at_.app _
 ·simp -implicitDefEqProofs (disch:=omega) only [push_cast,simprocAttr,↓gd]
 ·simp -implicitDefEqProofs (disch:=omega) only [push_cast,simprocAttr,k1,↓gd]
 rintro m t S2 ⟨i,rfl,hi,h2,h4,h5,h20,h21,h22,hpt,hbdr,kz,hup⟩
 obtain ⟨hEw,hEs,hEl⟩:=hst i
 have hoi:=hol i
 have hti:(e.wait.take i).length=i:=by simp; omega
 generalize hE:waitM e (e.wait.take i)=E at *
 obtain ⟨E,o⟩:=E
 simp only at *
 have hvar:=hpt.var
 have hcw:=hpt.at_.2
 rw [hEl] at hcw
 rw [hEl,hEs] at hvar
 obtain ⟨n1,n2,n3,n4,n5,n6⟩:=hpt.nes
 have lz:=lt_of_some kz
 refine wpV_of0 hDw ?_
 simp -implicitDefEqProofs (disch:=omega) only [push_cast,simprocAttr,h2,h4,h5,h20,h21,h22,↓gd]
 refine ⟨fun hlt=>?_,fun hlt=>?_⟩
 ·have hil:i < e.wait.length:=by omega
  have hat:=frmsC_at hil
  have hlw:=frmsC_len e.wait
  have hfk:=hW.wait _ (getD_memF hil)
  simp -implicitDefEqProofs (disch:=omega) only [push_cast,simprocAttr,h2,h4,h5,h20,h21,h22,hcw,hat,↓gd]
  repeat refine And.intro (by omega) ?_
  refine ((FrameWrite_ok (e.wait.getD i fr0) _).as rfl).to ?_
  rw [if_pos hfk]
  have hfp:=(frameOk_nat hfk).2.2
  have hstep:=waitM_snoc (e.wait.take i) (e.wait.getD i fr0) e
  rw [hE,←take_fr hil] at hstep
  simp only at hstep
  simp -implicitDefEqProofs (disch:=omega) only [push_cast,simprocAttr,h2,h4,h5,h20,h21,h22,hcw,hat,↓gd]
  refine ((WriteString_ok (hbdr.app _) (by simp; omega) (frW (e.wait.getD i fr0)) (by omega) (by rw [frW_len]; omega)).as rfl).mono ?_
  rintro r S3 ⟨hb3,hu3⟩
  have hpt3:=(hpt.app _).updU hu3
  have kz3:=hu3.2 (S.length+1) (.cells 0 zE) (by rw [List.getElem?_append_left lz]; exact kz) (.inr (by simp [Unm]))
  generalize hf:e.wait.getD i fr0=f at *
  have kf:S3[S2.length]?=some (.cells 0 [V.int IntKind.i64 f.kind,V.bool f.last,V.int IntKind.i64 f.stream,V.str f.body]):=hu3.2 _ _ (by simp -implicitDefEqProofs (disch:=omega) only [push_cast,simprocAttr,↓gd]) (.inr (by simp [Unm]))
  have hup3:=(hup.app _).ofU (Nat.le_refl _) hu3
  simp -implicitDefEqProofs (disch:=omega) only [push_cast,simprocAttr,h2,h4,h5,h20,h21,h22,kf,↓gd]
  refine ((widen_ok hEw (by omega) hfk hpt3).as rfl).mono ?_
  rintro r S4 ⟨rfl,hto⟩
  have hb4:=hb3.updP hpt3 hto
  have hup4:=hup3.ofP hto (by omega) (by omega) (by omega)
  have kz4:=hto.upd.get kz3 (by simp; omega)
  simp -implicitDefEqProofs (disch:=omega) only [push_cast,simprocAttr,h2,h4,h5,h20,h21,h22,↓gd]
  exact ⟨e.wait.length - (i+1),by omega,i+1,rfl,by omega,by simp,by rw [hstep]; exact hto.at_,by rw [hstep]; exact hb4,kz4,hup4⟩
 ·have:i=e.wait.length:=by omega
  subst this
  rw [List.take_length] at hE
  have hw0:=hEw.noWait
  have hwe:writeM e=((saysM e.strs.length 0 { E with wait:=[] }).1,o++(saysM e.strs.length 0 { E with wait:=[] }).2):=by rw [writeM_eq,hE]
  rw [hwe]
  have hns0:({ E with wait:=[] }:En).strs.length=e.strs.length:=hEs
  have hel:=hW.b (by decide)
  have hel:=hel.len
  simp -implicitDefEqProofs (disch:=omega) only [push_cast,simprocAttr,h2,h4,h5,h20,h21,h22,hvar,↓gd]
  have hpt0:PtrAt ((S2.set S1.length (.cells 0 (enC (.heap b' e.strs.length) .nils { E with wait:=[] }))).set S1.length (.cells 0 (enC (.heap b' e.strs.length) (.heap S2.length 0) { E with wait:=[] }))++[.cells 4 []]) S1.length b' S2.length { E with wait:=[] }:=by
   have hb2:=hpt.at_.1
   refine ⟨?_,?_,?_⟩
   ·simp -implicitDefEqProofs (disch:=omega) only [push_cast,simprocAttr,↓gd]
    rw [hEs]
   ·simp -implicitDefEqProofs (disch:=omega) only [push_cast,simprocAttr,hb2,↓gd]
   ·simp -implicitDefEqProofs (disch:=omega) only [push_cast,simprocAttr,↓gd]
    rfl
  have hbd0:=(hbdr.upd (((Upd.refl [S1.length] S2).set (i:=S1.length) (.cells 0 (enC (.heap b' e.strs.length) .nils { E with wait:=[] })) (.inr (by simp))).set (i:=S1.length) (.cells 0 (enC (.heap b' e.strs.length) (.heap S2.length 0) { E with wait:=[] })) (.inr (by simp))) (fun j hj=>by obtain rfl:=List.mem_singleton.1 hj; exact ⟨_,_,hpt.var,by decide⟩)).app [.cells 4 []]
  have kz0:((S2.set S1.length (.cells 0 (enC (.heap b' e.strs.length) .nils { E with wait:=[] }))).set S1.length (.cells 0 (enC (.heap b' e.strs.length) (.heap S2.length 0) { E with wait:=[] }))++[.cells 4 []])[S.length+1]?=some (.cells 0 zE):=by simp -implicitDefEqProofs (disch:=omega) only [push_cast,simprocAttr,kz,↓gd]
  have hup0:Upd [] S ((S2.set S1.length (.cells 0 (enC (.heap b' e.strs.length) .nils { E with wait:=[] }))).set S1.length (.cells 0 (enC (.heap b' e.strs.length) (.heap S2.length 0) { E with wait:=[] }))++[.cells 4 []]) :=
   ((hup.set _ (.inl (by omega))).set _ (.inl (by omega))).app _
  obtain ⟨S3,hS3⟩:∃S3,S3=(S2.set S1.length (.cells 0 (enC (.heap b' e.strs.length) .nils { E with wait:=[] }))).set S1.length (.cells 0 (enC (.heap b' e.strs.length) (.heap S2.length 0) { E with wait:=[] }))++[.cells 4 []]:=⟨_,rfl⟩
  rw [←hS3] at hpt0 hbd0 kz0 hup0
  refine wpV_ghost (S1:=S3) (fun G w hR=>?_) ?_
  ·rw [hS3]
   have hat9:=NH.at_ (n:=S2.length) (cs:=enC (.heap b' e.strs.length) .nils { E with wait:=[] }) (i:=9) rfl
   refine hR.nhCell (p:=S1.length) (m:=0) (sz:=4) (cs:=enC (.heap b' e.strs.length) .nils { E with wait:=[] }) (ds:=enC (.heap b' e.strs.length) (.heap S2.length 0) { E with wait:=[] }) ?_ rfl ?_
   ·simp -implicitDefEqProofs (disch:=omega) only [push_cast,simprocAttr,↓gd]
   ·rw [List.length_set]
    exact hat9
  generalize hF:({ E with wait:=[] }:En)=F at hpt0 hw0 hns0
  have hk1:∀n,n≤e.strs.length→EnW 0 (saysM n 0 F).1∧(saysM n 0 F).1.strs.length=e.strs.length∧(saysM n 0 F).2.length≤n * 2000:=fun n hn=>⟨(saysM_w n 0 F hw0 (by omega)).1,by rw [(saysM_w n 0 F hw0 (by omega)).2,hns0],saysM_len n 0 F hw0 (by omega)⟩
  have hol2:o.length≤e.wait.length * 300:=Nat.le_trans hoi (Nat.mul_le_mul_right _ (by simp))
  have hs4:=stsOk_len hW.sts
  have l3:=lt_of_some kz0
  have lv:=lt_of_some hpt0.var
  refine wpV_loop (fun m t S4=>∃n:Nat,m=e.strs.length - n∧n≤e.strs.length∧t 2=.ptr (S.length+1) 0∧t 4=.ptr S1.length 0∧t 5=.ptr (S1.length+1) 0∧t 35=.int .i64 e.strs.length∧t 36=.int .i64 n ∧
   PtrAt S4 S1.length b' S2.length (saysM n 0 F).1∧BdAt S4 S.length (S1.length+1) (o++(saysM n 0 F).2)∧S4[S.length+1]?=some (.cells 0 zE)∧Upd [] S S4) e.strs.length
   ⟨0,by omega,by omega,h2,h4,h5,rfl,rfl,by simpa [saysM] using hpt0,by have:(saysM 0 0 F).2=[]:=rfl; rw [this,List.append_nil]; exact hbd0,kz0,hup0⟩ ?_
  rintro m t S4 ⟨n,rfl,hn',h2,h4,h5,h35,h36,hpt,hbdr,kz,hup⟩
  obtain ⟨hXw,hXs,hXl⟩:=hk1 n hn'
  have hsn:=saysM_snoc n 0 F
  rw [Nat.zero_add] at hsn
  generalize hX:saysM n 0 F=X at *
  obtain ⟨X,q⟩:=X
  simp only at *
  have hvar:=hpt.var
  have hbs:=hpt.at_.1
  rw [hXs] at hvar
  obtain ⟨n1,n2,n3,n4,n5,n6⟩:=hpt.nes
  have lz:=lt_of_some kz
  refine wpV_of0 hDw ?_
  simp -implicitDefEqProofs (disch:=omega) only [push_cast,simprocAttr,h2,h4,h5,h35,h36,↓gd]
  refine ⟨fun hlt=>?_,fun hlt=>?_⟩
  ·have hil:n < X.strs.length:=by omega
   have hlen:=strsC_len X.strs
   have g1:=strsC_get hil (c:=1) (by decide)
   have g2:=strsC_get hil (c:=2) (by decide)
   have g5:=strsC_get hil (c:=5) (by decide)
   have hm0:∀s,X.strs.getD n st0=s→(stAt X n=s∧sayM X n=if s.state≠1∨s.head=[]∨s.said=true then (X,[]) else sayE X n s):=fun s hs=>by subst hs; exact ⟨rfl,rfl⟩
   have hol:=hXw.sts
   have hlw:=sayM_len hXw hil
   have hYs:(sayM X n).1.strs.length=e.strs.length:=by rw [(sayM_w hXw hil).2]; exact hXs
   generalize hs:X.strs.getD n st0=s at g1 g2 g5
   obtain ⟨hs0,hm0⟩:=hm0 s hs
   obtain ⟨sid,sst,shd,ssay,sbg,ssd,ssent,sgot,stx,shrd,ssnd,srm⟩:=s
   have next:∀S5,(sayM X n)=(X,[])→S5=S4→∃m',m' < e.strs.length - n∧∃j:Nat,m'=e.strs.length - j∧j≤e.strs.length∧V.int .i64 ((n:Int)+1)=V.int .i64 (j:Int)∧PtrAt S5 S1.length b' S2.length (saysM j 0 F).1∧BdAt S5 S.length (S1.length+1) (o++(saysM j 0 F).2)∧S5[S.length+1]?=some (.cells 0 zE)∧Upd [] S S5:=by
    rintro S5 hq rfl
    rw [hq] at hsn
    refine ⟨e.strs.length - (n+1),by omega,n+1,rfl,by omega,by simp,?_,?_,kz,hup⟩
    ·rw [hsn]; exact hpt
    ·rw [hsn]; simpa using hbdr
   by_cases hst:sst=1
   ·by_cases hhd:shd=[]
    ·rw [if_pos (by simp [hhd])] at hm0
     subst hhd
     simp -implicitDefEqProofs (disch:=omega) only [push_cast,simprocAttr,h2,h4,h5,h35,h36,hvar,hbs,g1,g2,hst,↓gd]
     exact ⟨by omega,by omega,next _ hm0 rfl⟩
    ·have hpos:=List.length_pos_iff.2 hhd
     have hgt:(shd.length:Int) > 0:=by omega
     cases ssd
     ·rw [if_neg (by simp [hhd,hst])] at hm0
      simp -implicitDefEqProofs (disch:=omega) only [push_cast,simprocAttr,h2,h4,h5,h35,h36,hvar,hbs,g1,g2,g5,hst,hgt,↓gd]
      repeat refine And.intro (by omega) ?_
      refine ((say_ok hXw (by omega) hil (by rw [hs0]; exact hst) (by rw [hs0]) hpt).as rfl).mono ?_
      rintro r S5 ⟨rfl,hto⟩
      rw [hs0,←hm0] at hto ⊢
      have hb5:=hbdr.updP hpt hto
      have hup5:=hup.ofP hto (by omega) (by omega) (by omega)
      have kz5:=hto.upd.get kz (by simp; omega)
      clear hm0 hs0 next
      generalize hY:sayM X n=Y at *
      obtain ⟨Y,u⟩:=Y
      simp only at *
      simp -implicitDefEqProofs (disch:=omega) only [push_cast,simprocAttr,h2,h4,h5,h35,h36,↓gd]
      refine ((WriteString_ok hb5 (by have:=hup5.1; omega) u (by rw [List.length_append]; omega) (by omega)).as rfl).mono ?_
      rintro r S6 ⟨hb6,hu6⟩
      have hpt6:=hto.at_.updU hu6
      have kz6:=hu6.2 _ _ kz5 (.inr (by simp [Unm]))
      have hup6:=hup5.ofU (Nat.le_refl _) hu6
      simp -implicitDefEqProofs (disch:=omega) only [push_cast,simprocAttr,h2,h4,h5,h35,h36,↓gd]
      refine ⟨e.strs.length - (n+1),by omega,n+1,rfl,by omega,by simp,?_,?_,kz6,hup6⟩
      ·rw [hsn]; exact hpt6
      ·rw [hsn]; simpa using hb6
     ·rw [if_pos (by simp)] at hm0
      simp -implicitDefEqProofs (disch:=omega) only [push_cast,simprocAttr,h2,h4,h5,h35,h36,hvar,hbs,g1,g2,g5,hst,hgt,↓gd]
      exact ⟨by omega,by omega,next _ hm0 rfl⟩
   ·rw [if_pos (by simp [hst])] at hm0
    simp -implicitDefEqProofs (disch:=omega) only [push_cast,simprocAttr,h2,h4,h5,h35,h36,hvar,hbs,g1,hst,↓gd]
    exact ⟨by omega,by omega,next _ hm0 rfl⟩
  ·have:n=e.strs.length:=by omega
   subst this
   rw [hX]
   simp -implicitDefEqProofs (disch:=omega) only [push_cast,simprocAttr,h2,h4,h5,h35,h36,hvar,↓gd]
   refine ((eclone_ok (hXw.b (by decide)) hpt.at_).as (by simp [eV,enV,enC,hXs])).mono ?_
   rintro r S5 ⟨b5,c5,rfl,q5⟩
   have hb5:=hbdr.upd q5.upd (by simp)
   have kz5:=q5.upd.get kz (by simp)
   simp -implicitDefEqProofs (disch:=omega) only [push_cast,simprocAttr,h2,h4,h5,↓gd]
   refine ((String_ok hb5 (by rw [List.length_append]; omega)).as rfl).mono ?_
   rintro r S6 ⟨rfl,hu6⟩
   have kz6:=hu6.2 _ _ kz5 (.inr (by simp [Unm]))
   have lz6:=lt_of_some kz6
   have hat6:EnAt S6 b5 c5 X:=⟨hu6.2 _ _ q5.at_.1 (.inr (by simp [Unm])),hu6.2 _ _ q5.at_.2 (.inr (by simp [Unm]))⟩
   have e1:=q5.hb; have e2:=q5.hc; have e3:=hup.1
   have hup6:Upd [] S S6:=(hup.trans q5.upd).ofU (Nat.le_refl _) hu6
   have v1:=cells_ne hat6.1 kz6 (by decide)
   have v2:=cells_ne hat6.2 kz6 (by decide)
   have q6:EnNew S X b5 c5 S6:=⟨hat6,by omega,by omega,hup6⟩
   simp -implicitDefEqProofs (disch:=omega) only [push_cast,simprocAttr,h2,kz6,↓gd]
   exact ⟨_,_,Wk.refl _ _ _,_,rfl,b5,c5,by simp [eV,enV,enC,hXs],q6.set (j:=S.length+1) _ (by omega) v1 v2⟩
end
section
open Go
theorem Res.to {ow:Bool} {S S' S2:List Blk} {vo vi:V} {b c:Nat} {e:En} (h:Res ow S vo vi b c e S') (hk:∀(p n:Nat) (cs:List V),(n=3∨n=4∨n=12)→S'[p]?=some (.cells n cs)→S2[p]?=some (.cells n cs)) (hu:Upd [] S S2):Res ow S vo vi b c e S2:=by
 rcases h.cases with ⟨rfl,po,pi,ls,h1,h2,g⟩ | ⟨rfl,rfl,rfl,g⟩
 ·exact .mkO ⟨po,pi,ls,h1,h2,g.strs,hk _ _ _ (by simp) g.kb,hk _ _ _ (by simp) g.kc,hk _ _ _ (by simp) g.out,hk _ _ _ (by simp) g.inn,g.own.to (fun p cs=>hk p 3 cs (by simp)),g.lt,g.lo,g.hb,g.hc,hu⟩
 ·exact .mkR ⟨⟨hk _ _ _ (by simp) g.at_.1,hk _ _ _ (by simp) g.at_.2⟩,g.hb,g.hc,hu⟩
theorem EndWrite_R (ow:Bool) {e:En} (he:EnB e) {S:List Blk} {vo vi:V} {b c:Nat} {ls:List XS} (h:EnX S vo vi b c ls e):VCall Tryz.prog 7 [xV vo vi b c e] S fun r S' =>
  ∃v,r=.tup [v,.str (endWriteM e).2]∧RRes ow S (endWriteM e).1 v S':=by
 have hok:=fun X=>EndOk_X he (h.app X)
 have hcp:=fun X=>eclone_X he (h.app X)
 have hcr:=fun X=>eclone_R ow he (h.app X)
 have vo1:=h.out.one
 have vi1:=h.inn.one
 have voe:=h.out.er
 have vie:=h.inn.er
 have voe1:=h.out.er1
 have vie1:=h.inn.er1
 refine VCall.en hDw Tryz.func7 Tryz.ntmps7 Tryz.results7 ?_
 simp -implicitDefEqProofs (disch:=omega) only [push_cast,simprocAttr,vo1,vi1,voe,vie,↓gd]
 refine ((hok _).as (by simp [xV,enX,voe,vie,voe1,vie1])).to ?_
 cases hE:endOk e
 ·rw [endWriteM,if_pos hE]
  simp -implicitDefEqProofs (disch:=omega) only [push_cast,simprocAttr,↓gd]
  exact RRes.zeroT ow (by simp [Plain])
 have hW:=endOk_w hE
 rw [endWriteM,if_neg (by rw [hE]; simp)]
 rcases Bool.eq_false_or_eq_true e.bad with hbd | hbd
 ·rw [if_pos hbd]
  simp -implicitDefEqProofs (disch:=omega) only [push_cast,simprocAttr,vo1,vi1,voe,vie,↓gd]
  refine ((hcr _).as (by simp [xV,enX,voe,vie,voe1,vie1])).mono ?_
  rintro r S1 ⟨vo',vi',b',c',rfl,hn⟩
  have k0:=hn.upd.get (j:=S.length) (B:=.cells 0 (enX vo vi (.heap b e.strs.length) (.heap c e.wait.length) e)) (by simp -implicitDefEqProofs (disch:=omega) only [push_cast,simprocAttr,↓gd]) (by simp)
  have k1:=hn.upd.get (j:=S.length+1) (B:=.cells 0 zE) (by simp -implicitDefEqProofs (disch:=omega) only [push_cast,simprocAttr,↓gd]) (by simp)
  have l0:=lt_of_some k0
  have l1:=lt_of_some k1
  obtain ⟨w1,w2⟩:=hn.one
  obtain ⟨w3,w4⟩:=hn.er
  have hn':=hn.of ((Upd.refl _ _).app _)
  simp -implicitDefEqProofs (disch:=omega) only [push_cast,simprocAttr,k0,k1,hbd,w1,w2,w3,w4,vo1,vi1,voe,vie,↓gd]
  refine ⟨_,_,Wk.refl _ _ _,_,rfl,vo',vi',b',c',?_,(hn'.setVar _ k1 (by omega)).appR _⟩
  simp [xV,enX,hbd]
 rw [if_neg (by rw [hbd]; simp)]
 simp -implicitDefEqProofs (disch:=omega) only [push_cast,simprocAttr,vo1,vi1,voe,vie,↓gd]
 refine ((hcp _).as (by simp [xV,enX,voe,vie,voe1,vie1])).mono ?_
 rintro r S1 ⟨b',c',rfl,hn⟩
 have k0:S1[S.length]?=some (.cells 0 (enX vo vi (.heap b e.strs.length) (.heap c e.wait.length) e)):=hn.upd.get (by simp -implicitDefEqProofs (disch:=omega) only [push_cast,simprocAttr,↓gd]) (by simp)
 have k1:S1[S.length+1]?=some (.cells 0 zE):=hn.upd.get (by simp -implicitDefEqProofs (disch:=omega) only [push_cast,simprocAttr,↓gd]) (by simp)
 have l0:=lt_of_some k0
 have l1:=lt_of_some k1
 have hx:=hn.app
 have hb1:=hn.hb; have hc1:=hn.hc
 simp at hb1 hc1
 have hst:∀i,EnW 60 (waitM e (e.wait.take i)).1∧(waitM e (e.wait.take i)).1.strs.length=e.strs.length∧(waitM e (e.wait.take i)).1.wait=e.wait:=fun i=>waitM_w _ _ hW
 have hol:∀i,(waitM e (e.wait.take i)).2.length≤(e.wait.take i).length * 300:=fun i=>waitM_len (N:=60) _ _ (fun f hf=>hW.wait f (List.mem_of_mem_take hf))
 have hwl:=hW.len
 simp -implicitDefEqProofs (disch:=omega) only [push_cast,simprocAttr,k0,k1,hbd,vo1,vi1,voe,vie,↓gd]
 refine wpV_loop (fun m t S2=>∃i:Nat,m=e.wait.length - i∧i≤e.wait.length∧t 2=.ptr (S.length+1) 0∧t 4=.ptr S1.length 0∧t 5=.ptr (S1.length+1) 0∧t 20=.heap c' e.wait.length∧t 21=.int .i64 e.wait.length∧t 22=.int .i64 i ∧
  PtrAt S2 S1.length b' c' (waitM e (e.wait.take i)).1∧BdAt S2 S.length (S1.length+1) (waitM e (e.wait.take i)).2∧S2[S.length+1]?=some (.cells 0 zE)∧Upd [] S S2) e.wait.length
  ⟨0,by omega,by omega,rfl,rfl,rfl,rfl,rfl,rfl,⟨?_,?_⟩,⟨by omega,.nilp,.nils,?_,.inl rfl,.inl ⟨rfl,rfl⟩⟩,?_,hx.upd.app _⟩ ?_
 ·simp -implicitDefEqProofs (disch:=omega) only [push_cast,simprocAttr,↓gd]
  simp [waitM,enC,hbd]
 ·exact hn.at_.app _
 ·simp -implicitDefEqProofs (disch:=omega) only [push_cast,simprocAttr,↓gd]
 ·simp -implicitDefEqProofs (disch:=omega) only [push_cast,simprocAttr,k1,↓gd]
 rintro m t S2 ⟨i,rfl,hi,h2,h4,h5,h20,h21,h22,hpt,hbdr,kz,hup⟩
 obtain ⟨hEw,hEs,hEl⟩:=hst i
 have hoi:=hol i
 have hti:(e.wait.take i).length=i:=by simp; omega
 generalize hE:waitM e (e.wait.take i)=E at *
 obtain ⟨E,o⟩:=E
 simp only at *
 have hvar:=hpt.var
 have hcw:=hpt.at_.2
 rw [hEl] at hcw
 rw [hEl,hEs] at hvar
 obtain ⟨n1,n2,n3,n4,n5,n6⟩:=hpt.nes
 have lz:=lt_of_some kz
 refine wpV_of0 hDw ?_
 simp -implicitDefEqProofs (disch:=omega) only [push_cast,simprocAttr,h2,h4,h5,h20,h21,h22,↓gd]
 refine ⟨fun hlt=>?_,fun hlt=>?_⟩
 ·have hil:i < e.wait.length:=by omega
  have hat:=frmsC_at hil
  have hlw:=frmsC_len e.wait
  have hfk:=hW.wait _ (getD_memF hil)
  simp -implicitDefEqProofs (disch:=omega) only [push_cast,simprocAttr,h2,h4,h5,h20,h21,h22,hcw,hat,↓gd]
  repeat refine And.intro (by omega) ?_
  refine ((FrameWrite_ok (e.wait.getD i fr0) _).as rfl).to ?_
  rw [if_pos hfk]
  have hfp:=(frameOk_nat hfk).2.2
  have hstep:=waitM_snoc (e.wait.take i) (e.wait.getD i fr0) e
  rw [hE,←take_fr hil] at hstep
  simp only at hstep
  simp -implicitDefEqProofs (disch:=omega) only [push_cast,simprocAttr,h2,h4,h5,h20,h21,h22,hcw,hat,↓gd]
  refine ((WriteString_ok (hbdr.app _) (by simp; omega) (frW (e.wait.getD i fr0)) (by omega) (by rw [frW_len]; omega)).as rfl).mono ?_
  rintro r S3 ⟨hb3,hu3⟩
  have hpt3:=(hpt.app _).updU hu3
  have kz3:=hu3.2 (S.length+1) (.cells 0 zE) (by rw [List.getElem?_append_left lz]; exact kz) (.inr (by simp [Unm]))
  generalize hf:e.wait.getD i fr0=f at *
  have kf:S3[S2.length]?=some (.cells 0 [V.int IntKind.i64 f.kind,V.bool f.last,V.int IntKind.i64 f.stream,V.str f.body]):=hu3.2 _ _ (by simp -implicitDefEqProofs (disch:=omega) only [push_cast,simprocAttr,↓gd]) (.inr (by simp [Unm]))
  have hup3:=(hup.app _).ofU (Nat.le_refl _) hu3
  simp -implicitDefEqProofs (disch:=omega) only [push_cast,simprocAttr,h2,h4,h5,h20,h21,h22,kf,↓gd]
  refine ((widen_ok hEw (by omega) hfk hpt3).as rfl).mono ?_
  rintro r S4 ⟨rfl,hto⟩
  have hb4:=hb3.updP hpt3 hto
  have hup4:=hup3.ofP hto (by omega) (by omega) (by omega)
  have kz4:=hto.upd.get kz3 (by simp; omega)
  simp -implicitDefEqProofs (disch:=omega) only [push_cast,simprocAttr,h2,h4,h5,h20,h21,h22,↓gd]
  exact ⟨e.wait.length - (i+1),by omega,i+1,rfl,by omega,by simp,by rw [hstep]; exact hto.at_,by rw [hstep]; exact hb4,kz4,hup4⟩
 ·have:i=e.wait.length:=by omega
  subst this
  rw [List.take_length] at hE
  have hw0:=hEw.noWait
  have hwe:writeM e=((saysM e.strs.length 0 { E with wait:=[] }).1,o++(saysM e.strs.length 0 { E with wait:=[] }).2):=by rw [writeM_eq,hE]
  rw [hwe]
  have hns0:({ E with wait:=[] }:En).strs.length=e.strs.length:=hEs
  have hel:=hW.b (by decide)
  have hel:=hel.len
  simp -implicitDefEqProofs (disch:=omega) only [push_cast,simprocAttr,h2,h4,h5,h20,h21,h22,hvar,↓gd]
  have hpt0:PtrAt ((S2.set S1.length (.cells 0 (enC (.heap b' e.strs.length) .nils { E with wait:=[] }))).set S1.length (.cells 0 (enC (.heap b' e.strs.length) (.heap S2.length 0) { E with wait:=[] }))++[.cells 4 []]) S1.length b' S2.length { E with wait:=[] }:=by
   have hb2:=hpt.at_.1
   refine ⟨?_,?_,?_⟩
   ·simp -implicitDefEqProofs (disch:=omega) only [push_cast,simprocAttr,↓gd]
    rw [hEs]
   ·simp -implicitDefEqProofs (disch:=omega) only [push_cast,simprocAttr,hb2,↓gd]
   ·simp -implicitDefEqProofs (disch:=omega) only [push_cast,simprocAttr,↓gd]
    rfl
  have hbd0:=(hbdr.upd (((Upd.refl [S1.length] S2).set (i:=S1.length) (.cells 0 (enC (.heap b' e.strs.length) .nils { E with wait:=[] })) (.inr (by simp))).set (i:=S1.length) (.cells 0 (enC (.heap b' e.strs.length) (.heap S2.length 0) { E with wait:=[] })) (.inr (by simp))) (fun j hj=>by obtain rfl:=List.mem_singleton.1 hj; exact ⟨_,_,hpt.var,by decide⟩)).app [.cells 4 []]
  have kz0:((S2.set S1.length (.cells 0 (enC (.heap b' e.strs.length) .nils { E with wait:=[] }))).set S1.length (.cells 0 (enC (.heap b' e.strs.length) (.heap S2.length 0) { E with wait:=[] }))++[.cells 4 []])[S.length+1]?=some (.cells 0 zE):=by simp -implicitDefEqProofs (disch:=omega) only [push_cast,simprocAttr,kz,↓gd]
  have hup0:Upd [] S ((S2.set S1.length (.cells 0 (enC (.heap b' e.strs.length) .nils { E with wait:=[] }))).set S1.length (.cells 0 (enC (.heap b' e.strs.length) (.heap S2.length 0) { E with wait:=[] }))++[.cells 4 []]) :=
   ((hup.set _ (.inl (by omega))).set _ (.inl (by omega))).app _
  obtain ⟨S3,hS3⟩:∃S3,S3=(S2.set S1.length (.cells 0 (enC (.heap b' e.strs.length) .nils { E with wait:=[] }))).set S1.length (.cells 0 (enC (.heap b' e.strs.length) (.heap S2.length 0) { E with wait:=[] }))++[.cells 4 []]:=⟨_,rfl⟩
  rw [←hS3] at hpt0 hbd0 kz0 hup0
  refine wpV_ghost (S1:=S3) (fun G w hR=>?_) ?_
  ·rw [hS3]
   have hat9:=NH.at_ (n:=S2.length) (cs:=enC (.heap b' e.strs.length) .nils { E with wait:=[] }) (i:=9) rfl
   refine hR.nhCell (p:=S1.length) (m:=0) (sz:=4) (cs:=enC (.heap b' e.strs.length) .nils { E with wait:=[] }) (ds:=enC (.heap b' e.strs.length) (.heap S2.length 0) { E with wait:=[] }) ?_ rfl ?_
   ·simp -implicitDefEqProofs (disch:=omega) only [push_cast,simprocAttr,↓gd]
   ·rw [List.length_set]
    exact hat9
  generalize hF:({ E with wait:=[] }:En)=F at hpt0 hw0 hns0
  have hk1:∀n,n≤e.strs.length→EnW 0 (saysM n 0 F).1∧(saysM n 0 F).1.strs.length=e.strs.length∧(saysM n 0 F).2.length≤n * 2000:=fun n hn=>⟨(saysM_w n 0 F hw0 (by omega)).1,by rw [(saysM_w n 0 F hw0 (by omega)).2,hns0],saysM_len n 0 F hw0 (by omega)⟩
  have hol2:o.length≤e.wait.length * 300:=Nat.le_trans hoi (Nat.mul_le_mul_right _ (by simp))
  have hs4:=stsOk_len hW.sts
  have l3:=lt_of_some kz0
  have lv:=lt_of_some hpt0.var
  refine wpV_loop (fun m t S4=>∃n:Nat,m=e.strs.length - n∧n≤e.strs.length∧t 2=.ptr (S.length+1) 0∧t 4=.ptr S1.length 0∧t 5=.ptr (S1.length+1) 0∧t 35=.int .i64 e.strs.length∧t 36=.int .i64 n ∧
   PtrAt S4 S1.length b' S2.length (saysM n 0 F).1∧BdAt S4 S.length (S1.length+1) (o++(saysM n 0 F).2)∧S4[S.length+1]?=some (.cells 0 zE)∧Upd [] S S4) e.strs.length
   ⟨0,by omega,by omega,h2,h4,h5,rfl,rfl,by simpa [saysM] using hpt0,by have:(saysM 0 0 F).2=[]:=rfl; rw [this,List.append_nil]; exact hbd0,kz0,hup0⟩ ?_
  rintro m t S4 ⟨n,rfl,hn',h2,h4,h5,h35,h36,hpt,hbdr,kz,hup⟩
  obtain ⟨hXw,hXs,hXl⟩:=hk1 n hn'
  have hsn:=saysM_snoc n 0 F
  rw [Nat.zero_add] at hsn
  generalize hX:saysM n 0 F=X at *
  obtain ⟨X,q⟩:=X
  simp only at *
  have hvar:=hpt.var
  have hbs:=hpt.at_.1
  rw [hXs] at hvar
  obtain ⟨n1,n2,n3,n4,n5,n6⟩:=hpt.nes
  have lz:=lt_of_some kz
  refine wpV_of0 hDw ?_
  simp -implicitDefEqProofs (disch:=omega) only [push_cast,simprocAttr,h2,h4,h5,h35,h36,↓gd]
  refine ⟨fun hlt=>?_,fun hlt=>?_⟩
  ·have hil:n < X.strs.length:=by omega
   have hlen:=strsC_len X.strs
   have g1:=strsC_get hil (c:=1) (by decide)
   have g2:=strsC_get hil (c:=2) (by decide)
   have g5:=strsC_get hil (c:=5) (by decide)
   have hm0:∀s,X.strs.getD n st0=s→(stAt X n=s∧sayM X n=if s.state≠1∨s.head=[]∨s.said=true then (X,[]) else sayE X n s):=fun s hs=>by subst hs; exact ⟨rfl,rfl⟩
   have hol:=hXw.sts
   have hlw:=sayM_len hXw hil
   have hYs:(sayM X n).1.strs.length=e.strs.length:=by rw [(sayM_w hXw hil).2]; exact hXs
   generalize hs:X.strs.getD n st0=s at g1 g2 g5
   obtain ⟨hs0,hm0⟩:=hm0 s hs
   obtain ⟨sid,sst,shd,ssay,sbg,ssd,ssent,sgot,stx,shrd,ssnd,srm⟩:=s
   have next:∀S5,(sayM X n)=(X,[])→S5=S4→∃m',m' < e.strs.length - n∧∃j:Nat,m'=e.strs.length - j∧j≤e.strs.length∧V.int .i64 ((n:Int)+1)=V.int .i64 (j:Int)∧PtrAt S5 S1.length b' S2.length (saysM j 0 F).1∧BdAt S5 S.length (S1.length+1) (o++(saysM j 0 F).2)∧S5[S.length+1]?=some (.cells 0 zE)∧Upd [] S S5:=by
    rintro S5 hq rfl
    rw [hq] at hsn
    refine ⟨e.strs.length - (n+1),by omega,n+1,rfl,by omega,by simp,?_,?_,kz,hup⟩
    ·rw [hsn]; exact hpt
    ·rw [hsn]; simpa using hbdr
   by_cases hst:sst=1
   ·by_cases hhd:shd=[]
    ·rw [if_pos (by simp [hhd])] at hm0
     subst hhd
     simp -implicitDefEqProofs (disch:=omega) only [push_cast,simprocAttr,h2,h4,h5,h35,h36,hvar,hbs,g1,g2,hst,↓gd]
     exact ⟨by omega,by omega,next _ hm0 rfl⟩
    ·have hpos:=List.length_pos_iff.2 hhd
     have hgt:(shd.length:Int) > 0:=by omega
     cases ssd
     ·rw [if_neg (by simp [hhd,hst])] at hm0
      simp -implicitDefEqProofs (disch:=omega) only [push_cast,simprocAttr,h2,h4,h5,h35,h36,hvar,hbs,g1,g2,g5,hst,hgt,↓gd]
      repeat refine And.intro (by omega) ?_
      refine ((say_ok hXw (by omega) hil (by rw [hs0]; exact hst) (by rw [hs0]) hpt).as rfl).mono ?_
      rintro r S5 ⟨rfl,hto⟩
      rw [hs0,←hm0] at hto ⊢
      have hb5:=hbdr.updP hpt hto
      have hup5:=hup.ofP hto (by omega) (by omega) (by omega)
      have kz5:=hto.upd.get kz (by simp; omega)
      clear hm0 hs0 next
      generalize hY:sayM X n=Y at *
      obtain ⟨Y,u⟩:=Y
      simp only at *
      simp -implicitDefEqProofs (disch:=omega) only [push_cast,simprocAttr,h2,h4,h5,h35,h36,↓gd]
      refine ((WriteString_ok hb5 (by have:=hup5.1; omega) u (by rw [List.length_append]; omega) (by omega)).as rfl).mono ?_
      rintro r S6 ⟨hb6,hu6⟩
      have hpt6:=hto.at_.updU hu6
      have kz6:=hu6.2 _ _ kz5 (.inr (by simp [Unm]))
      have hup6:=hup5.ofU (Nat.le_refl _) hu6
      simp -implicitDefEqProofs (disch:=omega) only [push_cast,simprocAttr,h2,h4,h5,h35,h36,↓gd]
      refine ⟨e.strs.length - (n+1),by omega,n+1,rfl,by omega,by simp,?_,?_,kz6,hup6⟩
      ·rw [hsn]; exact hpt6
      ·rw [hsn]; simpa using hb6
     ·rw [if_pos (by simp)] at hm0
      simp -implicitDefEqProofs (disch:=omega) only [push_cast,simprocAttr,h2,h4,h5,h35,h36,hvar,hbs,g1,g2,g5,hst,hgt,↓gd]
      exact ⟨by omega,by omega,next _ hm0 rfl⟩
   ·rw [if_pos (by simp [hst])] at hm0
    simp -implicitDefEqProofs (disch:=omega) only [push_cast,simprocAttr,h2,h4,h5,h35,h36,hvar,hbs,g1,hst,↓gd]
    exact ⟨by omega,by omega,next _ hm0 rfl⟩
  ·have:n=e.strs.length:=by omega
   subst this
   rw [hX]
   simp -implicitDefEqProofs (disch:=omega) only [push_cast,simprocAttr,h2,h4,h5,h35,h36,hvar,↓gd]
   refine ((eclone_R ow (hXw.b (by decide)) hpt.at_.x).as (by simp [xV,enX,hXs])).mono ?_
   rintro r S5 ⟨vo5,vi5,b5,c5,rfl,q5⟩
   have hb5:=hbdr.upd q5.upd (by simp)
   have kz5:=q5.upd.get kz (by simp)
   obtain ⟨w1,w2⟩:=q5.one
   obtain ⟨w3,w4⟩:=q5.er
   simp -implicitDefEqProofs (disch:=omega) only [push_cast,simprocAttr,h2,h4,h5,w1,w2,w3,w4,↓gd]
   refine ((String_ok hb5 (by rw [List.length_append]; omega)).as rfl).mono ?_
   rintro r S6 ⟨rfl,hu6⟩
   have kz6:=hu6.2 _ _ kz5 (.inr (by simp [Unm]))
   have lz6:=lt_of_some kz6
   have e3:=hup.1
   have hup6:Upd [] S S6:=(hup.trans q5.upd).ofU (Nat.le_refl _) hu6
   have q6:Res ow S vo5 vi5 b5 c5 X S6:=(q5.of hup).to (fun p n cs hn hp=>hu6.2 _ _ hp (.inr (by rcases hn with rfl | rfl | rfl <;> simp [Unm]))) hup6
   simp -implicitDefEqProofs (disch:=omega) only [push_cast,simprocAttr,h2,kz6,w1,w2,w3,w4,↓gd]
   exact ⟨_,_,Wk.refl _ _ _,_,rfl,vo5,vi5,b5,c5,by simp [xV,enX,hXs],q6.setVar _ kz6 (by omega)⟩
end
section
open Go
theorem FL.to {S S2:List Blk} {l:List Fd} {v:V} (h:FL S l v) (hk:∀(p:Nat) (cs:List V),S[p]?=some (.cells 3 cs)→S2[p]?=some (.cells 3 cs)):FL S2 l v:=by
 cases h with
 | rows=>exact .rows
 | own h=>exact .own (hk _ _ h)
theorem EnX.to {S S2:List Blk} {vo vi:V} {b c:Nat} {ls:List XS} {e:En} (h:EnX S vo vi b c ls e) (hk:∀(p n:Nat) (cs:List V),n≠0→S[p]?=some (.cells n cs)→S2[p]?=some (.cells n cs)):EnX S2 vo vi b c ls e :=
 ⟨h.strs,hk _ _ _ (by decide) h.hb,hk _ _ _ (by decide) h.hc,h.out.to fun p cs=>hk p 3 cs (by decide),h.inn.to fun p cs=>hk p 3 cs (by decide),fun x hx=>⟨(h.heads x hx).1.to fun p cs=>hk p 3 cs (by decide),(h.heads x hx).2.to fun p cs=>hk p 3 cs (by decide)⟩⟩
theorem keep_var {S:List Blk} {j:Nat} {cs:List V} {B:Blk} (hj:S[j]?=some (.cells 0 cs)):∀(p n:Nat) (ds:List V),n≠0→S[p]?=some (.cells n ds)→(S.set j B)[p]?=some (.cells n ds):=fun p n ds hn hp=>by
 have:j≠p:=by rintro rfl; rw [hj] at hp; cases hp; exact hn rfl
 rw [List.getElem?_set_ne this]; exact hp
structure XP where
 vo:V
 vi:V
 b:Nat
 c:Nat
 ls:List XS
def pE (p:XP) (e:En):List V:=enX p.vo p.vi (.heap p.b e.strs.length) (.heap p.c e.wait.length) e
@[push_cast] theorem pE_eq (p:XP) (e:En):pE p e=enX p.vo p.vi (.heap p.b e.strs.length) (.heap p.c e.wait.length) e:=rfl
def EX (S:List Blk) (p:XP) (e:En):Prop:=EnX S p.vo p.vi p.b p.c p.ls e
theorem EX.upd {S S':List Blk} {p:XP} {e:En} (h:EX S p e) (hu:Upd [] S S'):EX S' p e:=EnX.upd h hu
theorem EX.app {S:List Blk} {p:XP} {e:En} (h:EX S p e) (X:List Blk):EX (S++X) p e:=EnX.app h X
theorem EX.var {S:List Blk} {p:XP} {e:En} (h:EX S p e) {j:Nat} {cs:List V} (B:Blk) (hj:S[j]?=some (.cells 0 cs)):EX (S.set j B) p e:=EnX.to h (keep_var hj)
def pC (p q:XP) (w:Wo):List V:=pE p w.caller++pE q w.answerer++[.str w.up,.str w.down]
@[push_cast] theorem pC_eq (p q:XP) (w:Wo):pC p q w=pE p w.caller++pE q w.answerer++[.str w.up,.str w.down]:=rfl
def pV (p q:XP) (w:Wo):V:=.agg (pC p q w)
@[push_cast] theorem pV_eq (p q:XP) (w:Wo):pV p q w=.agg (pC p q w):=rfl
structure WX (S:List Blk) (p q:XP) (w:Wo):Prop where
 caller:EX S p w.caller
 answerer:EX S q w.answerer
theorem WX.upd {S S':List Blk} {p q:XP} {w:Wo} (h:WX S p q w) (hu:Upd [] S S'):WX S' p q w:=⟨h.caller.upd hu,h.answerer.upd hu⟩
theorem WX.app {S:List Blk} {p q:XP} {w:Wo} (h:WX S p q w) (X:List Blk):WX (S++X) p q w:=⟨h.caller.app X,h.answerer.app X⟩
theorem WX.var {S:List Blk} {p q:XP} {w:Wo} (h:WX S p q w) {j:Nat} {cs:List V} (B:Blk) (hj:S[j]?=some (.cells 0 cs)):WX (S.set j B) p q w:=⟨h.caller.var B hj,h.answerer.var B hj⟩
def RWX (S:List Blk) (w:Wo) (v:V):Prop:=∃p q,v=pV p q w∧WX S p q w
structure WoO (S:List Blk) (po pi b c:Nat) (ls:List XS) (qo qi d f:Nat) (ks:List XS) (w:Wo) (S':List Blk):Prop where
 caller:EnO S po pi b c ls w.caller S'
 answerer:EnO S qo qi d f ks w.answerer S'
 sep:∀p ∈ b :: c :: po :: pi :: fb ls,∀q ∈ d :: f :: qo :: qi :: fb ks,p < q
def RWO (S:List Blk) (w:Wo) (v:V) (S':List Blk):Prop:=∃po pi b c ls qo qi d f ks,v=pV ⟨.heap po w.caller.out.length,.heap pi w.caller.inn.length,b,c,ls⟩ ⟨.heap qo w.answerer.out.length,.heap qi w.answerer.inn.length,d,f,ks⟩ w∧WoO S po pi b c ls qo qi d f ks w S'
theorem EnO.of {T S S':List Blk} {po pi b c:Nat} {ls:List XS} {e:En} (h:EnO T po pi b c ls e S') (hu:Upd [] S T):EnO S po pi b c ls e S' :=
 ⟨h.strs,h.kb,h.kc,h.out,h.inn,h.own,h.lt,fun p hp=>Nat.le_trans hu.1 (h.lo p hp),Nat.le_trans hu.1 h.hb,Nat.le_trans hu.1 h.hc,hu.trans h.upd⟩
theorem EnO.var {S S':List Blk} {po pi b c:Nat} {ls:List XS} {e:En} (h:EnO S po pi b c ls e S') {j:Nat} {cs:List V} (B:Blk) (hj:S'[j]?=some (.cells 0 cs)) (hS:S.length≤j):EnO S po pi b c ls e (S'.set j B) :=
 h.to (keep_var hj) (h.upd.set _ (.inl hS))
theorem WoO.var {S S':List Blk} {po pi b c:Nat} {ls:List XS} {qo qi d f:Nat} {ks:List XS} {w:Wo} (h:WoO S po pi b c ls qo qi d f ks w S') {j:Nat} {cs:List V} (B:Blk) (hj:S'[j]?=some (.cells 0 cs)) (hS:S.length≤j):WoO S po pi b c ls qo qi d f ks w (S'.set j B) :=
 ⟨h.caller.var B hj hS,h.answerer.var B hj hS,h.sep⟩
theorem WoO.of {T S S':List Blk} {po pi b c:Nat} {ls:List XS} {qo qi d f:Nat} {ks:List XS} {w:Wo} (h:WoO T po pi b c ls qo qi d f ks w S') (hu:Upd [] S T):WoO S po pi b c ls qo qi d f ks w S' :=
 ⟨h.caller.of hu,h.answerer.of hu,h.sep⟩
theorem EnO.below {S S':List Blk} {po pi b c:Nat} {ls:List XS} {e:En} (h:EnO S po pi b c ls e S'):∀p ∈ b :: c :: po :: pi :: fb ls,p < S'.length:=fun p hp=>by
 simp only [List.mem_cons] at hp
 rcases hp with rfl | rfl | rfl | rfl | hp
 ·exact lt_of_some h.kb
 ·exact lt_of_some h.kc
 ·exact lt_of_some h.out
 ·exact lt_of_some h.inn
 ·exact h.own.lt p hp
theorem EnO.above {S S':List Blk} {po pi b c:Nat} {ls:List XS} {e:En} (h:EnO S po pi b c ls e S'):∀p ∈ b :: c :: po :: pi :: fb ls,S.length≤p:=fun p hp=>by
 simp only [List.mem_cons] at hp
 rcases hp with rfl | rfl | hp
 ·exact h.hb
 ·exact h.hc
 ·exact h.lo p (by simpa using hp)
theorem nh_at {S Z:List Blk} {cs:List V} (i k:Nat) (h:cs[i]?=some .nils):Wk S (.agg cs) Z (.agg (cs.set i (.heap Z.length 0))) (Z++[.cells k []]):=Wk.nh k (NH.aggAt (i:=i) h)
theorem RWO.zero {S X:List Blk}:∃r S2,Wk S (.agg zW) (S++X) r S2∧RWO S wo0 r S2:=by
 obtain ⟨Z,hZ⟩:∃Z,Z=S++X:=⟨_,rfl⟩
 rw [←hZ]
 have hl:S.length≤Z.length:=by rw [hZ,List.length_append]; omega
 have hu:Upd [] S Z:=by rw [hZ]; exact (Upd.refl _ _).app _
 have m1:=nh_at (S:=S) (Z:=Z) (cs:=zW) 1 3 rfl
 have m2:=m1.trans (nh_at 3 3 rfl)
 have m3:=m2.trans (nh_at 6 12 rfl)
 have m4:=m3.trans (nh_at 9 4 rfl)
 have m5:=m4.trans (nh_at 12 3 rfl)
 have m6:=m5.trans (nh_at 14 3 rfl)
 have m7:=m6.trans (nh_at 17 12 rfl)
 have m8:=m7.trans (nh_at 20 4 rfl)
 simp only [List.append_assoc,List.cons_append,List.nil_append,List.length_append,List.length_cons,List.length_nil] at m8
 refine ⟨_,_,m8,Z.length,Z.length+1,Z.length+2,Z.length+3,[],Z.length+4,Z.length+5,Z.length+6,Z.length+7,[],rfl,⟨⟨rfl,?_,?_,?_,?_,(fun x hx=>by cases hx),by simp [fb],fun p hp=>by simp [fb] at hp; omega,by omega,by omega,hu.app _⟩,⟨rfl,?_,?_,?_,?_,(fun x hx=>by cases hx),by simp [fb],fun p hp=>by simp [fb] at hp; omega,by omega,by omega,hu.app _⟩,?_⟩⟩
 ·rw [app_get]; rfl
 ·rw [app_get]; rfl
 ·rw [app_get0]; rfl
 ·rw [app_get]; rfl
 ·rw [app_get]; rfl
 ·rw [app_get]; rfl
 ·rw [app_get]; rfl
 ·rw [app_get]; rfl
 ·intro p hp q hq
  simp [fb] at hp hq
  omega
end
end Go.Proofs.YtldogccmhncnoaaGreat
