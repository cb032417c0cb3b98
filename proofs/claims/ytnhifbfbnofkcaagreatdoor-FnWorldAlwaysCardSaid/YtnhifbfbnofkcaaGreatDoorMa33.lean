/- A part of the proof: contracts of functions, or plain facts on which these lean. -/
import Derived.Test.YtnhifbfbnofkcaaGreatDoorMa26
import Derived.Test.YtnhifbfbnofkcaaGreatDoorMa32
namespace Go.Proofs.YtnhifbfbnofkcaaGreatDoor
open Go
set_option linter.unusedVariables false
set_option linter.unusedSimpArgs false
set_option maxRecDepth 100000
set_option maxHeartbeats 16000000

section
open Go
theorem WorldPlay_ok (l:List Ev) (hl:l.length≤1000000) (hv:∀v ∈ l,EvB v) (hoks:l.length≤60→∀i,i≤l.length→endOk (playM (l.take i)).caller=true∧endOk (playM (l.take i)).answerer=true) (S:List Blk) :
  VCall Tryz.prog 8 [.rows none (l.map evV)] S fun r S'=>∃u,r=.tup [u,.bool (worldPlayM l).2]∧RWNew S (worldPlayM l).1 u S':=by
 refine VCall.en hDe Tryz.func8 Tryz.ntmps8 Tryz.results8 ?_
 by_cases h60:(l.length:Int) > 60
 ·rw [worldPlayM,if_pos (by omega)]
  simp -implicitDefEqProofs (disch:=omega) only [push_cast,simprocAttr,h60,↓gd]
  obtain ⟨r,S2,h1,h2⟩:=RWNew.zero (S:=S) (X:=[.cells 0 zW])
  exact ⟨_,S2,h1.fst (xs:=[.bool false]) (by simp [Plain]),r,rfl,h2⟩
 ·rw [worldPlayM,if_neg (by omega)]
  have hoks:=hoks (by omega)
  simp -implicitDefEqProofs (disch:=omega) only [push_cast,simprocAttr,h60,↓gd]
  refine (WorldNew_ok _).mono ?_
  rintro r S1 ⟨b,c,d,f,rfl,q1⟩
  have k0:S1[S.length]?=some (.cells 0 zW):=q1.upd.get (by simp -implicitDefEqProofs (disch:=omega) only [push_cast,simprocAttr,↓gd]) (by simp)
  have e0:=q1.hb; have e1:=q1.hc; have e2:=q1.hd; have e3:=q1.hf
  simp at e0 e1 e2 e3
  have hS1:=lt_of_some k0
  simp -implicitDefEqProofs (disch:=omega) only [push_cast,simprocAttr,k0,↓gd]
  refine wpV_loop (fun m t S2=>∃(i b c d f:Nat),m=l.length - i∧i≤l.length∧t 2=.ptr S.length 0∧t 4=.ptr S1.length 0∧t 12=.rows none (l.map evV)∧t 13=.int .i64 l.length∧t 14=.int .i64 i ∧
   S2[S1.length]?=some (.cells 0 (wC b c d f (playM (l.take i))))∧S2[S.length]?=some (.cells 0 zW)∧WoNew S (playM (l.take i)) b c d f S2) l.length
   ⟨0,b,c,d,f,by omega,by omega,rfl,rfl,rfl,rfl,rfl,by simp -implicitDefEqProofs (disch:=omega) only [push_cast,simprocAttr,↓gd]; rfl,by simp -implicitDefEqProofs (disch:=omega) only [push_cast,simprocAttr,k0,↓gd],q1.app.appR _⟩ ?_
  rintro m t S2 ⟨i,b1,c1,d1,f1,rfl,hi,h2,h4,h12,h13,h14,k1,k0,q2⟩
  have l0:=lt_of_some k0
  have l1:=lt_of_some k1
  have hW:=playM_w (l.take i)
  have hti:(l.take i).length=i:=by simp; omega
  refine wpV_of0 hDe ?_
  simp -implicitDefEqProofs (disch:=omega) only [push_cast,simprocAttr,h2,h4,h12,h13,h14,k0,k1,↓gd]
  refine ⟨fun h=>?_,fun h=>?_⟩
  ·have hil:i < l.length:=by omega
   have hgd:=getD_evV hil
   have hst:=playM_take ev0 hil
   have hvb:EvB (l.getD i ev0):=hv _ (by rw [getD_lt ev0 hil]; exact List.getElem_mem hil)
   have hoki:=hoks i hi
   generalize l.getD i ev0=v at *
   have hB:=hW.b (by omega)
   generalize playM (l.take i)=w at *
   simp -implicitDefEqProofs (disch:=omega) only [push_cast,simprocAttr,h2,h4,h12,h13,h14,k0,k1,hgd,evs_len5,↓gd]
   repeat refine And.intro (by omega) ?_
   refine ((do_ok hB hoki.1 hoki.2 v hvb (q2.at_.app _)).as (by simp [wV,wC,enC,evV])).mono ?_
   rintro r S3 ⟨⟨b2,c2,d2,f2,rfl,q3⟩,hu3⟩
   have v0:=q2.at_.var k0
   have v1:=q2.at_.var k1
   have k0':=hu3.get (j:=S.length) (B:=.cells 0 zW) (by simp -implicitDefEqProofs (disch:=omega) only [push_cast,simprocAttr,k0,↓gd]) (by simp)
   have k1':=hu3.get (j:=S1.length) (B:=.cells 0 (wC b1 c1 d1 f1 w)) (by simp -implicitDefEqProofs (disch:=omega) only [push_cast,simprocAttr,k1,↓gd]) (by simp)
   have l1':=lt_of_some k1'
   have hn:=q2.to q3.app
   have v1':=hn.at_.var k1'
   rw [←hst] at hn
   rw [←hst]
   generalize doM w v=y at *
   simp -implicitDefEqProofs (disch:=omega) only [push_cast,simprocAttr,h2,h4,h12,h13,h14,k0',k1',↓gd]
   exact ⟨l.length - (i+1),by omega,i+1,b2,c2,d2,f2,rfl,by omega,by simp,rfl,hn.set (j:=S1.length) _ (by omega) v1'⟩
  ·have:i=l.length:=by omega
   subst this
   rw [List.take_length] at *
   have hB:=hW.b (by omega)
   have hat:=q2.at_
   generalize playM l=w at *
   refine ((wclone_ok hB hat).as (by simp [wV,wC,enC])).mono ?_
   rintro r S3 ⟨b2,c2,d2,f2,rfl,q3⟩
   have k0':=q3.upd.get k0 (by simp)
   have v2:=q3.at_.var k0'
   have l0':=lt_of_some k0'
   have e1:=q3.hb; have e2:=q3.hc; have e3:=q3.hd; have e4:=q3.hf
   simp -implicitDefEqProofs (disch:=omega) only [push_cast,simprocAttr,h2,k0',↓gd]
   exact ⟨_,_,Wk.refl _ _ _,_,rfl,b2,c2,d2,f2,rfl,⟨q3.at_.set _ v2,by omega,by omega,by omega,by omega,(q2.upd.trans q3.upd).set _ (.inl (by omega))⟩⟩
structure Stays (I:Wo→Prop):Prop where
 step:∀w v,I w→I (doM w v)
 ok:∀w,I w→endOk w.caller=true∧endOk w.answerer=true
 idle:∀w,I w→(w.up=[]→passM w 0 90=w)∧(w.down=[]→passM w 1 90=w)
def passN:Nat→Wo→Int→Wo
 | 0,w,_=>w
 | n+1,w,way=>passN n (passM w way 90) way
theorem passN_snoc:∀(n:Nat) (w:Wo) (way:Int),passN (n+1) w way=passM (passN n w way) way 90
 | 0,w,way=>rfl
 | n+1,w,way=>passN_snoc n (passM w way 90) way
theorem passM_do (w:Wo) (way n:Int):passM w way n=doM w ⟨4,way,n,[],[]⟩:=rfl
theorem sayWM_do (w:Wo) (side:Int):sayWM w side=doM w ⟨3,side,0,[],[]⟩:=rfl
theorem passN_idle {I:Wo→Prop} (hI:Stays I) (way:Int):∀(n:Nat) (w:Wo),I w→(way=0∧w.up=[])∨(way=1∧w.down=[])→passN n w way=w
 | 0,w,_,_=>rfl
 | n+1,w,h,hw=>by
  have e:passM w way 90=w:=by
   rcases hw with ⟨rfl,hw⟩ | ⟨rfl,hw⟩
   ·exact (hI.idle w h).1 hw
   ·exact (hI.idle w h).2 hw
  rw [passN,e]
  exact passN_idle hI way n w h hw
theorem allM_passN {I:Wo→Prop} (hI:Stays I) (way:Int):∀(n:Nat) (w:Wo),I w→allM n w way=passN n w way
 | 0,w,_=>rfl
 | n+1,w,h=>by
  have h1:I (passM w way 90):=by rw [passM_do]; exact hI.step _ _ h
  rw [allM_succ,passN]
  split
  ·rename_i hc
   rw [passN_idle hI way n _ h1 hc]
  ·exact allM_passN hI way n _ h1
structure CalmAt (I:Wo→Prop) (S:List Blk) (b c d f:Nat) (x:Wo) (b1 c1 d1 f1:Nat) (S2:List Blk):Prop where
 var:S2[S.length]?=some (.cells 0 (wC b1 c1 d1 f1 x))
 zero:S2[S.length+1]?=some (.cells 0 zW)
 to:WoTo S b c d f x b1 c1 d1 f1 S2
 upd:Upd [] S S2
 i:I x
 w:WoW 642 x
theorem CalmAt.step {I:Wo→Prop} {S:List Blk} {b c d f:Nat} {x y:Wo} {b1 c1 d1 f1 b2 c2 d2 f2:Nat} {S2 S3:List Blk} (h:CalmAt I S b c d f x b1 c1 d1 f1 S2) (q:WoTo S2 b1 c1 d1 f1 y b2 c2 d2 f2 S3) (hu:Upd [] S2 S3) (hi:I y) (hw:WoW 642 y) :
  CalmAt I S b c d f y b2 c2 d2 f2 (S3.set S.length (.cells 0 (wC b2 c2 d2 f2 y))):=by
 have k0:=hu.get h.var (by simp)
 have k1:=hu.get h.zero (by simp)
 have l0:=lt_of_some k0
 have hn:=h.to.trans q
 have v0:=hn.at_.var k0
 refine ⟨by rw [List.getElem?_set,if_pos rfl,if_pos l0],?_,hn.set (j:=S.length) _ (Nat.le_refl _) v0,(h.upd.trans hu).set _ (.inl (Nat.le_refl _)),hi,hw⟩
 rw [get_set_ne (by omega)]
 exact k1
def halfM (w:Wo) (way:Int):Wo:=passN 12 (sayWM w way) way
theorem roundM_half {I:Wo→Prop} (hI:Stays I) {w:Wo} (h:I w):roundM w=halfM (halfM w 0) 1:=by
 have h1:I (sayWM w 0):=by rw [sayWM_do]; exact hI.step _ _ h
 have e1:allM 12 (sayWM w 0) 0=passN 12 (sayWM w 0) 0:=allM_passN hI 0 12 _ h1
 have h2:∀n x way,I x→I (passN n x way):=by
  intro n
  induction n with
  | zero=>intro x way hx; exact hx
  | succ n ih=>intro x way hx; exact ih _ way (by rw [passM_do]; exact hI.step _ _ hx)
 have h3:I (sayWM (passN 12 (sayWM w 0) 0) 1):=by rw [sayWM_do]; exact hI.step _ _ (h2 12 _ 0 h1)
 rw [roundM,e1,allM_passN hI 1 12 _ h3]
 rfl
def partM (w:Wo):Nat→Wo
 | 0=>w
 | 1=>halfM w 0
 | _=>halfM (halfM w 0) 1
theorem partM_succ (w:Wo) {j:Nat} (h:j < 2):partM w (j+1)=halfM (partM w j) j:=by
 rcases (show j=0∨j=1 by omega) with rfl | rfl <;> rfl
theorem WorldCalm_ok {I:Wo→Prop} (hI:Stays I) {w:Wo} (hB:WoB w) (hw:woOk w=true→I w) (n:Int) {S:List Blk} {b c d f:Nat} (h:WoAt S b c d f w):VCall Tryz.prog 11 [wV b c d f w,.int .i64 n] S fun r S'=>RWNew S (worldCalmM w n) r S':=by
 have hok:=fun X=>WorldOk_ok hB (h.app X)
 obtain ⟨n1,n2,n3,n4,n5,n6,n7,n8⟩:=h.nes
 refine VCall.en hDe Tryz.func11 Tryz.ntmps11 Tryz.results11 ?_
 simp -implicitDefEqProofs (disch:=omega) only [push_cast,simprocAttr,↓gd]
 refine ((hok _).as (by simp [wV,wC,enC])).to ?_
 cases hE:woOk w
 ·rw [worldCalmM,if_pos (.inl hE)]
  simp -implicitDefEqProofs (disch:=omega) only [push_cast,simprocAttr,↓gd]
  exact RWNew.zero
 ·by_cases hin:0≤n∧n≤16
  ·rw [worldCalmM,if_neg (by rw [hE]; simpa using hin)]
   have hIw:=hw hE
   have hW:WoW 642 w:=(woOk_w hE).mono (by omega)
   simp -implicitDefEqProofs (disch:=omega) only [push_cast,simprocAttr,↓gd]
   refine (in_t hin _).to ?_
   simp -implicitDefEqProofs (disch:=omega) only [push_cast,simprocAttr,↓gd]
   refine wpV_loop (fun m t S2=>∃(i b1 c1 d1 f1:Nat),m=n.toNat - i∧i≤n.toNat∧t 2=.ptr S.length 0∧t 4=.ptr (S.length+1) 0∧t 15=.int .i64 n∧t 16=.int .i64 i ∧
    CalmAt I S b c d f (roundsM i w) b1 c1 d1 f1 S2) n.toNat
    ⟨0,b,c,d,f,by omega,by omega,rfl,rfl,rfl,rfl,by simp -implicitDefEqProofs (disch:=omega) only [push_cast,simprocAttr,↓gd]; rfl,by simp -implicitDefEqProofs (disch:=omega) only [push_cast,simprocAttr,↓gd],.stay h,(Upd.refl _ _).app _,hIw,hW⟩ ?_
   rintro m t S2 ⟨i,b1,c1,d1,f1,rfl,hi,h2,h4,h15,h16,hca⟩
   have k0:=hca.var
   have k1:=hca.zero
   have l0:=lt_of_some k0
   have l1:=lt_of_some k1
   have hst:=roundsM_snoc i w
   have hri:=roundM_half hI hca.i
   refine wpV_of0 hDe ?_
   by_cases hlt:i < n.toNat
   ·have hlt':(i:Int) < n:=by omega
    have hm1:n.toNat - (i+1) < n.toNat - i:=by omega
    have hm2:i+1≤n.toNat:=by omega
    generalize roundsM i w=x at *
    simp -implicitDefEqProofs (disch:=omega) only [push_cast,simprocAttr,h2,h4,h15,h16,hlt',↓gd]
    refine wpV_loop (fun m t S3=>∃(j b2 c2 d2 f2:Nat),m=2 - j∧j≤2∧t 2=.ptr S.length 0∧t 4=.ptr (S.length+1) 0∧t 15=.int .i64 n∧t 16=.int .i64 i∧t 18=.int .i64 j ∧
     CalmAt I S b c d f (partM x j) b2 c2 d2 f2 S3) 2 ⟨0,b1,c1,d1,f1,by omega,by omega,h2,h4,h15,h16,rfl,hca⟩ ?_
    rintro m t S3 ⟨j,b2,c2,d2,f2,rfl,hj,h2,h4,h15,h16,h18,hcb⟩
    have k0:=hcb.var
    have k1:=hcb.zero
    have l0:=lt_of_some k0
    refine wpV_of0 hDe ?_
    by_cases hlj:j < 2
    ·have hlj':(j:Int) < 2:=by omega
     have hpj:=partM_succ x hlj
     generalize partM x j=y at *
     have hBy:=hcb.w.b (by decide)
     have hoy:=hI.ok _ hcb.i
     have hIs:I (sayWM y j):=by rw [sayWM_do]; exact hI.step _ _ hcb.i
     have hWs:=sayWM_w hcb.w j
     simp -implicitDefEqProofs (disch:=omega) only [push_cast,simprocAttr,h2,h4,h15,h16,h18,hlj',k0,↓gd]
     refine ((do_ok hBy hoy.1 hoy.2 ⟨3,j,0,[],[]⟩ (by simp [EvB]) hcb.to.at_).as (by simp [wV,wC,enC,evV])).mono ?_
     rintro r S4 ⟨⟨b3,c3,d3,f3,rfl,q4⟩,hu4⟩
     rw [←sayWM_do] at q4 ⊢
     have hcd:=hcb.step q4 hu4 hIs hWs
     have k0':=hu4.get k0 (by simp)
     have l0':=lt_of_some k0'
     rw [halfM] at hpj
     generalize sayWM y j=z at *
     simp -implicitDefEqProofs (disch:=omega) only [push_cast,simprocAttr,h2,h4,h15,h16,h18,k0',↓gd]
     refine wpV_loop (fun m t S5=>∃(k b4 c4 d4 f4:Nat),m=12 - k∧k≤12∧t 2=.ptr S.length 0∧t 4=.ptr (S.length+1) 0∧t 15=.int .i64 n∧t 16=.int .i64 i∧t 18=.int .i64 j∧t 5=.int .i64 j∧t 25=.int .i64 k ∧
      CalmAt I S b c d f (passN k z j) b4 c4 d4 f4 S5) 12 ⟨0,b3,c3,d3,f3,by omega,by omega,h2,h4,h15,h16,h18,rfl,rfl,hcd⟩ ?_
     rintro m t S5 ⟨k,b4,c4,d4,f4,rfl,hk,h2,h4,h15,h16,h18,h5,h25,hce⟩
     have k0:=hce.var
     have l0:=lt_of_some k0
     refine wpV_of0 hDe ?_
     by_cases hlk:k < 12
     ·have hlk':(k:Int) < 12:=by omega
      have hpk:=passN_snoc k z j
      generalize passN k z j=u at *
      have hBu:=hce.w.b (by decide)
      have hou:=hI.ok _ hce.i
      have hIp:I (passM u j 90):=by rw [passM_do]; exact hI.step _ _ hce.i
      have hWp:=passM_w hce.w (Nat.le_refl _) j 90
      simp -implicitDefEqProofs (disch:=omega) only [push_cast,simprocAttr,h2,h4,h15,h16,h18,h5,h25,hlk',k0,↓gd]
      refine ((do_ok hBu hou.1 hou.2 ⟨4,j,90,[],[]⟩ (by simp [EvB]) hce.to.at_).as (by simp [wV,wC,enC,evV])).mono ?_
      rintro r S6 ⟨⟨b5,c5,d5,f5,rfl,q6⟩,hu6⟩
      rw [←passM_do] at q6 ⊢
      have hcf:=hce.step q6 hu6 hIp hWp
      have k0':=hu6.get k0 (by simp)
      have l0':=lt_of_some k0'
      rw [←hpk] at hcf
      have hpk':=hpk.symm
      simp -implicitDefEqProofs (disch:=omega) only [push_cast,simprocAttr,h2,h4,h15,h16,h18,h5,h25,k0',hpk',↓gd]
      exact ⟨12 - (k+1),by omega,k+1,b5,c5,d5,f5,rfl,by omega,by simp,hcf⟩
     ·have:k=12:=by omega
      subst this
      have hlk':¬(12:Int) < 12:=by omega
      simp -implicitDefEqProofs (disch:=omega) only [push_cast,simprocAttr,h2,h4,h15,h16,h18,h5,h25,↓gd]
      exact ⟨2 - (j+1),by omega,j+1,b4,c4,d4,f4,rfl,by omega,by simp,by rw [hpj]; exact hce⟩
    ·have:j=2:=by omega
     subst this
     simp -implicitDefEqProofs (disch:=omega) only [push_cast,simprocAttr,h2,h4,h15,h16,h18,↓gd]
     exact ⟨n.toNat - (i+1),hm1,i+1,b2,c2,d2,f2,rfl,hm2,by simp,by rw [hst,hri]; exact hcb⟩
   ·have:i=n.toNat:=by omega
    subst this
    have hlt':¬((n.toNat:Nat):Int) < n:=by omega
    generalize roundsM n.toNat w=x at *
    have hBx:=hca.w.b (by decide)
    simp -implicitDefEqProofs (disch:=omega) only [push_cast,simprocAttr,h2,h4,h15,h16,hlt',k0,↓gd]
    refine ((wclone_ok hBx hca.to.at_).as (by simp [wV,wC,enC])).mono ?_
    rintro r S3 ⟨b2,c2,d2,f2,rfl,q3⟩
    have k1':=q3.upd.get k1 (by simp)
    have v2:=q3.at_.var k1'
    have l1':=lt_of_some k1'
    have e1:=q3.hb; have e2:=q3.hc; have e3:=q3.hd; have e4:=q3.hf
    simp -implicitDefEqProofs (disch:=omega) only [push_cast,simprocAttr,h4,k1',↓gd]
    exact ⟨_,_,Wk.refl _ _ _,b2,c2,d2,f2,rfl,⟨q3.at_.set _ v2,by omega,by omega,by omega,by omega,(hca.upd.trans q3.upd).set _ (.inl (by omega))⟩⟩
  ·rw [worldCalmM,if_pos (.inr hin)]
   simp -implicitDefEqProofs (disch:=omega) only [push_cast,simprocAttr,↓gd]
   refine (in_f hin _).to ?_
   simp -implicitDefEqProofs (disch:=omega) only [push_cast,simprocAttr,↓gd]
   exact RWNew.zero
end
section
open Go
def headGetM (h:List Fd) (name:List UInt8):List UInt8 × Bool:=if headOk h then getM h name else ([],false)
theorem HeadGet_ok (h:List Fd) (hl:FdsB h) (name:List UInt8) (S:List Blk):VCall Tryz.prog 24 [.rows none (h.map fV),.str name] S fun r S'=>r=.tup [.str (headGetM h name).1,.bool (headGetM h name).2]∧S'=S:=by
 refine VCall.en hD Tryz.func24 Tryz.ntmps24 Tryz.results24 ?_
 simp -implicitDefEqProofs (disch:=omega) only [push_cast,simprocAttr,↓gd]
 refine ((HeadOk_ok h hl _).as rfl).to ?_
 cases hE:headOk h
 ·simp -implicitDefEqProofs (disch:=omega) only [push_cast,simprocAttr,↓gd]
  exact fin0 (by simp [headGetM,hE])
 ·simp -implicitDefEqProofs (disch:=omega) only [push_cast,simprocAttr,↓gd]
  refine ((get_ok h hl name _).as rfl).to ?_
  simp -implicitDefEqProofs (disch:=omega) only [push_cast,simprocAttr,↓gd]
  exact fin0 (by simp [headGetM,hE])
def FrsNew (S:List Blk) (l:List Fr) (v:V) (S':List Blk):Prop:=∃q,v=.heap q l.length∧S'[q]?=some (.cells 4 (frmsC l))∧S.length≤q∧Upd [] S S'
theorem FrsNew.nil {S X:List Blk}:∃r S2,Wk S .nils (S++X) r S2∧FrsNew S [] r S2 :=
 ⟨_,_,Wk.nh 4 .nil,(S++X).length,rfl,by rw [List.getElem?_append_right (Nat.le_refl _),Nat.sub_self]; rfl,by simp,((Upd.refl _ _).app _).app _⟩
end
section
open Go
theorem mem_short {l:List (List UInt8)} {n:Nat} (h:∀s ∈ l,s.length≤n) {s:List UInt8} (hs:s ∈ l):s.length≤n:=h s hs
theorem l72Path_ok (bs:List UInt8) (b p:Nat) (hp:p≤100000000) (hbs:bs.length≤2000) (S:List Blk) (hS:S[b]?=some (Rd bs p)) :
  VCall Tryz.prog 29 [.ptr b 0] S fun r S'=>(∃s:List UInt8,s.length≤20∧r=.str s)∧S'=S.set b (Rd bs (p+1)):=by
 have hbl:=rd_lt hS
 refine VCall.en hD Tryz.func29 Tryz.ntmps29 Tryz.results29 ?_
 simp -implicitDefEqProofs (maxSteps:=1000000) (disch:=omega) only [push_cast,simprocAttr,↓gd]
 refine ((of_ok bs b p [[47,101,99,104,111],[47,101,99,104,111],[47,117,112],[47,117,112],[47,108,101,110],[47,110,111,110,101],[]] (by simp) (by omega) hbs _ (by rw [List.getElem?_append_left hbl]; exact hS)).as rfl).mono ?_
 rintro r S1 ⟨⟨s,hs,rfl⟩,rfl⟩
 have hl:s.length≤20:=mem_short (by decide) hs
 simp -implicitDefEqProofs (maxSteps:=1000000) (disch:=omega) only [push_cast,simprocAttr,stA hbl,stB hbl,↓gd]
 exact ⟨_,_,finS (.str _),⟨s,hl,rfl⟩,rfl⟩
theorem l72Text_ok (bs:List UInt8) (b p:Nat) (hp:p≤100000000) (hbs:bs.length≤2000) (S:List Blk) (hS:S[b]?=some (Rd bs p)) :
  VCall Tryz.prog 30 [.ptr b 0] S fun r S'=>(∃s:List UInt8,s.length≤20∧r=.str s)∧∃p',p'≤p+20∧S'=S.set b (Rd bs p'):=by
 have hbl:=rd_lt hS
 have hS2:∀B,(S.set b B)[b]?=some B:=fun B=>List.getElem?_set_self hbl
 refine VCall.en hD Tryz.func30 Tryz.ntmps30 Tryz.results30 ?_
 simp -implicitDefEqProofs (maxSteps:=1000000) (disch:=omega) only [push_cast,simprocAttr,↓gd]
 refine (pickI bs b p 17 _ (by simp) (by omega) (by omega) hbs S hS).mono ?_
 rintro r S1 ⟨⟨q1,hq1,rfl⟩,rfl⟩
 simp -implicitDefEqProofs (maxSteps:=1000000) (disch:=omega) only [push_cast,simprocAttr,↓gd]
 refine wpV_loop (fun m t S'=>∃(s:List UInt8) (P:Nat) (X:List Blk),m≤16∧s.length+m≤16∧P+m≤p+17∧t 0=.ptr b 0∧t 3=.str s∧t 4=.int .i64 m∧S'=S.set b (Rd bs P)++X) q1 ⟨[],p+1,[],by omega,by simp; omega,by omega,rfl,rfl,rfl,by simp⟩ ?_
 rintro m t S' ⟨s,P,X,hm,hs,hP,h0,h3,h4,rfl⟩
 refine wpV_of0 hD ?_
 by_cases h:0 < m
 ·have h':(m:Int) > 0:=by omega
  simp -implicitDefEqProofs (maxSteps:=1000000) (disch:=omega) only [push_cast,simprocAttr,h0,h3,h4,h',↓gd]
  refine ((of_ok bs b P [[97],[98],[99],[121],[122],[55]] (by simp) (by omega) hbs _ (stC hbl _ _)).as rfl).mono ?_
  rintro r S1 ⟨⟨c,hc,rfl⟩,rfl⟩
  have hl:c.length≤1:=mem_short (by decide) hc
  simp -implicitDefEqProofs (maxSteps:=1000000) (disch:=omega) only [push_cast,simprocAttr,h0,h3,h4,stA hbl,stB hbl,↓gd]
  exact ⟨by omega,m - 1,by omega,s++c,P+1,_,by omega,by rw [List.length_append]; omega,by omega,rfl,by congr 1; omega,rfl⟩
 ·have:m=0:=by omega
  subst this
  simp -implicitDefEqProofs (maxSteps:=1000000) (disch:=omega) only [push_cast,simprocAttr,h0,h3,h4,↓gd]
  exact ⟨_,_,finS (.str _),⟨s,by omega,rfl⟩,P,by omega,rfl⟩
def EvS (v:Ev):Prop:=v.path.length≤20∧v.text.length≤20
theorem EvS.b {v:Ev} (h:EvS v):EvB v:=⟨by have:=h.1; omega,by have:=h.2; omega⟩
theorem evV_cl (n:Nat) (v:Ev):Cl n (evV v):=by
 refine .agg ?_
 simp only [List.mem_cons,List.not_mem_nil,or_false,forall_eq_or_imp,forall_eq]
 exact ⟨.int _ _,.int _ _,.int _ _,.str _,.str _⟩
theorem pieces {x:Nat} (h:x < 7):∃z:Int,[V.int .i64 1,V.int .i64 3,V.int .i64 7,V.int .i64 20,V.int .i64 45,V.int .i64 90,V.int .i64 90].getD x .junk=.int .i64 z:=by
 rcases (by omega:x=0∨x=1∨x=2∨x=3∨x=4∨x=5∨x=6) with rfl | rfl | rfl | rfl | rfl | rfl | rfl <;> exact ⟨_,rfl⟩
theorem l72Event_ok {w:Wo} (hB:WoB w) (b1 c1 d1 f1:Nat) (bs:List UInt8) (b p:Nat) (hp:p≤90000000) (hbs:bs.length≤2000) (S:List Blk) (hS:S[b]?=some (Rd bs p)) :
  VCall Tryz.prog 28 [.ptr b 0,wV b1 c1 d1 f1 w] S fun r S'=>(∃v:Ev,EvS v∧r=evV v)∧∃p',p'≤p+60∧S'=S.set b (Rd bs p'):=by
 have hbl:=rd_lt hS
 have hS2:∀B l,(S.set b B++l)[b]?=some B:=fun B l=>stC hbl _ _
 have hup:=hB.up
 have hdn:=hB.down
 have hcl:=hB.caller.len
 have fin:∀(v:Ev) (P:Nat) (X:List Blk),EvS v→P≤p+60→∃r S2,Wk S (evV v) (S.set b (Rd bs P)++X) r S2∧(∃v:Ev,EvS v∧r=evV v)∧∃p',p'≤p+60∧S2=S.set b (Rd bs p') :=
  fun v P X h1 h2=>⟨_,_,finS (evV_cl _ v),⟨v,h1,rfl⟩,P,h2,rfl⟩
 refine VCall.en hD Tryz.func28 Tryz.ntmps28 Tryz.results28 ?_
 simp -implicitDefEqProofs (maxSteps:=1000000) (disch:=omega) only [push_cast,simprocAttr,↓gd]
 refine (pickI bs b p 12 _ (by simp) (by omega) (by omega) hbs _ (by rw [List.getElem?_append_left hbl]; exact hS)).mono ?_
 rintro r S1 ⟨⟨q,hq,rfl⟩,rfl⟩
 by_cases k01:q=0∨q=1
 ·rcases k01 with rfl | rfl
  ·simp -implicitDefEqProofs (maxSteps:=1000000) (disch:=omega) only [push_cast,simprocAttr,stA hbl,stB hbl,↓gd]
   refine (l72Path_ok bs b (p+1) (by omega) hbs _ (hS2 _ _)).mono ?_
   rintro r S1 ⟨⟨s1,hs1,rfl⟩,rfl⟩
   simp -implicitDefEqProofs (maxSteps:=1000000) (disch:=omega) only [push_cast,simprocAttr,stA hbl,stB hbl,↓gd]
   refine (l72Text_ok bs b (p+2) (by omega) hbs _ (hS2 _ _)).mono ?_
   rintro r S1 ⟨⟨s2,hs2,rfl⟩,p2,hp2,rfl⟩
   simp -implicitDefEqProofs (maxSteps:=1000000) (disch:=omega) only [push_cast,simprocAttr,stA hbl,stB hbl,↓gd]
   exact fin ⟨1,0,0,s1,s2⟩ p2 _ ⟨hs1,hs2⟩ (by omega)
  ·simp -implicitDefEqProofs (maxSteps:=1000000) (disch:=omega) only [push_cast,simprocAttr,stA hbl,stB hbl,↓gd]
   refine (l72Path_ok bs b (p+1) (by omega) hbs _ (hS2 _ _)).mono ?_
   rintro r S1 ⟨⟨s1,hs1,rfl⟩,rfl⟩
   simp -implicitDefEqProofs (maxSteps:=1000000) (disch:=omega) only [push_cast,simprocAttr,stA hbl,stB hbl,↓gd]
   refine (l72Text_ok bs b (p+2) (by omega) hbs _ (hS2 _ _)).mono ?_
   rintro r S1 ⟨⟨s2,hs2,rfl⟩,p2,hp2,rfl⟩
   simp -implicitDefEqProofs (maxSteps:=1000000) (disch:=omega) only [push_cast,simprocAttr,stA hbl,stB hbl,↓gd]
   exact fin ⟨1,0,0,s1,s2⟩ p2 _ ⟨hs1,hs2⟩ (by omega)
 by_cases k2:q=2
 ·subst k2
  simp -implicitDefEqProofs (maxSteps:=1000000) (disch:=omega) only [push_cast,simprocAttr,stA hbl,stB hbl,↓gd]
  refine (pickI bs b (p+1) 2 _ (by simp) (by omega) (by omega) hbs _ (hS2 _ _)).mono ?_
  rintro r S1 ⟨⟨x,hx,rfl⟩,rfl⟩
  rcases (by omega:x=0∨x=1) with rfl | rfl
  ·have emax:(if (1:Int) > (w.caller.strs.length:Int) then (1:Int) else (w.caller.strs.length:Int))=((max w.caller.strs.length 1:Nat):Int):=by omega
   simp -implicitDefEqProofs (maxSteps:=1000000) (disch:=omega) only [push_cast,simprocAttr,stA hbl,stB hbl,emax,↓gd]
   refine (pickI bs b (p+2) (max w.caller.strs.length 1) _ (by simp) (by omega) (by omega) hbs _ (hS2 _ _)).mono ?_
   rintro r S1 ⟨⟨x,hx,rfl⟩,rfl⟩
   simp -implicitDefEqProofs (maxSteps:=1000000) (disch:=omega) only [push_cast,simprocAttr,stA hbl,stB hbl,↓gd]
   exact fin ⟨2,1+2 * x,0,[],[]⟩ _ _ (by simp [EvS]) (by omega)
  ·simp -implicitDefEqProofs (maxSteps:=1000000) (disch:=omega) only [push_cast,simprocAttr,stA hbl,stB hbl,↓gd]
   refine (pickI bs b (p+2) 2 _ (by simp) (by omega) (by omega) hbs _ (hS2 _ _)).mono ?_
   rintro r S1 ⟨⟨y,hy,rfl⟩,rfl⟩
   by_cases u0:w.up=[]
   ·have u0':=eq_true u0
    have u1:(w.up.length:Int)=0:=by rw [u0]; rfl
    by_cases e0:w.down=[]
    ·have e0':(w.down.length:Int)=0:=by rw [e0]; rfl
     simp -implicitDefEqProofs (maxSteps:=1000000) (disch:=omega) only [push_cast,simprocAttr,stA hbl,stB hbl,u1,e0',↓gd]
     refine (pickI bs b (p+2+1) 7 _ (by simp) (by omega) (by omega) hbs _ (hS2 _ _)).mono ?_
     rintro r S1 ⟨⟨x,hx,rfl⟩,rfl⟩
     obtain ⟨z,hz⟩:=pieces hx
     simp -implicitDefEqProofs (maxSteps:=1000000) (disch:=omega) only [push_cast,simprocAttr,stA hbl,stB hbl,hz,↓gd]
     exact ⟨by omega,by omega,fin ⟨4,0,z,[],[]⟩ _ _ (by simp [EvS]) (by omega)⟩
    ·have e0':¬(w.down.length:Int)=0:=by have:=List.length_pos_iff.2 e0; omega
     simp -implicitDefEqProofs (maxSteps:=1000000) (disch:=omega) only [push_cast,simprocAttr,stA hbl,stB hbl,u1,e0',↓gd]
     refine (pickI bs b (p+2+1) 7 _ (by simp) (by omega) (by omega) hbs _ (hS2 _ _)).mono ?_
     rintro r S1 ⟨⟨x,hx,rfl⟩,rfl⟩
     obtain ⟨z,hz⟩:=pieces hx
     simp -implicitDefEqProofs (maxSteps:=1000000) (disch:=omega) only [push_cast,simprocAttr,stA hbl,stB hbl,hz,↓gd]
     exact ⟨by omega,by omega,fin ⟨4,1,z,[],[]⟩ _ _ (by simp [EvS]) (by omega)⟩
   ·have u0':¬(w.up.length:Int)=0:=by have:=List.length_pos_iff.2 u0; omega
    have u1:True:=trivial
    by_cases e0:w.down=[]
    ·have e0':(w.down.length:Int)=0:=by rw [e0]; rfl
     simp -implicitDefEqProofs (maxSteps:=1000000) (disch:=omega) only [push_cast,simprocAttr,stA hbl,stB hbl,u0',e0',↓gd]
     refine (pickI bs b (p+2+1) 7 _ (by simp) (by omega) (by omega) hbs _ (hS2 _ _)).mono ?_
     rintro r S1 ⟨⟨x,hx,rfl⟩,rfl⟩
     obtain ⟨z,hz⟩:=pieces hx
     simp -implicitDefEqProofs (maxSteps:=1000000) (disch:=omega) only [push_cast,simprocAttr,stA hbl,stB hbl,hz,↓gd]
     exact ⟨by omega,by omega,fin ⟨4,0,z,[],[]⟩ _ _ (by simp [EvS]) (by omega)⟩
    ·have e0':¬(w.down.length:Int)=0:=by have:=List.length_pos_iff.2 e0; omega
     simp -implicitDefEqProofs (maxSteps:=1000000) (disch:=omega) only [push_cast,simprocAttr,stA hbl,stB hbl,u0',e0',↓gd]
     refine (pickI bs b (p+2+1) 7 _ (by simp) (by omega) (by omega) hbs _ (hS2 _ _)).mono ?_
     rintro r S1 ⟨⟨x,hx,rfl⟩,rfl⟩
     obtain ⟨z,hz⟩:=pieces hx
     simp -implicitDefEqProofs (maxSteps:=1000000) (disch:=omega) only [push_cast,simprocAttr,stA hbl,stB hbl,hz,↓gd]
     exact ⟨by omega,by omega,fin ⟨4,y,z,[],[]⟩ _ _ (by simp [EvS]) (by omega)⟩
 by_cases k3:q=3∨q=4
 ·rcases k3 with rfl | rfl
  ·simp -implicitDefEqProofs (maxSteps:=1000000) (disch:=omega) only [push_cast,simprocAttr,stA hbl,stB hbl,↓gd]
   exact fin ⟨3,0,0,[],[]⟩ _ _ (by simp [EvS]) (by omega)
  ·simp -implicitDefEqProofs (maxSteps:=1000000) (disch:=omega) only [push_cast,simprocAttr,stA hbl,stB hbl,↓gd]
   exact fin ⟨3,0,0,[],[]⟩ _ _ (by simp [EvS]) (by omega)
 by_cases k5:q=5∨q=6
 ·rcases k5 with rfl | rfl
  ·simp -implicitDefEqProofs (maxSteps:=1000000) (disch:=omega) only [push_cast,simprocAttr,stA hbl,stB hbl,↓gd]
   exact fin ⟨3,1,0,[],[]⟩ _ _ (by simp [EvS]) (by omega)
  ·simp -implicitDefEqProofs (maxSteps:=1000000) (disch:=omega) only [push_cast,simprocAttr,stA hbl,stB hbl,↓gd]
   exact fin ⟨3,1,0,[],[]⟩ _ _ (by simp [EvS]) (by omega)
 have j0:¬(q:Int)=0:=by omega
 have j1:¬(q:Int)=1:=by omega
 have j2:¬(q:Int)=2:=by omega
 have j3:¬(q:Int)=3:=by omega
 have j4:¬(q:Int)=4:=by omega
 have j5:¬(q:Int)=5:=by omega
 have j6:¬(q:Int)=6:=by omega
 simp -implicitDefEqProofs (maxSteps:=1000000) (disch:=omega) only [push_cast,simprocAttr,stA hbl,stB hbl,j0,j1,j2,j3,j4,j5,j6,↓gd]
 refine (pickI bs b (p+1) 2 _ (by simp) (by omega) (by omega) hbs _ (hS2 _ _)).mono ?_
 rintro r S1 ⟨⟨y,hy,rfl⟩,rfl⟩
 by_cases u0:w.up=[]
 ·have u0':=eq_true u0
  have u1:(w.up.length:Int)=0:=by rw [u0]; rfl
  by_cases e0:w.down=[]
  ·have e0':(w.down.length:Int)=0:=by rw [e0]; rfl
   simp -implicitDefEqProofs (maxSteps:=1000000) (disch:=omega) only [push_cast,simprocAttr,stA hbl,stB hbl,u1,e0',↓gd]
   refine (pickI bs b (p+1+1) 7 _ (by simp) (by omega) (by omega) hbs _ (hS2 _ _)).mono ?_
   rintro r S1 ⟨⟨x,hx,rfl⟩,rfl⟩
   obtain ⟨z,hz⟩:=pieces hx
   simp -implicitDefEqProofs (maxSteps:=1000000) (disch:=omega) only [push_cast,simprocAttr,stA hbl,stB hbl,hz,↓gd]
   exact ⟨by omega,by omega,fin ⟨4,0,z,[],[]⟩ _ _ (by simp [EvS]) (by omega)⟩
  ·have e0':¬(w.down.length:Int)=0:=by have:=List.length_pos_iff.2 e0; omega
   simp -implicitDefEqProofs (maxSteps:=1000000) (disch:=omega) only [push_cast,simprocAttr,stA hbl,stB hbl,u1,e0',↓gd]
   refine (pickI bs b (p+1+1) 7 _ (by simp) (by omega) (by omega) hbs _ (hS2 _ _)).mono ?_
   rintro r S1 ⟨⟨x,hx,rfl⟩,rfl⟩
   obtain ⟨z,hz⟩:=pieces hx
   simp -implicitDefEqProofs (maxSteps:=1000000) (disch:=omega) only [push_cast,simprocAttr,stA hbl,stB hbl,hz,↓gd]
   exact ⟨by omega,by omega,fin ⟨4,1,z,[],[]⟩ _ _ (by simp [EvS]) (by omega)⟩
 ·have u0':¬(w.up.length:Int)=0:=by have:=List.length_pos_iff.2 u0; omega
  have u1:True:=trivial
  by_cases e0:w.down=[]
  ·have e0':(w.down.length:Int)=0:=by rw [e0]; rfl
   simp -implicitDefEqProofs (maxSteps:=1000000) (disch:=omega) only [push_cast,simprocAttr,stA hbl,stB hbl,u0',e0',↓gd]
   refine (pickI bs b (p+1+1) 7 _ (by simp) (by omega) (by omega) hbs _ (hS2 _ _)).mono ?_
   rintro r S1 ⟨⟨x,hx,rfl⟩,rfl⟩
   obtain ⟨z,hz⟩:=pieces hx
   simp -implicitDefEqProofs (maxSteps:=1000000) (disch:=omega) only [push_cast,simprocAttr,stA hbl,stB hbl,hz,↓gd]
   exact ⟨by omega,by omega,fin ⟨4,0,z,[],[]⟩ _ _ (by simp [EvS]) (by omega)⟩
  ·have e0':¬(w.down.length:Int)=0:=by have:=List.length_pos_iff.2 e0; omega
   simp -implicitDefEqProofs (maxSteps:=1000000) (disch:=omega) only [push_cast,simprocAttr,stA hbl,stB hbl,u0',e0',↓gd]
   refine (pickI bs b (p+1+1) 7 _ (by simp) (by omega) (by omega) hbs _ (hS2 _ _)).mono ?_
   rintro r S1 ⟨⟨x,hx,rfl⟩,rfl⟩
   obtain ⟨z,hz⟩:=pieces hx
   simp -implicitDefEqProofs (maxSteps:=1000000) (disch:=omega) only [push_cast,simprocAttr,stA hbl,stB hbl,hz,↓gd]
   exact ⟨by omega,by omega,fin ⟨4,y,z,[],[]⟩ _ _ (by simp [EvS]) (by omega)⟩
end
section
open Go
structure WoDr (S:List Blk) (b:Nat) (bs:List UInt8) (P:Nat) (w:Wo) (b1 c1 d1 f1:Nat) (S':List Blk):Prop where
 at_:WoAt S' b1 c1 d1 f1 w
 hb:S.length≤b1
 hc:S.length≤c1
 hd:S.length≤d1
 hf:S.length≤f1
 upd:Upd [b] S S'
 rd:S'[b]?=some (Rd bs P)
theorem right_ne {S:List Blk} {i j m n:Nat} {cs:List V} (h:S[i]?=some (.right m)) (k:S[j]?=some (.cells n cs)):i≠j:=by
 rintro rfl
 rw [h] at k
 cases k
theorem WoAt.rt {S:List Blk} {b c d f:Nat} {w:Wo} (h:WoAt S b c d f w) {j n:Nat} (hj:S[j]?=some (.right n)):b≠j∧c≠j∧d≠j∧f≠j :=
 ⟨Ne.symm (right_ne hj h.caller.1),Ne.symm (right_ne hj h.caller.2),Ne.symm (right_ne hj h.answerer.1),Ne.symm (right_ne hj h.answerer.2)⟩
theorem WoDr.set {S:List Blk} {b:Nat} {bs:List UInt8} {P:Nat} {w:Wo} {b1 c1 d1 f1:Nat} {S':List Blk} (h:WoDr S b bs P w b1 c1 d1 f1 S') {j:Nat} (B:Blk) (hj:S.length≤j) (hn:b1≠j∧c1≠j∧d1≠j∧f1≠j) (hb:b≠j):WoDr S b bs P w b1 c1 d1 f1 (S'.set j B) :=
 ⟨h.at_.set B hn,h.hb,h.hc,h.hd,h.hf,h.upd.set B (.inl hj),by rw [get_set_ne (Ne.symm hb)]; exact h.rd⟩
theorem WoDr.app {S:List Blk} {b:Nat} {bs:List UInt8} {P:Nat} {w:Wo} {b1 c1 d1 f1:Nat} {S':List Blk} (h:WoDr S b bs P w b1 c1 d1 f1 S') (X:List Blk):WoDr S b bs P w b1 c1 d1 f1 (S'++X) :=
 ⟨h.at_.app X,h.hb,h.hc,h.hd,h.hf,h.upd.app X,by rw [List.getElem?_append_left (lt_of_some h.rd)]; exact h.rd⟩
theorem WoDr.draw {S:List Blk} {b:Nat} {bs:List UInt8} {P:Nat} {w:Wo} {b1 c1 d1 f1:Nat} {S':List Blk} (h:WoDr S b bs P w b1 c1 d1 f1 S') (Q:Nat):WoDr S b bs Q w b1 c1 d1 f1 (S'.set b (Rd bs Q)) :=
 ⟨h.at_.set _ (h.at_.var (cs:=_) h.rd),h.hb,h.hc,h.hd,h.hf,h.upd.set _ (.inr (by simp)),List.getElem?_set_self (lt_of_some h.rd)⟩
theorem WoDr.to {S:List Blk} {b:Nat} {bs:List UInt8} {P:Nat} {w y:Wo} {b1 c1 d1 f1 b2 c2 d2 f2:Nat} {S1 S2:List Blk} (h:WoDr S b bs P w b1 c1 d1 f1 S1) (k:WoTo S1 b1 c1 d1 f1 y b2 c2 d2 f2 S2):WoDr S b bs P y b2 c2 d2 f2 S2:=by
 have hl:=h.upd.1
 have e1:=h.hb; have e2:=h.hc; have e3:=h.hd; have e4:=h.hf
 have e5:=k.hb; have e6:=k.hc; have e7:=k.hd; have e8:=k.hf
 have v:=h.at_.var (cs:=_) h.rd
 exact ⟨k.at_,by omega,by omega,by omega,by omega,h.upd.then_ k.upd (fun j hj hm=>by simp only [List.mem_cons,List.not_mem_nil,or_false] at hm; omega),k.upd.get h.rd (by simp; omega)⟩
theorem l72Play_ok (bs:List UInt8) (b p:Nat) (hp:p≤80000000) (hbs:bs.length≤2000) (S:List Blk) (hS:S[b]?=some (Rd bs p)) :
  VCall Tryz.prog 15 [.ptr b 0] S fun r S'=>∃(l:List Ev) (τ P b1 c1 d1 f1:Nat),l.length≤58∧(∀v ∈ l,EvS v)∧r=.tup [.rows (some τ) (l.map evV),wV b1 c1 d1 f1 (playM l)]∧S'[τ]?=some (.right 5)∧S.length≤τ∧P≤p+20000∧WoDr S b bs P (playM l) b1 c1 d1 f1 S':=by
 have hbl:=rd_lt hS
 refine VCall.ex hD (fun _=>false) (fun id=>if id=11 then [3,3,3,4] else []) Tryz.func15 Tryz.ntmps15 Tryz.results15 ?_
 simp -implicitDefEqProofs (disch:=omega) only [push_cast,simprocAttr,↓gd]
 refine (sWorldNew_ok _).mono ?_
 rintro r S1 ⟨b1,c1,d1,f1,rfl,q1⟩
 have k0:S1[S.length]?=some (.cells 0 zW):=q1.upd.get (by simp -implicitDefEqProofs (disch:=omega) only [push_cast,simprocAttr,↓gd]) (by simp)
 have kr:S1[b]?=some (Rd bs p):=q1.upd.get (by rw [List.getElem?_append_left hbl]; exact hS) (by simp)
 have l0:=lt_of_some k0
 have e1:=q1.hb; have e2:=q1.hc; have e3:=q1.hd; have e4:=q1.hf
 simp at e1 e2 e3 e4
 simp -implicitDefEqProofs (disch:=omega) only [push_cast,simprocAttr,k0,↓gd]
 have kr1:∀X,(S1++X)[b]?=some (Rd bs p):=fun X=>by rw [List.getElem?_append_left (lt_of_some kr)]; exact kr
 refine (pickI bs b p 59 _ (by simp) (by omega) (by omega) hbs _ (kr1 _)).mono ?_
 rintro r S2 ⟨⟨q,hq,rfl⟩,rfl⟩
 have hdr:WoDr S b bs p (playM []) b1 c1 d1 f1 S1:=⟨q1.at_,by omega,by omega,by omega,by omega,q1.app.upd.mono (fun _ _ hm=>by cases hm),kr⟩
 simp -implicitDefEqProofs (disch:=omega) only [push_cast,simprocAttr,↓gd]
 refine wpV_loop (fun m t S2=>∃(l:List Ev) (τ P b1 c1 d1 f1:Nat),m≤58∧l.length+m≤58∧P+m * 300≤p+18000∧(∀v ∈ l,EvS v)∧t 0=.ptr b 0∧t 3=.ptr S.length 0∧t 4=.ptr S1.length 0∧t 5=.rows (some τ) (l.map evV)∧t 6=.int .i64 m ∧
  S.length≤τ∧S2[τ]?=some (.right 5)∧S2[S1.length]?=some (.cells 0 (wC b1 c1 d1 f1 (playM l)))∧S2[S.length]?=some (.cells 0 zW)∧WoDr S b bs P (playM l) b1 c1 d1 f1 S2) q
  ⟨[],S1.length+1,p+1,b1,c1,d1,f1,by omega,by simp; omega,by omega,by simp,rfl,rfl,rfl,rfl,rfl,by omega,?_,?_,?_,(hdr.draw _).app _⟩ ?_
 ·simp -implicitDefEqProofs (disch:=omega) only [push_cast,simprocAttr,↓gd]
 ·simp -implicitDefEqProofs (disch:=omega) only [push_cast,simprocAttr,↓gd]
  rfl
 ·simp -implicitDefEqProofs (disch:=omega) only [push_cast,simprocAttr,k0,↓gd]
 rintro m t S2 ⟨l,τ,P,b1,c1,d1,f1,hm,hlm,hP,hl,h0,h3,h4,h5,h6,hτ,kt,k1,k0,hdr⟩
 have lt:=lt_of_some kt
 have l1:=lt_of_some k1
 have l0:=lt_of_some k0
 have kb:=hdr.rd
 have lb:=lt_of_some kb
 have nt0:=right_ne kt k0
 have nt1:=right_ne kt k1
 have ntb:=right_ne kt kb
 have v0:=hdr.at_.var k0
 have v1:=hdr.at_.var k1
 have hW:=playM_w l
 have hB:=hW.b (by omega)
 refine wpV_of0 hD ?_
 by_cases h:0 < m
 ·have h':(m:Int) > 0:=by omega
  simp -implicitDefEqProofs (disch:=omega) only [push_cast,simprocAttr,h0,h3,h4,h5,h6,h',k1,↓gd]
  refine (l72Event_ok hB b1 c1 d1 f1 bs b P (by omega) hbs S2 kb).mono ?_
  rintro r S3 ⟨⟨v,hv,rfl⟩,P2,hP2,rfl⟩
  have hpre:=fun Q X=>((hdr.draw Q).set (j:=τ) .dead hτ (hdr.at_.rt kt) (Ne.symm ntb)).app X
  have hS2b:∀B X,(S2.set b B++X)[b]?=some B:=fun B X=>stC lb _ _
  have hnes:=hdr.at_.nes
  have hhb:=hdr.hb; have hhc:=hdr.hc; have hhd:=hdr.hd; have hhf:=hdr.hf
  by_cases hl0:l=[]
  ·subst hl0
   simp -implicitDefEqProofs (disch:=omega) only [push_cast,simprocAttr,h0,h3,h4,h5,h6,↓gd]
   refine (l72Path_ok bs b P2 (by omega) hbs _ (hS2b _ _)).mono ?_
   rintro r S4 ⟨⟨s1,hs1,rfl⟩,rfl⟩
   simp -implicitDefEqProofs (disch:=omega) only [push_cast,simprocAttr,h0,h3,h4,h5,h6,stA lb,stB lb,↓gd]
   refine (l72Text_ok bs b (P2+1) (by omega) hbs _ (hS2b _ _)).mono ?_
   rintro r S4 ⟨⟨s2,hs2,rfl⟩,P3,hP3,rfl⟩
   simp -implicitDefEqProofs (disch:=omega) only [push_cast,simprocAttr,h0,h3,h4,h5,h6,stA lb,stB lb,kt,k1,↓gd]
   refine ((l22Do_ok hW (by omega) ⟨1,0,0,s1,s2⟩ (EvS.b ⟨hs1,hs2⟩) (hpre _ _).at_).as (by simp [wV,wC,enC,evV])).mono ?_
   rintro r S5 ⟨b2,c2,d2,f2,rfl,q5⟩
   have hn:=(hpre _ _).to q5
   have k0':=q5.upd.get (j:=S.length) (B:=.cells 0 zW) (by simp -implicitDefEqProofs (disch:=omega) only [push_cast,simprocAttr,k0,↓gd]) (by simp; omega)
   have k1':=q5.upd.get (j:=S1.length) (B:=.cells 0 (wC b1 c1 d1 f1 (playM []))) (by simp -implicitDefEqProofs (disch:=omega) only [push_cast,simprocAttr,k1,↓gd]) (by simp; omega)
   have kt':=q5.upd.get (j:=S2.length+2) (B:=.right 5) (by simp -implicitDefEqProofs (disch:=omega) only [push_cast,simprocAttr,↓gd]) (by simp; omega)
   have l1':=lt_of_some k1'
   have v1':=hn.at_.var k1'
   have hst:doM (playM []) ⟨1,0,0,s1,s2⟩=playM ([]++[⟨1,0,0,s1,s2⟩]):=by rw [playM,playM,List.foldl_append]; rfl
   rw [hst] at hn
   rw [hst]
   have ntt:=right_ne kt' k1'
   have hb2:b≠S1.length:=by omega
   generalize hy:playM ([]++[⟨1,0,0,s1,s2⟩])=y at *
   simp -implicitDefEqProofs (disch:=omega) only [push_cast,simprocAttr,h0,h3,h4,h5,h6,k1',↓gd]
   have hfin:WoDr S b bs P3 (playM ([]++[⟨1,0,0,s1,s2⟩])) b2 c2 d2 f2 (S5.set S1.length (.cells 0 (wC b2 c2 d2 f2 y))):=by rw [hy]; exact hn.set (j:=S1.length) _ (by omega) v1' hb2
   exact ⟨m - 1,by omega,[]++[⟨1,0,0,s1,s2⟩],S2.length+2,_,b2,c2,d2,f2,by omega,by simp at hlm ⊢; omega,by omega,fun u hu=>(List.mem_append.1 hu).elim (fun g=>hl u g) (fun g=>by rw [List.mem_singleton.1 g]; exact ⟨hs1,hs2⟩),by simp [evV],by congr 1; omega,by omega,by simp -implicitDefEqProofs (disch:=omega) only [push_cast,simprocAttr,kt',↓gd],by rw [hy],by simp -implicitDefEqProofs (disch:=omega) only [push_cast,simprocAttr,k0',↓gd],hfin⟩
  ·have hln:¬(l.length:Int)=0:=by have:=List.length_pos_iff.2 hl0; omega
   simp -implicitDefEqProofs (disch:=omega) only [push_cast,simprocAttr,h0,h3,h4,h5,h6,hln,kt,k1,evs_len5,↓gd]
   refine ⟨by omega,?_⟩
   refine ((l22Do_ok hW (by omega) v hv.b (hpre _ _).at_).as (by simp [wV,wC,enC,evV])).mono ?_
   rintro r S5 ⟨b2,c2,d2,f2,rfl,q5⟩
   have hn:=(hpre _ _).to q5
   have k0':=q5.upd.get (j:=S.length) (B:=.cells 0 zW) (by simp -implicitDefEqProofs (disch:=omega) only [push_cast,simprocAttr,k0,↓gd]) (by simp; omega)
   have k1':=q5.upd.get (j:=S1.length) (B:=.cells 0 (wC b1 c1 d1 f1 (playM l))) (by simp -implicitDefEqProofs (disch:=omega) only [push_cast,simprocAttr,k1,↓gd]) (by simp; omega)
   have kt':=q5.upd.get (j:=S2.length+2) (B:=.right 5) (by simp -implicitDefEqProofs (disch:=omega) only [push_cast,simprocAttr,↓gd]) (by simp; omega)
   have l1':=lt_of_some k1'
   have v1':=hn.at_.var k1'
   have hst:doM (playM l) v=playM (l++[v]):=by rw [playM,playM,List.foldl_append]; rfl
   rw [hst] at hn
   rw [hst]
   have ntt:=right_ne kt' k1'
   have hb2:b≠S1.length:=by omega
   generalize hy:playM (l++[v])=y at *
   simp -implicitDefEqProofs (disch:=omega) only [push_cast,simprocAttr,h0,h3,h4,h5,h6,k1',↓gd]
   have hfin:WoDr S b bs P2 (playM (l++[v])) b2 c2 d2 f2 (S5.set S1.length (.cells 0 (wC b2 c2 d2 f2 y))):=by rw [hy]; exact hn.set (j:=S1.length) _ (by omega) v1' hb2
   exact ⟨m - 1,by omega,l++[v],S2.length+2,_,b2,c2,d2,f2,by omega,by simp at hlm ⊢; omega,by omega,fun u hu=>(List.mem_append.1 hu).elim (fun g=>hl u g) (fun g=>by rw [List.mem_singleton.1 g]; exact hv),by simp [evV],by congr 1; omega,by omega,by simp -implicitDefEqProofs (disch:=omega) only [push_cast,simprocAttr,kt',↓gd],by rw [hy],by simp -implicitDefEqProofs (disch:=omega) only [push_cast,simprocAttr,k0',↓gd],hfin⟩
 ·have:m=0:=by omega
  subst this
  simp -implicitDefEqProofs (disch:=omega) only [push_cast,simprocAttr,h0,h3,h4,h5,h6,k1,k0,↓gd]
  exact ⟨_,_,Wk.refl _ _ _,l,τ,P,b1,c1,d1,f1,by omega,hl,rfl,by simp -implicitDefEqProofs (disch:=omega) only [push_cast,simprocAttr,kt,↓gd],hτ,by omega,hdr.set (j:=S.length) _ (Nat.le_refl _) v0 (by omega)⟩
end
section
open Go
inductive Spoilt (x:Wo):Wo→Prop where
 | none:Spoilt x x
 | ans:Spoilt x { x with caller:={ x.caller with ans:=true } }
 | up (o:List UInt8):o.length≤10→Spoilt x { x with up:=x.up++o }
 | table (t:List Fd) (m:Int):t.length≤20→(∀f ∈ t,FdS f)→Spoilt x { x with answerer:={ x.answerer with inn:=t,innM:=m } }
 | id (k:Int):0≤k→k < 9→x.caller.strs≠[]→Spoilt x { x with caller:={ x.caller with strs:=x.caller.strs.set 0 { x.caller.strs.getD 0 st0 with id:=k } } }
def Drawn (w:Wo):Prop:=∃l:List Ev,l.length≤58∧(∀v ∈ l,EvS v)∧Spoilt (playM l) w
theorem Drawn.b {w:Wo} (h:Drawn w):WoB w:=by
 obtain ⟨l,hl,hv,hs⟩:=h
 have hW:=playM_w l
 have hB:=hW.b (by omega)
 have hup:=hW.up
 cases hs with
 | none=>exact hB
 | ans=>exact ⟨⟨hB.caller.sts,hB.caller.len,hB.caller.wait,hB.caller.out,hB.caller.inn,hB.caller.came⟩,hB.answerer,hB.up,hB.down⟩
 | up o ho=>exact ⟨hB.caller,hB.answerer,by simp only [List.length_append]; omega,hB.down⟩
 | table t m ht hf=>exact ⟨hB.caller,⟨hB.answerer.sts,hB.answerer.len,hB.answerer.wait,hB.answerer.out,⟨by simp only; omega,fun f hf'=>(hf f hf').b⟩,hB.answerer.came⟩,hB.up,hB.down⟩
 | id k h1 h2 h3 =>
  have hp:=List.length_pos_iff.2 h3
  refine ⟨⟨fun s hs=>?_,by simp only [List.length_set]; exact hB.caller.len,hB.caller.wait,hB.caller.out,hB.caller.inn,hB.caller.came⟩,hB.answerer,hB.up,hB.down⟩
  have h0:=hB.caller.sts _ (getD_memS hp)
  rcases List.mem_or_eq_of_mem_set hs with g | g
  ·exact hB.caller.sts s g
  ·subst g
   exact ⟨h0.head,h0.got,h0.say,h0.text⟩
end
end Go.Proofs.YtnhifbfbnofkcaaGreatDoor
