/- A part of the proof: contracts of functions, or plain facts on which these lean. -/
import Derived.Test.YtaamlddnpamomaaGreatDoorMf19
import Derived.Test.YtaamlddnpamomaaGreatDoorMf33
namespace Go.Proofs.YtaamlddnpamomaaGreatDoor
open Go
set_option linter.unusedVariables false
set_option linter.unusedSimpArgs false
set_option maxRecDepth 100000
set_option maxHeartbeats 16000000

section
open Go
theorem mem_short {l:List (List UInt8)} {n:Nat} (h:∀s ∈ l,s.length≤n) {s:List UInt8} (hs:s ∈ l):s.length≤n:=h s hs
theorem l72Path_ok (bs:List UInt8) (b p:Nat) (hp:p≤100000000) (hbs:bs.length≤2000) (S:List Blk) (hS:S[b]?=some (Rd bs p)) :
  VCall Tryz.prog 64 [.ptr b 0] S fun r S'=>(∃s:List UInt8,s.length≤20∧r=.str s)∧S'=S.set b (Rd bs (p+1)):=by
 have hbl:=rd_lt hS
 refine VCall.en hD Tryz.func64 Tryz.ntmps64 Tryz.results64 ?_
 simp -implicitDefEqProofs (maxSteps:=1000000) (disch:=omega) only [push_cast,simprocAttr,↓gd]
 refine ((of_ok bs b p [[47,101,99,104,111],[47,101,99,104,111],[47,117,112],[47,117,112],[47,108,101,110],[47,110,111,110,101],[]] (by simp) (by omega) hbs _ (by rw [List.getElem?_append_left hbl]; exact hS)).as rfl).mono ?_
 rintro r S1 ⟨⟨s,hs,rfl⟩,rfl⟩
 have hl:s.length≤20:=mem_short (by decide) hs
 simp -implicitDefEqProofs (maxSteps:=1000000) (disch:=omega) only [push_cast,simprocAttr,stA hbl,stB hbl,↓gd]
 exact ⟨_,_,finS (.str _),⟨s,hl,rfl⟩,rfl⟩
theorem l72Text_ok (bs:List UInt8) (b p:Nat) (hp:p≤100000000) (hbs:bs.length≤2000) (S:List Blk) (hS:S[b]?=some (Rd bs p)) :
  VCall Tryz.prog 65 [.ptr b 0] S fun r S'=>(∃s:List UInt8,s.length≤20∧r=.str s)∧∃p',p'≤p+20∧S'=S.set b (Rd bs p'):=by
 have hbl:=rd_lt hS
 have hS2:∀B,(S.set b B)[b]?=some B:=fun B=>List.getElem?_set_self hbl
 refine VCall.en hD Tryz.func65 Tryz.ntmps65 Tryz.results65 ?_
 simp -implicitDefEqProofs (maxSteps:=1000000) (disch:=omega) only [push_cast,simprocAttr,↓gd]
 refine (pickI bs b p 17 _ (by simp) (by omega) (by omega) hbs S hS).mono ?_
 rintro r S1 ⟨⟨q1,hq1,rfl⟩,rfl⟩
 simp -implicitDefEqProofs (maxSteps:=1000000) (disch:=omega) only [push_cast,simprocAttr,↓gd]
 refine wpV_loop (fun m t S'=>∃(s:List UInt8) (P:Nat) (X:List Blk),m≤16∧s.length+m≤16∧P+m≤p+17∧t 0=.ptr b 0∧t 3=.str s∧t 4=.int .i64 m∧S'=S.set b (Rd bs P)++X) q1 ⟨[],p+1,[],by omega,by simp; omega,by omega,rfl,rfl,rfl,by simp⟩ ?_
 rintro m t S' ⟨s,P,X,hm,hs,hP,h0,h3,h4,rfl⟩
 refine wpV_of0 hD ?_
 by_cases h:0 < m
 ·have h':(m:Int) > 0:=by omega
  simp -implicitDefEqProofs (maxSteps:=1000000) (disch:=omega) only [push_cast,simprocAttr,h0,h3,h4,h',↓gd]
  refine ((of_ok bs b P [[97],[98],[99],[121],[122],[55]] (by simp) (by omega) hbs _ (stC hbl _ _)).as rfl).mono ?_
  rintro r S1 ⟨⟨c,hc,rfl⟩,rfl⟩
  have hl:c.length≤1:=mem_short (by decide) hc
  simp -implicitDefEqProofs (maxSteps:=1000000) (disch:=omega) only [push_cast,simprocAttr,h0,h3,h4,stA hbl,stB hbl,↓gd]
  exact ⟨by omega,m - 1,by omega,s++c,P+1,_,by omega,by rw [List.length_append]; omega,by omega,rfl,by congr 1; omega,rfl⟩
 ·have:m=0:=by omega
  subst this
  simp -implicitDefEqProofs (maxSteps:=1000000) (disch:=omega) only [push_cast,simprocAttr,h0,h3,h4,↓gd]
  exact ⟨_,_,finS (.str _),⟨s,by omega,rfl⟩,P,by omega,rfl⟩
def EvS (v:Ev):Prop:=v.path.length≤20∧v.text.length≤20
theorem EvS.b {v:Ev} (h:EvS v):EvB v:=⟨by have:=h.1; omega,by have:=h.2; omega⟩
theorem evV_cl (n:Nat) (v:Ev):Cl n (evV v):=by
 refine .agg ?_
 simp only [List.mem_cons,List.not_mem_nil,or_false,forall_eq_or_imp,forall_eq]
 exact ⟨.int _ _,.int _ _,.int _ _,.str _,.str _⟩
theorem pieces {x:Nat} (h:x < 7):∃z:Int,[V.int .i64 1,V.int .i64 3,V.int .i64 7,V.int .i64 20,V.int .i64 45,V.int .i64 90,V.int .i64 90].getD x .junk=.int .i64 z:=by
 rcases (by omega:x=0∨x=1∨x=2∨x=3∨x=4∨x=5∨x=6) with rfl | rfl | rfl | rfl | rfl | rfl | rfl <;> exact ⟨_,rfl⟩
theorem l72Event_ok {w:Wo} (hB:WoB w) (hsl4:w.caller.strs.length≤1000000) (b1 c1 d1 f1:Nat) (bs:List UInt8) (b p:Nat) (hp:p≤90000000) (hbs:bs.length≤2000) (S:List Blk) (hS:S[b]?=some (Rd bs p)) :
  VCall Tryz.prog 120 [.ptr b 0,wV b1 c1 d1 f1 w] S fun r S'=>(∃v:Ev,EvS v∧r=evV v)∧∃p',p'≤p+60∧S'=S.set b (Rd bs p'):=by
 have hbl:=rd_lt hS
 have hS2:∀B l,(S.set b B++l)[b]?=some B:=fun B l=>stC hbl _ _
 have hup:=hB.up
 have hdn:=hB.down
 have hcl:=hB.caller.len
 have fin:∀(v:Ev) (P:Nat) (X:List Blk),EvS v→P≤p+60→∃r S2,Wk S (evV v) (S.set b (Rd bs P)++X) r S2∧(∃v:Ev,EvS v∧r=evV v)∧∃p',p'≤p+60∧S2=S.set b (Rd bs p') :=
  fun v P X h1 h2=>⟨_,_,finS (evV_cl _ v),⟨v,h1,rfl⟩,P,h2,rfl⟩
 refine VCall.en hD Tryz.func120 Tryz.ntmps120 Tryz.results120 ?_
 simp -implicitDefEqProofs (maxSteps:=1000000) (disch:=omega) only [push_cast,simprocAttr,↓gd]
 refine (pickI bs b p 12 _ (by simp) (by omega) (by omega) hbs _ (by rw [List.getElem?_append_left hbl]; exact hS)).mono ?_
 rintro r S1 ⟨⟨q,hq,rfl⟩,rfl⟩
 by_cases k01:q=0∨q=1
 ·rcases k01 with rfl | rfl
  ·simp -implicitDefEqProofs (maxSteps:=1000000) (disch:=omega) only [push_cast,simprocAttr,stA hbl,stB hbl,↓gd]
   refine (l72Path_ok bs b (p+1) (by omega) hbs _ (hS2 _ _)).mono ?_
   rintro r S1 ⟨⟨s1,hs1,rfl⟩,rfl⟩
   simp -implicitDefEqProofs (maxSteps:=1000000) (disch:=omega) only [push_cast,simprocAttr,stA hbl,stB hbl,↓gd]
   refine (l72Text_ok bs b (p+2) (by omega) hbs _ (hS2 _ _)).mono ?_
   rintro r S1 ⟨⟨s2,hs2,rfl⟩,p2,hp2,rfl⟩
   simp -implicitDefEqProofs (maxSteps:=1000000) (disch:=omega) only [push_cast,simprocAttr,stA hbl,stB hbl,↓gd]
   exact fin ⟨1,0,0,s1,s2⟩ p2 _ ⟨hs1,hs2⟩ (by omega)
  ·simp -implicitDefEqProofs (maxSteps:=1000000) (disch:=omega) only [push_cast,simprocAttr,stA hbl,stB hbl,↓gd]
   refine (l72Path_ok bs b (p+1) (by omega) hbs _ (hS2 _ _)).mono ?_
   rintro r S1 ⟨⟨s1,hs1,rfl⟩,rfl⟩
   simp -implicitDefEqProofs (maxSteps:=1000000) (disch:=omega) only [push_cast,simprocAttr,stA hbl,stB hbl,↓gd]
   refine (l72Text_ok bs b (p+2) (by omega) hbs _ (hS2 _ _)).mono ?_
   rintro r S1 ⟨⟨s2,hs2,rfl⟩,p2,hp2,rfl⟩
   simp -implicitDefEqProofs (maxSteps:=1000000) (disch:=omega) only [push_cast,simprocAttr,stA hbl,stB hbl,↓gd]
   exact fin ⟨1,0,0,s1,s2⟩ p2 _ ⟨hs1,hs2⟩ (by omega)
 by_cases k2:q=2
 ·subst k2
  simp -implicitDefEqProofs (maxSteps:=1000000) (disch:=omega) only [push_cast,simprocAttr,stA hbl,stB hbl,↓gd]
  refine (pickI bs b (p+1) 2 _ (by simp) (by omega) (by omega) hbs _ (hS2 _ _)).mono ?_
  rintro r S1 ⟨⟨x,hx,rfl⟩,rfl⟩
  rcases (by omega:x=0∨x=1) with rfl | rfl
  ·have emax:(if (1:Int) > (w.caller.strs.length:Int) then (1:Int) else (w.caller.strs.length:Int))=((max w.caller.strs.length 1:Nat):Int):=by omega
   simp -implicitDefEqProofs (maxSteps:=1000000) (disch:=omega) only [push_cast,simprocAttr,stA hbl,stB hbl,emax,↓gd]
   refine (pickI bs b (p+2) (max w.caller.strs.length 1) _ (by simp) (by omega) (by omega) hbs _ (hS2 _ _)).mono ?_
   rintro r S1 ⟨⟨x,hx,rfl⟩,rfl⟩
   simp -implicitDefEqProofs (maxSteps:=1000000) (disch:=omega) only [push_cast,simprocAttr,stA hbl,stB hbl,↓gd]
   exact fin ⟨2,1+2 * x,0,[],[]⟩ _ _ (by simp [EvS]) (by omega)
  ·simp -implicitDefEqProofs (maxSteps:=1000000) (disch:=omega) only [push_cast,simprocAttr,stA hbl,stB hbl,↓gd]
   refine (pickI bs b (p+2) 2 _ (by simp) (by omega) (by omega) hbs _ (hS2 _ _)).mono ?_
   rintro r S1 ⟨⟨y,hy,rfl⟩,rfl⟩
   by_cases u0:w.up=[]
   ·have u0':=eq_true u0
    have u1:(w.up.length:Int)=0:=by rw [u0]; rfl
    by_cases e0:w.down=[]
    ·have e0':(w.down.length:Int)=0:=by rw [e0]; rfl
     simp -implicitDefEqProofs (maxSteps:=1000000) (disch:=omega) only [push_cast,simprocAttr,stA hbl,stB hbl,u1,e0',↓gd]
     refine (pickI bs b (p+2+1) 7 _ (by simp) (by omega) (by omega) hbs _ (hS2 _ _)).mono ?_
     rintro r S1 ⟨⟨x,hx,rfl⟩,rfl⟩
     obtain ⟨z,hz⟩:=pieces hx
     simp -implicitDefEqProofs (maxSteps:=1000000) (disch:=omega) only [push_cast,simprocAttr,stA hbl,stB hbl,hz,↓gd]
     exact ⟨by omega,by omega,fin ⟨4,0,z,[],[]⟩ _ _ (by simp [EvS]) (by omega)⟩
    ·have e0':¬(w.down.length:Int)=0:=by have:=List.length_pos_iff.2 e0; omega
     simp -implicitDefEqProofs (maxSteps:=1000000) (disch:=omega) only [push_cast,simprocAttr,stA hbl,stB hbl,u1,e0',↓gd]
     refine (pickI bs b (p+2+1) 7 _ (by simp) (by omega) (by omega) hbs _ (hS2 _ _)).mono ?_
     rintro r S1 ⟨⟨x,hx,rfl⟩,rfl⟩
     obtain ⟨z,hz⟩:=pieces hx
     simp -implicitDefEqProofs (maxSteps:=1000000) (disch:=omega) only [push_cast,simprocAttr,stA hbl,stB hbl,hz,↓gd]
     exact ⟨by omega,by omega,fin ⟨4,1,z,[],[]⟩ _ _ (by simp [EvS]) (by omega)⟩
   ·have u0':¬(w.up.length:Int)=0:=by have:=List.length_pos_iff.2 u0; omega
    have u1:True:=trivial
    by_cases e0:w.down=[]
    ·have e0':(w.down.length:Int)=0:=by rw [e0]; rfl
     simp -implicitDefEqProofs (maxSteps:=1000000) (disch:=omega) only [push_cast,simprocAttr,stA hbl,stB hbl,u0',e0',↓gd]
     refine (pickI bs b (p+2+1) 7 _ (by simp) (by omega) (by omega) hbs _ (hS2 _ _)).mono ?_
     rintro r S1 ⟨⟨x,hx,rfl⟩,rfl⟩
     obtain ⟨z,hz⟩:=pieces hx
     simp -implicitDefEqProofs (maxSteps:=1000000) (disch:=omega) only [push_cast,simprocAttr,stA hbl,stB hbl,hz,↓gd]
     exact ⟨by omega,by omega,fin ⟨4,0,z,[],[]⟩ _ _ (by simp [EvS]) (by omega)⟩
    ·have e0':¬(w.down.length:Int)=0:=by have:=List.length_pos_iff.2 e0; omega
     simp -implicitDefEqProofs (maxSteps:=1000000) (disch:=omega) only [push_cast,simprocAttr,stA hbl,stB hbl,u0',e0',↓gd]
     refine (pickI bs b (p+2+1) 7 _ (by simp) (by omega) (by omega) hbs _ (hS2 _ _)).mono ?_
     rintro r S1 ⟨⟨x,hx,rfl⟩,rfl⟩
     obtain ⟨z,hz⟩:=pieces hx
     simp -implicitDefEqProofs (maxSteps:=1000000) (disch:=omega) only [push_cast,simprocAttr,stA hbl,stB hbl,hz,↓gd]
     exact ⟨by omega,by omega,fin ⟨4,y,z,[],[]⟩ _ _ (by simp [EvS]) (by omega)⟩
 by_cases k3:q=3∨q=4
 ·rcases k3 with rfl | rfl
  ·simp -implicitDefEqProofs (maxSteps:=1000000) (disch:=omega) only [push_cast,simprocAttr,stA hbl,stB hbl,↓gd]
   exact fin ⟨3,0,0,[],[]⟩ _ _ (by simp [EvS]) (by omega)
  ·simp -implicitDefEqProofs (maxSteps:=1000000) (disch:=omega) only [push_cast,simprocAttr,stA hbl,stB hbl,↓gd]
   exact fin ⟨3,0,0,[],[]⟩ _ _ (by simp [EvS]) (by omega)
 by_cases k5:q=5∨q=6
 ·rcases k5 with rfl | rfl
  ·simp -implicitDefEqProofs (maxSteps:=1000000) (disch:=omega) only [push_cast,simprocAttr,stA hbl,stB hbl,↓gd]
   exact fin ⟨3,1,0,[],[]⟩ _ _ (by simp [EvS]) (by omega)
  ·simp -implicitDefEqProofs (maxSteps:=1000000) (disch:=omega) only [push_cast,simprocAttr,stA hbl,stB hbl,↓gd]
   exact fin ⟨3,1,0,[],[]⟩ _ _ (by simp [EvS]) (by omega)
 have j0:¬(q:Int)=0:=by omega
 have j1:¬(q:Int)=1:=by omega
 have j2:¬(q:Int)=2:=by omega
 have j3:¬(q:Int)=3:=by omega
 have j4:¬(q:Int)=4:=by omega
 have j5:¬(q:Int)=5:=by omega
 have j6:¬(q:Int)=6:=by omega
 simp -implicitDefEqProofs (maxSteps:=1000000) (disch:=omega) only [push_cast,simprocAttr,stA hbl,stB hbl,j0,j1,j2,j3,j4,j5,j6,↓gd]
 refine (pickI bs b (p+1) 2 _ (by simp) (by omega) (by omega) hbs _ (hS2 _ _)).mono ?_
 rintro r S1 ⟨⟨y,hy,rfl⟩,rfl⟩
 by_cases u0:w.up=[]
 ·have u0':=eq_true u0
  have u1:(w.up.length:Int)=0:=by rw [u0]; rfl
  by_cases e0:w.down=[]
  ·have e0':(w.down.length:Int)=0:=by rw [e0]; rfl
   simp -implicitDefEqProofs (maxSteps:=1000000) (disch:=omega) only [push_cast,simprocAttr,stA hbl,stB hbl,u1,e0',↓gd]
   refine (pickI bs b (p+1+1) 7 _ (by simp) (by omega) (by omega) hbs _ (hS2 _ _)).mono ?_
   rintro r S1 ⟨⟨x,hx,rfl⟩,rfl⟩
   obtain ⟨z,hz⟩:=pieces hx
   simp -implicitDefEqProofs (maxSteps:=1000000) (disch:=omega) only [push_cast,simprocAttr,stA hbl,stB hbl,hz,↓gd]
   exact ⟨by omega,by omega,fin ⟨4,0,z,[],[]⟩ _ _ (by simp [EvS]) (by omega)⟩
  ·have e0':¬(w.down.length:Int)=0:=by have:=List.length_pos_iff.2 e0; omega
   simp -implicitDefEqProofs (maxSteps:=1000000) (disch:=omega) only [push_cast,simprocAttr,stA hbl,stB hbl,u1,e0',↓gd]
   refine (pickI bs b (p+1+1) 7 _ (by simp) (by omega) (by omega) hbs _ (hS2 _ _)).mono ?_
   rintro r S1 ⟨⟨x,hx,rfl⟩,rfl⟩
   obtain ⟨z,hz⟩:=pieces hx
   simp -implicitDefEqProofs (maxSteps:=1000000) (disch:=omega) only [push_cast,simprocAttr,stA hbl,stB hbl,hz,↓gd]
   exact ⟨by omega,by omega,fin ⟨4,1,z,[],[]⟩ _ _ (by simp [EvS]) (by omega)⟩
 ·have u0':¬(w.up.length:Int)=0:=by have:=List.length_pos_iff.2 u0; omega
  have u1:True:=trivial
  by_cases e0:w.down=[]
  ·have e0':(w.down.length:Int)=0:=by rw [e0]; rfl
   simp -implicitDefEqProofs (maxSteps:=1000000) (disch:=omega) only [push_cast,simprocAttr,stA hbl,stB hbl,u0',e0',↓gd]
   refine (pickI bs b (p+1+1) 7 _ (by simp) (by omega) (by omega) hbs _ (hS2 _ _)).mono ?_
   rintro r S1 ⟨⟨x,hx,rfl⟩,rfl⟩
   obtain ⟨z,hz⟩:=pieces hx
   simp -implicitDefEqProofs (maxSteps:=1000000) (disch:=omega) only [push_cast,simprocAttr,stA hbl,stB hbl,hz,↓gd]
   exact ⟨by omega,by omega,fin ⟨4,0,z,[],[]⟩ _ _ (by simp [EvS]) (by omega)⟩
  ·have e0':¬(w.down.length:Int)=0:=by have:=List.length_pos_iff.2 e0; omega
   simp -implicitDefEqProofs (maxSteps:=1000000) (disch:=omega) only [push_cast,simprocAttr,stA hbl,stB hbl,u0',e0',↓gd]
   refine (pickI bs b (p+1+1) 7 _ (by simp) (by omega) (by omega) hbs _ (hS2 _ _)).mono ?_
   rintro r S1 ⟨⟨x,hx,rfl⟩,rfl⟩
   obtain ⟨z,hz⟩:=pieces hx
   simp -implicitDefEqProofs (maxSteps:=1000000) (disch:=omega) only [push_cast,simprocAttr,stA hbl,stB hbl,hz,↓gd]
   exact ⟨by omega,by omega,fin ⟨4,y,z,[],[]⟩ _ _ (by simp [EvS]) (by omega)⟩
end
section
open Go
structure WoDr (S:List Blk) (b:Nat) (bs:List UInt8) (P:Nat) (w:Wo) (b1 c1 d1 f1:Nat) (S':List Blk):Prop where
 at_:WoAt S' b1 c1 d1 f1 w
 hb:S.length≤b1
 hc:S.length≤c1
 hd:S.length≤d1
 hf:S.length≤f1
 upd:Upd [b] S S'
 rd:S'[b]?=some (Rd bs P)
theorem right_ne {S:List Blk} {i j m n:Nat} {cs:List V} (h:S[i]?=some (.right m)) (k:S[j]?=some (.cells n cs)):i≠j:=by
 rintro rfl
 rw [h] at k
 cases k
theorem WoAt.rt {S:List Blk} {b c d f:Nat} {w:Wo} (h:WoAt S b c d f w) {j n:Nat} (hj:S[j]?=some (.right n)):b≠j∧c≠j∧d≠j∧f≠j :=
 ⟨Ne.symm (right_ne hj h.caller.1),Ne.symm (right_ne hj h.caller.2),Ne.symm (right_ne hj h.answerer.1),Ne.symm (right_ne hj h.answerer.2)⟩
theorem WoDr.set {S:List Blk} {b:Nat} {bs:List UInt8} {P:Nat} {w:Wo} {b1 c1 d1 f1:Nat} {S':List Blk} (h:WoDr S b bs P w b1 c1 d1 f1 S') {j:Nat} (B:Blk) (hj:S.length≤j) (hn:b1≠j∧c1≠j∧d1≠j∧f1≠j) (hb:b≠j):WoDr S b bs P w b1 c1 d1 f1 (S'.set j B) :=
 ⟨h.at_.set B hn,h.hb,h.hc,h.hd,h.hf,h.upd.set B (.inl hj),by rw [get_set_ne (Ne.symm hb)]; exact h.rd⟩
theorem WoDr.app {S:List Blk} {b:Nat} {bs:List UInt8} {P:Nat} {w:Wo} {b1 c1 d1 f1:Nat} {S':List Blk} (h:WoDr S b bs P w b1 c1 d1 f1 S') (X:List Blk):WoDr S b bs P w b1 c1 d1 f1 (S'++X) :=
 ⟨h.at_.app X,h.hb,h.hc,h.hd,h.hf,h.upd.app X,by rw [List.getElem?_append_left (lt_of_some h.rd)]; exact h.rd⟩
theorem WoDr.draw {S:List Blk} {b:Nat} {bs:List UInt8} {P:Nat} {w:Wo} {b1 c1 d1 f1:Nat} {S':List Blk} (h:WoDr S b bs P w b1 c1 d1 f1 S') (Q:Nat):WoDr S b bs Q w b1 c1 d1 f1 (S'.set b (Rd bs Q)) :=
 ⟨h.at_.set _ (h.at_.var (cs:=_) h.rd),h.hb,h.hc,h.hd,h.hf,h.upd.set _ (.inr (by simp)),List.getElem?_set_self (lt_of_some h.rd)⟩
theorem WoDr.to {S:List Blk} {b:Nat} {bs:List UInt8} {P:Nat} {w y:Wo} {b1 c1 d1 f1 b2 c2 d2 f2:Nat} {S1 S2:List Blk} (h:WoDr S b bs P w b1 c1 d1 f1 S1) (k:WoTo S1 b1 c1 d1 f1 y b2 c2 d2 f2 S2):WoDr S b bs P y b2 c2 d2 f2 S2:=by
 have hl:=h.upd.1
 have e1:=h.hb; have e2:=h.hc; have e3:=h.hd; have e4:=h.hf
 have e5:=k.hb; have e6:=k.hc; have e7:=k.hd; have e8:=k.hf
 have v:=h.at_.var (cs:=_) h.rd
 exact ⟨k.at_,by omega,by omega,by omega,by omega,h.upd.then_ k.upd (fun j hj hm=>by simp only [List.mem_cons,List.not_mem_nil,or_false] at hm; omega),k.upd.get h.rd (by simp; omega)⟩
theorem l72Play_ok (bs:List UInt8) (b p:Nat) (hp:p≤80000000) (hbs:bs.length≤2000) (S:List Blk) (hS:S[b]?=some (Rd bs p)) :
  VCall Tryz.prog 76 [.ptr b 0] S fun r S'=>∃(l:List Ev) (τ P b1 c1 d1 f1:Nat),l.length≤58∧(∀v ∈ l,EvS v)∧r=.tup [.rows (some τ) (l.map evV),wV b1 c1 d1 f1 (playM l)]∧S'[τ]?=some (.right 5)∧S.length≤τ∧P≤p+20000∧WoDr S b bs P (playM l) b1 c1 d1 f1 S':=by
 have hbl:=rd_lt hS
 refine VCall.ex hD (fun _=>false) (fun id=>if id=11 then [3,3,3,4] else []) Tryz.func76 Tryz.ntmps76 Tryz.results76 ?_
 simp -implicitDefEqProofs (disch:=omega) only [push_cast,simprocAttr,↓gd]
 refine (sWorldNew_ok _).mono ?_
 rintro r S1 ⟨b1,c1,d1,f1,rfl,q1⟩
 have k0:S1[S.length]?=some (.cells 0 zW):=q1.upd.get (by simp -implicitDefEqProofs (disch:=omega) only [push_cast,simprocAttr,↓gd]) (by simp)
 have kr:S1[b]?=some (Rd bs p):=q1.upd.get (by rw [List.getElem?_append_left hbl]; exact hS) (by simp)
 have l0:=lt_of_some k0
 have e1:=q1.hb; have e2:=q1.hc; have e3:=q1.hd; have e4:=q1.hf
 simp at e1 e2 e3 e4
 simp -implicitDefEqProofs (disch:=omega) only [push_cast,simprocAttr,k0,↓gd]
 have kr1:∀X,(S1++X)[b]?=some (Rd bs p):=fun X=>by rw [List.getElem?_append_left (lt_of_some kr)]; exact kr
 refine (pickI bs b p 59 _ (by simp) (by omega) (by omega) hbs _ (kr1 _)).mono ?_
 rintro r S2 ⟨⟨q,hq,rfl⟩,rfl⟩
 have hdr:WoDr S b bs p (playM []) b1 c1 d1 f1 S1:=⟨q1.at_,by omega,by omega,by omega,by omega,q1.app.upd.mono (fun _ _ hm=>by cases hm),kr⟩
 simp -implicitDefEqProofs (disch:=omega) only [push_cast,simprocAttr,↓gd]
 refine wpV_loop (fun m t S2=>∃(l:List Ev) (τ P b1 c1 d1 f1:Nat),m≤58∧l.length+m≤58∧P+m * 300≤p+18000∧(∀v ∈ l,EvS v)∧t 0=.ptr b 0∧t 3=.ptr S.length 0∧t 4=.ptr S1.length 0∧t 5=.rows (some τ) (l.map evV)∧t 6=.int .i64 m ∧
  S.length≤τ∧S2[τ]?=some (.right 5)∧S2[S1.length]?=some (.cells 0 (wC b1 c1 d1 f1 (playM l)))∧S2[S.length]?=some (.cells 0 zW)∧WoDr S b bs P (playM l) b1 c1 d1 f1 S2) q
  ⟨[],S1.length+1,p+1,b1,c1,d1,f1,by omega,by simp; omega,by omega,by simp,rfl,rfl,rfl,rfl,rfl,by omega,?_,?_,?_,(hdr.draw _).app _⟩ ?_
 ·simp -implicitDefEqProofs (disch:=omega) only [push_cast,simprocAttr,↓gd]
 ·simp -implicitDefEqProofs (disch:=omega) only [push_cast,simprocAttr,↓gd]
  rfl
 ·simp -implicitDefEqProofs (disch:=omega) only [push_cast,simprocAttr,k0,↓gd]
 rintro m t S2 ⟨l,τ,P,b1,c1,d1,f1,hm,hlm,hP,hl,h0,h3,h4,h5,h6,hτ,kt,k1,k0,hdr⟩
 have lt:=lt_of_some kt
 have l1:=lt_of_some k1
 have l0:=lt_of_some k0
 have kb:=hdr.rd
 have lb:=lt_of_some kb
 have nt0:=right_ne kt k0
 have nt1:=right_ne kt k1
 have ntb:=right_ne kt kb
 have v0:=hdr.at_.var k0
 have v1:=hdr.at_.var k1
 have hW:=playM_w l
 have hB:=hW.b (by omega)
 refine wpV_of0 hD ?_
 by_cases h:0 < m
 ·have h':(m:Int) > 0:=by omega
  simp -implicitDefEqProofs (disch:=omega) only [push_cast,simprocAttr,h0,h3,h4,h5,h6,h',k1,↓gd]
  refine (l72Event_ok hB (by have:=stsOk_len hW.caller.sts; omega) b1 c1 d1 f1 bs b P (by omega) hbs S2 kb).mono ?_
  rintro r S3 ⟨⟨v,hv,rfl⟩,P2,hP2,rfl⟩
  have hpre:=fun Q X=>((hdr.draw Q).set (j:=τ) .dead hτ (hdr.at_.rt kt) (Ne.symm ntb)).app X
  have hS2b:∀B X,(S2.set b B++X)[b]?=some B:=fun B X=>stC lb _ _
  have hnes:=hdr.at_.nes
  have hhb:=hdr.hb; have hhc:=hdr.hc; have hhd:=hdr.hd; have hhf:=hdr.hf
  by_cases hl0:l=[]
  ·subst hl0
   simp -implicitDefEqProofs (disch:=omega) only [push_cast,simprocAttr,h0,h3,h4,h5,h6,↓gd]
   refine (l72Path_ok bs b P2 (by omega) hbs _ (hS2b _ _)).mono ?_
   rintro r S4 ⟨⟨s1,hs1,rfl⟩,rfl⟩
   simp -implicitDefEqProofs (disch:=omega) only [push_cast,simprocAttr,h0,h3,h4,h5,h6,stA lb,stB lb,↓gd]
   refine (l72Text_ok bs b (P2+1) (by omega) hbs _ (hS2b _ _)).mono ?_
   rintro r S4 ⟨⟨s2,hs2,rfl⟩,P3,hP3,rfl⟩
   simp -implicitDefEqProofs (disch:=omega) only [push_cast,simprocAttr,h0,h3,h4,h5,h6,stA lb,stB lb,kt,k1,↓gd]
   refine ((l22Do_ok hW (by omega) ⟨1,0,0,s1,s2⟩ (EvS.b ⟨hs1,hs2⟩) (hpre _ _).at_).as (by simp [wV,wC,enC,evV])).mono ?_
   rintro r S5 ⟨b2,c2,d2,f2,rfl,q5⟩
   have hn:=(hpre _ _).to q5
   have k0':=q5.upd.get (j:=S.length) (B:=.cells 0 zW) (by simp -implicitDefEqProofs (disch:=omega) only [push_cast,simprocAttr,k0,↓gd]) (by simp; omega)
   have k1':=q5.upd.get (j:=S1.length) (B:=.cells 0 (wC b1 c1 d1 f1 (playM []))) (by simp -implicitDefEqProofs (disch:=omega) only [push_cast,simprocAttr,k1,↓gd]) (by simp; omega)
   have kt':=q5.upd.get (j:=S2.length+2) (B:=.right 5) (by simp -implicitDefEqProofs (disch:=omega) only [push_cast,simprocAttr,↓gd]) (by simp; omega)
   have l1':=lt_of_some k1'
   have v1':=hn.at_.var k1'
   have hst:doM (playM []) ⟨1,0,0,s1,s2⟩=playM ([]++[⟨1,0,0,s1,s2⟩]):=by rw [playM,playM,List.foldl_append]; rfl
   rw [hst] at hn
   rw [hst]
   have ntt:=right_ne kt' k1'
   have hb2:b≠S1.length:=by omega
   generalize hy:playM ([]++[⟨1,0,0,s1,s2⟩])=y at *
   simp -implicitDefEqProofs (disch:=omega) only [push_cast,simprocAttr,h0,h3,h4,h5,h6,k1',↓gd]
   have hfin:WoDr S b bs P3 (playM ([]++[⟨1,0,0,s1,s2⟩])) b2 c2 d2 f2 (S5.set S1.length (.cells 0 (wC b2 c2 d2 f2 y))):=by rw [hy]; exact hn.set (j:=S1.length) _ (by omega) v1' hb2
   exact ⟨m - 1,by omega,[]++[⟨1,0,0,s1,s2⟩],S2.length+2,_,b2,c2,d2,f2,by omega,by simp at hlm ⊢; omega,by omega,fun u hu=>(List.mem_append.1 hu).elim (fun g=>hl u g) (fun g=>by rw [List.mem_singleton.1 g]; exact ⟨hs1,hs2⟩),by simp [evV],by congr 1; omega,by omega,by simp -implicitDefEqProofs (disch:=omega) only [push_cast,simprocAttr,kt',↓gd],by rw [hy],by simp -implicitDefEqProofs (disch:=omega) only [push_cast,simprocAttr,k0',↓gd],hfin⟩
  ·have hln:¬(l.length:Int)=0:=by have:=List.length_pos_iff.2 hl0; omega
   simp -implicitDefEqProofs (disch:=omega) only [push_cast,simprocAttr,h0,h3,h4,h5,h6,hln,kt,k1,evs_len5,↓gd]
   refine ⟨by omega,?_⟩
   refine ((l22Do_ok hW (by omega) v hv.b (hpre _ _).at_).as (by simp [wV,wC,enC,evV])).mono ?_
   rintro r S5 ⟨b2,c2,d2,f2,rfl,q5⟩
   have hn:=(hpre _ _).to q5
   have k0':=q5.upd.get (j:=S.length) (B:=.cells 0 zW) (by simp -implicitDefEqProofs (disch:=omega) only [push_cast,simprocAttr,k0,↓gd]) (by simp; omega)
   have k1':=q5.upd.get (j:=S1.length) (B:=.cells 0 (wC b1 c1 d1 f1 (playM l))) (by simp -implicitDefEqProofs (disch:=omega) only [push_cast,simprocAttr,k1,↓gd]) (by simp; omega)
   have kt':=q5.upd.get (j:=S2.length+2) (B:=.right 5) (by simp -implicitDefEqProofs (disch:=omega) only [push_cast,simprocAttr,↓gd]) (by simp; omega)
   have l1':=lt_of_some k1'
   have v1':=hn.at_.var k1'
   have hst:doM (playM l) v=playM (l++[v]):=by rw [playM,playM,List.foldl_append]; rfl
   rw [hst] at hn
   rw [hst]
   have ntt:=right_ne kt' k1'
   have hb2:b≠S1.length:=by omega
   generalize hy:playM (l++[v])=y at *
   simp -implicitDefEqProofs (disch:=omega) only [push_cast,simprocAttr,h0,h3,h4,h5,h6,k1',↓gd]
   have hfin:WoDr S b bs P2 (playM (l++[v])) b2 c2 d2 f2 (S5.set S1.length (.cells 0 (wC b2 c2 d2 f2 y))):=by rw [hy]; exact hn.set (j:=S1.length) _ (by omega) v1' hb2
   exact ⟨m - 1,by omega,l++[v],S2.length+2,_,b2,c2,d2,f2,by omega,by simp at hlm ⊢; omega,by omega,fun u hu=>(List.mem_append.1 hu).elim (fun g=>hl u g) (fun g=>by rw [List.mem_singleton.1 g]; exact hv),by simp [evV],by congr 1; omega,by omega,by simp -implicitDefEqProofs (disch:=omega) only [push_cast,simprocAttr,kt',↓gd],by rw [hy],by simp -implicitDefEqProofs (disch:=omega) only [push_cast,simprocAttr,k0',↓gd],hfin⟩
 ·have:m=0:=by omega
  subst this
  simp -implicitDefEqProofs (disch:=omega) only [push_cast,simprocAttr,h0,h3,h4,h5,h6,k1,k0,↓gd]
  exact ⟨_,_,Wk.refl _ _ _,l,τ,P,b1,c1,d1,f1,by omega,hl,rfl,by simp -implicitDefEqProofs (disch:=omega) only [push_cast,simprocAttr,kt,↓gd],hτ,by omega,hdr.set (j:=S.length) _ (Nat.le_refl _) v0 (by omega)⟩
end
section
open Go
inductive Spoilt (x:Wo):Wo→Prop where
 | none:Spoilt x x
 | ans:Spoilt x { x with caller:={ x.caller with ans:=true } }
 | up (o:List UInt8):o.length≤10→Spoilt x { x with up:=x.up++o }
 | table (t:List Fd) (m:Int):t.length≤20→(∀f ∈ t,FdS f)→Spoilt x { x with answerer:={ x.answerer with inn:=t,innM:=m } }
 | id (k:Int):0≤k→k < 9→x.caller.strs≠[]→Spoilt x { x with caller:={ x.caller with strs:=x.caller.strs.set 0 { x.caller.strs.getD 0 st0 with id:=k } } }
def Drawn (w:Wo):Prop:=∃l:List Ev,l.length≤58∧(∀v ∈ l,EvS v)∧Spoilt (playM l) w
theorem Drawn.b {w:Wo} (h:Drawn w):WoB w:=by
 obtain ⟨l,hl,hv,hs⟩:=h
 have hW:=playM_w l
 have hB:=hW.b (by omega)
 have hup:=hW.up
 cases hs with
 | none=>exact hB
 | ans=>exact ⟨⟨hB.caller.sts,hB.caller.len,hB.caller.wait,hB.caller.out,hB.caller.inn,hB.caller.came⟩,hB.answerer,hB.up,hB.down⟩
 | up o ho=>exact ⟨hB.caller,hB.answerer,by simp only [List.length_append]; omega,hB.down⟩
 | table t m ht hf=>exact ⟨hB.caller,⟨hB.answerer.sts,hB.answerer.len,hB.answerer.wait,hB.answerer.out,⟨by simp only; omega,fun f hf'=>(hf f hf').b⟩,hB.answerer.came⟩,hB.up,hB.down⟩
 | id k h1 h2 h3 =>
  have hp:=List.length_pos_iff.2 h3
  refine ⟨⟨fun s hs=>?_,by simp only [List.length_set]; exact hB.caller.len,hB.caller.wait,hB.caller.out,hB.caller.inn,hB.caller.came⟩,hB.answerer,hB.up,hB.down⟩
  have h0:=hB.caller.sts _ (getD_memS hp)
  rcases List.mem_or_eq_of_mem_set hs with g | g
  ·exact hB.caller.sts s g
  ·subst g
   exact ⟨h0.head,h0.got,h0.say,h0.text⟩
end
section
open Go
def DrawnE (e:En) (wire:List UInt8):Prop:=∃w:Wo,Drawn w∧((e=w.caller∧wire=w.down)∨(e=w.answerer∧wire=w.up))
theorem DrawnE.b {e:En} {wire:List UInt8} (h:DrawnE e wire):EnB e∧wire.length≤1100000:=by
 obtain ⟨w,hd,h⟩:=h
 have hB:=hd.b
 rcases h with ⟨rfl,rfl⟩ | ⟨rfl,rfl⟩
 ·exact ⟨hB.caller,hB.down⟩
 ·exact ⟨hB.answerer,hB.up⟩
structure EnDr (S:List Blk) (b:Nat) (bs:List UInt8) (P:Nat) (e:En) (b1 c1:Nat) (S':List Blk):Prop where
 at_:EnAt S' b1 c1 e
 hb:S.length≤b1
 hc:S.length≤c1
 upd:Upd [b] S S'
 rd:S'[b]?=some (Rd bs P)
theorem EnDr.app {S:List Blk} {b:Nat} {bs:List UInt8} {P:Nat} {e:En} {b1 c1:Nat} {S':List Blk} (h:EnDr S b bs P e b1 c1 S') (X:List Blk):EnDr S b bs P e b1 c1 (S'++X) :=
 ⟨h.at_.app X,h.hb,h.hc,h.upd.app X,by rw [List.getElem?_append_left (lt_of_some h.rd)]; exact h.rd⟩
theorem Upd.open_ {S S':List Blk} {B:Blk} {b:Nat} (hb:S.length≤b) (h:Upd [b] (S++[B]) S'):Upd [] S S' :=
 ((Upd.refl [] S).app [B]).then_ h (fun j hj hm=>by simp at hm; omega)
theorem Wk.forget {S Z:List Blk} {r:V} (h:Upd [] S Z) (hc:Cl S.length r):Wk S r Z r S:=by
 have e:Z.take S.length=S:=by
  apply List.ext_getElem?
  intro j
  rw [List.getElem?_take]
  split
  ·rename_i hj; exact h.2 j hj (by simp)
  ·rename_i hj; rw [List.getElem?_eq_none (by omega)]
 have hk:=Wk.cut (S0:=S) (S:=Z) (r:=r) (n:=S.length) (Nat.le_refl _) h.1 hc (fun j sz cs hj hz=>.inl (by rw [←h.2 j hj (by simp)]; exact hz))
 rwa [e] at hk
theorem evs_cl (n:Nat) (l:List Ev):Cl n (.rows none (l.map evV)):=by
 refine .rows (fun τ h=>by cases h) ?_
 intro v hv
 obtain ⟨x,hx,hvx⟩:=List.mem_flatMap.1 hv
 obtain ⟨u,_,rfl⟩:=List.mem_map.1 hx
 exact (evV_cl n u).cells v hvx
theorem DrawWorldPlay_ok (code:List UInt8) (hc:code.length≤1073741824) (S:List Blk) :
  VCall Tryz.prog 29 [.rows none (code.map u8V)] S fun r S'=>∃l:List Ev,l.length≤61∧(∀v ∈ l,EvS v)∧r=.rows none (l.map evV)∧S'=S:=by
 refine VCall.en hD Tryz.func29 Tryz.ntmps29 Tryz.results29 ?_
 simp -implicitDefEqProofs (disch:=omega) only [push_cast,simprocAttr,↓gd]
 refine (l6Open_ok code hc _).to ?_
 simp -implicitDefEqProofs (disch:=omega) only [push_cast,simprocAttr,↓gd]
 generalize hbs:code.take 2000=bs
 have hbl:bs.length≤2000:=by rw [←hbs,List.length_take]; omega
 refine (l72Play_ok bs S.length 0 (by omega) hbl _ (by simp)).mono ?_
 rintro r S1 ⟨l,τ,P,b1,c1,d1,f1,hl,hv,rfl,hτ,hτ2,hP,hdr⟩
 rw [List.length_append] at hτ2
 have kr:=hdr.rd
 have lr:=lt_of_some kr
 have ntb:=right_ne hτ kr
 have lt:=lt_of_some hτ
 have hu:S.length < S1.length:=by have:=hdr.upd.1; simp at this; omega
 simp -implicitDefEqProofs (disch:=omega) only [push_cast,simprocAttr,↓gd]
 refine (pickI bs S.length P 40 _ (by simp) (by omega) (by omega) hbl _ (by rw [List.getElem?_append_left lr]; exact kr)).mono ?_
 rintro r S2 ⟨⟨q,hq,rfl⟩,rfl⟩
 have fin:∀(k:List Ev) (tok:Option Nat) (Z:List Blk),k.length≤61→(∀v ∈ k,EvS v)→Upd [] S Z→∃r S2,Wk S (V.rows tok (k.map evV)) Z r S2∧∃l:List Ev,l.length≤61∧(∀v ∈ l,EvS v)∧r=.rows none (l.map evV)∧S2=S:=by
  intro k tok Z h1 h2 h3
  exact ⟨_,_,(Wk.eraseT S (.rows tok (k.map evV)) Z).trans (Wk.forget h3 (evs_cl _ k)),k,h1,h2,rfl,rfl⟩
 have hup:=Upd.open_ (Nat.le_refl _) hdr.upd
 have hup2:∀B X,Upd [] S (S1.set S.length B++X):=fun B X=>(hup.set B (.inl (Nat.le_refl _))).app X
 by_cases q0:q=0
 ·subst q0
  simp -implicitDefEqProofs (disch:=omega) only [push_cast,simprocAttr,stA lr,stB lr,↓gd]
  refine wpV_loop (fun m t S2=>∃(k:List Ev) (τ:Nat),m=61 - k.length∧k.length≤61∧(∀v ∈ k,EvS v)∧t 4=.rows (some τ) (k.map evV)∧S.length≤τ∧S2[τ]?=some (.right 5)∧Upd [] S S2) (61 - l.length)
   ⟨l,τ,rfl,by omega,hv,rfl,by omega,by rw [List.getElem?_append_left (by simpa using lt),get_set_ne (Ne.symm ntb)]; exact hτ,hup2 _ _⟩ ?_
  rintro m t S2 ⟨k,τ,rfl,hk,hkv,h4,hτn,hτ,hu2⟩
  have ltt:=lt_of_some hτ
  refine wpV_of0 hD ?_
  by_cases hkl:k.length≤60
  ·have hkl':(k.length:Int)≤60:=by omega
   simp -implicitDefEqProofs (disch:=omega) only [push_cast,simprocAttr,h4,hkl',hτ,evs_len5,↓gd]
   exact ⟨by omega,61 - (k.length+1),by omega,k++[⟨3,0,0,[],[]⟩],S2.length+1,by simp,by simp; omega,fun u hu=>(List.mem_append.1 hu).elim (fun g=>hkv u g) (fun g=>by rw [List.mem_singleton.1 g]; exact ⟨by simp,by simp⟩),by simp [evV],by have:=hu2.1; omega,by simp -implicitDefEqProofs (disch:=omega) only [push_cast,simprocAttr,↓gd],(hu2.set _ (.inl hτn)).app _⟩
  ·have hkl':¬(k.length:Int)≤60:=by omega
   simp -implicitDefEqProofs (disch:=omega) only [push_cast,simprocAttr,h4,hkl',↓gd]
   exact fin k _ _ hk hkv hu2
 ·have q0':¬(q:Int)=0:=by omega
  simp -implicitDefEqProofs (disch:=omega) only [push_cast,simprocAttr,stA lr,stB lr,q0',↓gd]
  exact fin l _ _ (by omega) hv (hup2 _ _)
end
section
open Go
theorem three {a b c:Int} {x:Nat} (h:x < 3):∃z:Int,[V.int .i64 a,V.int .i64 b,V.int .i64 c].getD x .junk=.int .i64 z:=by
 rcases (by omega:x=0∨x=1∨x=2) with rfl | rfl | rfl <;> exact ⟨_,rfl⟩
end
section
open Go
theorem four {a b c d:Int} {x:Nat} (hx:x < 4):∃z:Int,((z=a∨z=b)∨(z=c∨z=d))∧[V.int .i64 a,V.int .i64 b,V.int .i64 c,V.int .i64 d].getD x .junk=.int .i64 z:=by
 rcases (by omega:x=0∨x=1∨x=2∨x=3) with rfl | rfl | rfl | rfl
 ·exact ⟨a,.inl (.inl rfl),rfl⟩
 ·exact ⟨b,.inl (.inr rfl),rfl⟩
 ·exact ⟨c,.inr (.inl rfl),rfl⟩
 ·exact ⟨d,.inr (.inr rfl),rfl⟩
end
section
open Go
theorem lkFields_self (a:List Fd) (ha:a.length≤2000000) (S:List Blk):VCall Tryz.prog 75 [.rows none (a.map fV),.rows none (a.map fV)] S fun r S'=>r=.bool true∧S'=S:=by
 have h:=lkFields_ok a a ha ha S
 rw [decide_eq_true rfl] at h
 exact h
end
section
open Go
theorem lkStream_self (s:St) (hb:StB s) (S:List Blk):VCall Tryz.prog 44 [stV s,stV s] S fun r S'=>r=.bool true∧S'=S:=by
 have h1:=hb.head.1
 have h2:=hb.got.1
 refine VCall.en hD Tryz.func44 Tryz.ntmps44 Tryz.results44 ?_
 simp -implicitDefEqProofs (disch:=omega) only [push_cast,simprocAttr,decide_true,Bool.and_self,↓gd]
 refine ((lkFields_self s.head h1 _).as rfl).to ?_
 simp -implicitDefEqProofs (disch:=omega) only [push_cast,simprocAttr,↓gd]
 refine ((lkFields_self s.got h2 _).as rfl).to ?_
 simp -implicitDefEqProofs (disch:=omega) only [push_cast,simprocAttr,↓gd]
 exact fin1 (.bool _) rfl
theorem lkFrames_self (l:List Fr) (hl:l.length≤1100000) {S:List Blk} {b c:Nat} (hb:S[b]?=some (.cells 4 (frmsC l))) (hc:S[c]?=some (.cells 4 (frmsC l))):VCall Tryz.prog 45 [.heap b l.length,.heap c l.length] S fun r S'=>r=.bool true∧S'=S:=by
 have hlw:=frmsC_len l
 refine VCall.ex hDe (fun _=>false) (fun id=>if id=6 then [9,9,9,9,9,9,9,9,9] else []) Tryz.func45 Tryz.ntmps45 Tryz.results45 ?_
 simp -implicitDefEqProofs (disch:=omega) only [push_cast,simprocAttr,↓gd]
 refine wpV_loop (fun m t S'=>∃i:Nat,m=l.length - i∧i≤l.length∧t 0=.heap b l.length∧t 1=.heap c l.length∧t 5=.int .i64 i∧S'=S) l.length ⟨0,by omega,by omega,rfl,rfl,rfl,rfl⟩ ?_
 rintro m t S' ⟨i,rfl,hi,h0,h1,h5,rfl⟩
 refine wpV_of hDe (fun _=>false) (fun id=>if id=6 then [9,9,9,9,9,9,9,9,9] else []) (by kernel_rfl) ?_
 simp -implicitDefEqProofs (disch:=omega) only [push_cast,simprocAttr,h0,h1,h5,↓gd]
 refine ⟨fun h=>?_,fun h=>?_⟩
 ·have hil:i < l.length:=by omega
  have hat:=frmsC_at hil
  simp -implicitDefEqProofs (disch:=omega) only [push_cast,simprocAttr,h0,h1,h5,hb,hc,hat,decide_true,Bool.and_self,↓gd]
  exact ⟨by omega,by omega,by omega,by omega,by omega,by omega,l.length - (i+1),by omega,i+1,rfl,by omega,by simp⟩
 ·exact fin0 rfl
theorem lkEnd_self {e:En} (he:EnB e) {S:List Blk} {b c d f:Nat} (h1:EnAt S b c e) (h2:EnAt S d f e):VCall Tryz.prog 13 [eV b c e,eV d f e] S fun r S'=>r=.bool true∧S'=S:=by
 have hel:=he.len
 have hwl:=he.wait
 have lb:=lt_of_some h1.1
 have lc:=lt_of_some h1.2
 have ld:=lt_of_some h2.1
 have lf:=lt_of_some h2.2
 have hb:=h1.1
 have hd:=h2.1
 have hlen:=strsC_len e.strs
 have ho:=he.out.1
 have hi:=he.inn.1
 refine VCall.ex hDe (fun _=>false) (fun id=>if id=6 then [10,10,10,10,10,10,10,10,10,10,12,12] else []) Tryz.func13 Tryz.ntmps13 Tryz.results13 ?_
 simp -implicitDefEqProofs (disch:=omega) only [push_cast,simprocAttr,decide_true,Bool.and_self,↓gd]
 refine wpV_loop (fun m t S'=>∃i:Nat,m=e.strs.length - i∧i≤e.strs.length∧t 2=.ptr S.length 0∧t 3=.ptr (S.length+1) 0∧t 5=.int .i64 i∧S'=S++[.cells 0 (enC (.heap b e.strs.length) (.heap c e.wait.length) e),.cells 0 (enC (.heap d e.strs.length) (.heap f e.wait.length) e)]) e.strs.length ⟨0,by omega,by omega,rfl,rfl,rfl,rfl⟩ ?_
 rintro m t S' ⟨i,rfl,hi',h2',h3,h5,rfl⟩
 refine wpV_of hDe (fun _=>false) (fun id=>if id=6 then [10,10,10,10,10,10,10,10,10,10,12,12] else []) (by kernel_rfl) ?_
 by_cases hil:i < e.strs.length
 ·have hil':(i:Int) < e.strs.length:=by omega
  have hat:=strsC_at hil
  simp -implicitDefEqProofs (disch:=omega) only [push_cast,simprocAttr,h2',h3,h5,hil',hb,hd,hat,↓gd]
  repeat refine And.intro (by omega) ?_
  refine ((lkStream_self (e.strs.getD i st0) (he.sts _ (getD_memS hil)) _).as (by simp [stV,strC])).to ?_
  simp -implicitDefEqProofs (disch:=omega) only [push_cast,simprocAttr,h2',h3,h5,↓gd]
  exact ⟨e.strs.length - (i+1),by omega,i+1,rfl,by omega,by simp⟩
 ·have:i=e.strs.length:=by omega
  subst this
  have hil':¬((e.strs.length:Nat):Int) < e.strs.length:=by omega
  simp -implicitDefEqProofs (disch:=omega) only [push_cast,simprocAttr,h2',h3,h5,hil',↓gd]
  refine ((lkTable_self e.out e.outM ho _).as rfl).to ?_
  simp -implicitDefEqProofs (disch:=omega) only [push_cast,simprocAttr,h2',h3,h5,↓gd]
  refine ((lkTable_self e.inn e.innM hi _).as rfl).to ?_
  simp -implicitDefEqProofs (disch:=omega) only [push_cast,simprocAttr,h2',h3,h5,↓gd]
  refine ((lkFrames_self e.wait hwl (b:=c) (c:=f) (S:=_) ?_ ?_).as rfl).to ?_
  ·rw [List.getElem?_append_left lc]; exact h1.2
  ·rw [List.getElem?_append_left lf]; exact h2.2
  simp -implicitDefEqProofs (disch:=omega) only [push_cast,simprocAttr,↓gd]
  exact fin1 (.bool _) rfl
theorem lkWorld_self {w:Wo} (hB:WoB w) {S:List Blk} {b c d f b' c' d' f':Nat} (h1:WoAt S b c d f w) (h2:WoAt S b' c' d' f' w):VCall Tryz.prog 32 [wV b c d f w,wV b' c' d' f' w] S fun r S'=>r=.bool true∧S'=S:=by
 refine VCall.en hDe Tryz.func32 Tryz.ntmps32 Tryz.results32 ?_
 simp -implicitDefEqProofs (disch:=omega) only [push_cast,simprocAttr,↓gd]
 refine ((lkEnd_self hB.caller (h1.caller.app _) (h2.caller.app _)).as (by simp [eV,enV,enC])).to ?_
 simp -implicitDefEqProofs (disch:=omega) only [push_cast,simprocAttr,↓gd]
 refine ((lkEnd_self hB.answerer (h1.answerer.app _) (h2.answerer.app _)).as (by simp [eV,enV,enC])).to ?_
 simp -implicitDefEqProofs (disch:=omega) only [push_cast,simprocAttr,decide_true,Bool.and_self,↓gd]
 exact fin1 (.bool _) rfl
end
section
open Go
theorem WoAt.upd0 {S S':List Blk} {b c d f:Nat} {w:Wo} (h:WoAt S b c d f w) (hu:Upd [] S S'):WoAt S' b c d f w:=⟨h.caller.upd hu (by simp) (by simp),h.answerer.upd hu (by simp) (by simp),h.ne1,h.ne2⟩
end
section
open Go
theorem lkBegins_self (a t:List UInt8) (h:a.length+t.length≤1100000) (S:List Blk):VCall Tryz.prog 85 [.str a,.str (a++t)] S fun r S'=>r=.bool true∧S'=S:=by
 refine VCall.en hD Tryz.func85 Tryz.ntmps85 Tryz.results85 ?_
 have h1:(a.length:Int)≤(a.length:Int)+(t.length:Int):=by omega
 have h2:(a++t).take a.length=a:=by simp
 simp -implicitDefEqProofs (disch:=omega) only [push_cast,simprocAttr,h1,h2,List.length_append,Int.natCast_add,decide_true,↓gd]
 repeat refine And.intro (by omega) ?_
 exact fin0 rfl
end
end Go.Proofs.YtaamlddnpamomaaGreatDoor
