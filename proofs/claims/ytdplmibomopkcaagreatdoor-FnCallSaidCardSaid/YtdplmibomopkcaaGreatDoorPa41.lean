/- A part of the proof: contracts of functions, or plain facts on which these lean. -/
import Derived.Test.YtdplmibomopkcaaGreatDoorPa20
import Derived.Test.YtdplmibomopkcaaGreatDoorPa33
import Derived.Test.YtdplmibomopkcaaGreatDoorPa34
import Derived.Test.YtdplmibomopkcaaGreatDoorPa39
import Derived.Test.YtdplmibomopkcaaGreatDoorPa40
namespace Go.Proofs.YtdplmibomopkcaaGreatDoor
open Go
set_option linter.unusedVariables false
set_option linter.unusedSimpArgs false
set_option maxRecDepth 100000
set_option maxHeartbeats 16000000

section
open Go
theorem four {a b c d:Int} {x:Nat} (hx:x < 4):∃z:Int,((z=a∨z=b)∨(z=c∨z=d))∧[V.int .i64 a,V.int .i64 b,V.int .i64 c,V.int .i64 d].getD x .junk=.int .i64 z:=by
 rcases (by omega:x=0∨x=1∨x=2∨x=3) with rfl | rfl | rfl | rfl
 ·exact ⟨a,.inl (.inl rfl),rfl⟩
 ·exact ⟨b,.inl (.inr rfl),rfl⟩
 ·exact ⟨c,.inr (.inl rfl),rfl⟩
 ·exact ⟨d,.inr (.inr rfl),rfl⟩
def FrB (f:Fr):Prop:=0≤f.kind∧0≤f.stream∧f.body.length≤1000
theorem frV_cl (n:Nat) (f:Fr):Cl n (frV f):=by
 refine .agg ?_
 simp only [frmC,List.mem_cons,List.not_mem_nil,or_false,forall_eq_or_imp,forall_eq]
 exact ⟨.int _ _,.bool _,.int _ _,.str _⟩
theorem l71Frame_ok (bs:List UInt8) (b p:Nat) (hp:p≤10000000) (hbs:bs.length≤2000) (S:List Blk) (hS:S[b]?=some (Rd bs p)) :
  VCall Tryz.prog 40 [.ptr b 0] S fun r S'=>(∃f:Fr,FrB f∧r=frV f)∧∃p',p'≤p+200∧S'=S.set b (Rd bs p'):=by
 have hbl:=rd_lt hS
 have hS2b:∀B X,(S.set b B++X)[b]?=some B:=fun B X=>stC hbl _ _
 have fin:∀(f:Fr) (P:Nat) (X:List Blk),FrB f→P≤p+200→∃r S2,Wk S (frV f) (S.set b (Rd bs P)++X) r S2∧(∃f:Fr,FrB f∧r=frV f)∧∃p',p'≤p+200∧S2=S.set b (Rd bs p') :=
  fun v P X h1 h2=>⟨_,_,finS (frV_cl _ v),⟨v,h1,rfl⟩,P,h2,rfl⟩
 refine VCall.ex hD (fun f=> if f=none then true else false) (fun id=>if id=1 then [11,11,1000000,11,11,11,1000000,11,11,11,1000000,12,10] else if id=9 then [6,6,3,6,6,6,7] else []) Tryz.func40 Tryz.ntmps40 Tryz.results40 ?_
 simp -implicitDefEqProofs (disch:=omega) only [push_cast,simprocAttr,↓gd]
 refine (pickI bs b p 4 _ (by simp) (by omega) (by omega) hbs _ (by rw [List.getElem?_append_left hbl]; exact hS)).mono ?_
 rintro r S1 ⟨⟨q1,hq1,rfl⟩,rfl⟩
 obtain ⟨z,hz4,hz⟩:=four (a:=0) (b:=1) (c:=3) (d:=8) hq1
 simp -implicitDefEqProofs (disch:=omega) only [push_cast,simprocAttr,stA hbl,stB hbl,hz,↓gd]
 repeat refine And.intro (by omega) ?_
 refine (pickI bs b (p+1) 4 _ (by simp) (by omega) (by omega) hbs _ (hS2b _ _)).mono ?_
 rintro r S1 ⟨⟨q2,hq2,rfl⟩,rfl⟩
 rcases hz4 with (rfl | rfl) | (rfl | rfl)
 ·simp -implicitDefEqProofs (disch:=omega) only [push_cast,simprocAttr,stA hbl,stB hbl,↓gd]
  refine ⟨rfl,?_⟩
  refine (pickI bs b (p+2) 2 _ (by simp) (by omega) (by omega) hbs _ (hS2b _ _)).mono ?_
  rintro r S1 ⟨⟨q3,hq3,rfl⟩,rfl⟩
  simp -implicitDefEqProofs (disch:=omega) only [push_cast,simprocAttr,stA hbl,stB hbl,↓gd]
  refine (l71Word_ok bs b (p+3) (by omega) hbs _ (hS2b _ _)).mono ?_
  rintro r S1 ⟨⟨s,hs,rfl⟩,P,hP,rfl⟩
  simp -implicitDefEqProofs (disch:=omega) only [push_cast,simprocAttr,stA hbl,stB hbl,↓gd]
  refine (pickI bs b (P) 24 _ (by simp) (by omega) (by omega) hbs _ (hS2b _ _)).mono ?_
  rintro r S1 ⟨⟨q9,hq9,rfl⟩,rfl⟩
  have hb9:(s:List UInt8).length≤1000:=by omega
  by_cases e0:q9=0
  ·subst e0
   simp -implicitDefEqProofs (disch:=omega) only [push_cast,simprocAttr,stA hbl,stB hbl,↓gd]
   refine (pickI bs b (P+1) 10 _ (by simp) (by omega) (by omega) hbs _ (hS2b _ _)).mono ?_
   rintro r S1 ⟨⟨x,hx,rfl⟩,rfl⟩
   simp -implicitDefEqProofs (disch:=omega) only [push_cast,simprocAttr,stA hbl,stB hbl,↓gd]
   exact fin ⟨x,(decide ((q3:Int)=0)),(1+2 * q2),s⟩ (P+2) _ ⟨by simp only; omega,by simp only; omega,hb9⟩ (by omega)
  by_cases e1:q9=1
  ·subst e1
   simp -implicitDefEqProofs (disch:=omega) only [push_cast,simprocAttr,stA hbl,stB hbl,↓gd]
   refine (pickI bs b (P+1) 10 _ (by simp) (by omega) (by omega) hbs _ (hS2b _ _)).mono ?_
   rintro r S1 ⟨⟨x,hx,rfl⟩,rfl⟩
   simp -implicitDefEqProofs (disch:=omega) only [push_cast,simprocAttr,stA hbl,stB hbl,↓gd]
   exact fin ⟨0,(decide ((q3:Int)=0)),x,s⟩ (P+2) _ ⟨by simp only; omega,by simp only; omega,hb9⟩ (by omega)
  by_cases e2:q9=2
  ·subst e2
   simp -implicitDefEqProofs (disch:=omega) only [push_cast,simprocAttr,stA hbl,stB hbl,↓gd]
   refine (pickI bs b (P+1) 10 _ (by simp) (by omega) (by omega) hbs _ (hS2b _ _)).mono ?_
   rintro r S1 ⟨⟨x,hx,rfl⟩,rfl⟩
   simp -implicitDefEqProofs (disch:=omega) only [push_cast,simprocAttr,stA hbl,stB hbl,↓gd]
   refine ((l6Many_ok [120] (195+x) (by simp; omega) (by omega) _).as (by simp)).mono ?_
   rintro r S1 ⟨⟨u,hu,rfl⟩,rfl⟩
   simp at hu
   simp -implicitDefEqProofs (disch:=omega) only [push_cast,simprocAttr,stA hbl,stB hbl,↓gd]
   exact fin ⟨0,(decide ((q3:Int)=0)),(1+2 * q2),u⟩ (P+2) _ ⟨by simp only; omega,by simp only; omega,by simp only; omega⟩ (by omega)
  have j0:¬(q9:Int)=0:=by omega
  have j1:¬(q9:Int)=1:=by omega
  have j2:¬(q9:Int)=2:=by omega
  simp -implicitDefEqProofs (disch:=omega) only [push_cast,simprocAttr,stA hbl,stB hbl,j0,j1,j2,↓gd]
  exact fin ⟨0,(decide ((q3:Int)=0)),(1+2 * q2),s⟩ (P+1) _ ⟨by simp only; omega,by simp only; omega,hb9⟩ (by omega)
 ·simp -implicitDefEqProofs (disch:=omega) only [push_cast,simprocAttr,stA hbl,stB hbl,↓gd]
  refine ⟨rfl,?_⟩
  refine (pickI bs b (p+2) 2 _ (by simp) (by omega) (by omega) hbs _ (hS2b _ _)).mono ?_
  rintro r S1 ⟨⟨q3,hq3,rfl⟩,rfl⟩
  simp -implicitDefEqProofs (disch:=omega) only [push_cast,simprocAttr,stA hbl,stB hbl,↓gd]
  refine (l71Word_ok bs b (p+3) (by omega) hbs _ (hS2b _ _)).mono ?_
  rintro r S1 ⟨⟨s,hs,rfl⟩,P,hP,rfl⟩
  simp -implicitDefEqProofs (disch:=omega) only [push_cast,simprocAttr,stA hbl,stB hbl,↓gd]
  refine (pickI bs b (P) 24 _ (by simp) (by omega) (by omega) hbs _ (hS2b _ _)).mono ?_
  rintro r S1 ⟨⟨q9,hq9,rfl⟩,rfl⟩
  have hb9:(s:List UInt8).length≤1000:=by omega
  by_cases e0:q9=0
  ·subst e0
   simp -implicitDefEqProofs (disch:=omega) only [push_cast,simprocAttr,stA hbl,stB hbl,↓gd]
   refine (pickI bs b (P+1) 10 _ (by simp) (by omega) (by omega) hbs _ (hS2b _ _)).mono ?_
   rintro r S1 ⟨⟨x,hx,rfl⟩,rfl⟩
   simp -implicitDefEqProofs (disch:=omega) only [push_cast,simprocAttr,stA hbl,stB hbl,↓gd]
   exact fin ⟨x,(decide ((q3:Int)=0)),(1+2 * q2),s⟩ (P+2) _ ⟨by simp only; omega,by simp only; omega,hb9⟩ (by omega)
  by_cases e1:q9=1
  ·subst e1
   simp -implicitDefEqProofs (disch:=omega) only [push_cast,simprocAttr,stA hbl,stB hbl,↓gd]
   refine (pickI bs b (P+1) 10 _ (by simp) (by omega) (by omega) hbs _ (hS2b _ _)).mono ?_
   rintro r S1 ⟨⟨x,hx,rfl⟩,rfl⟩
   simp -implicitDefEqProofs (disch:=omega) only [push_cast,simprocAttr,stA hbl,stB hbl,↓gd]
   exact fin ⟨1,(decide ((q3:Int)=0)),x,s⟩ (P+2) _ ⟨by simp only; omega,by simp only; omega,hb9⟩ (by omega)
  by_cases e2:q9=2
  ·subst e2
   simp -implicitDefEqProofs (disch:=omega) only [push_cast,simprocAttr,stA hbl,stB hbl,↓gd]
   refine (pickI bs b (P+1) 10 _ (by simp) (by omega) (by omega) hbs _ (hS2b _ _)).mono ?_
   rintro r S1 ⟨⟨x,hx,rfl⟩,rfl⟩
   simp -implicitDefEqProofs (disch:=omega) only [push_cast,simprocAttr,stA hbl,stB hbl,↓gd]
   refine ((l6Many_ok [120] (195+x) (by simp; omega) (by omega) _).as (by simp)).mono ?_
   rintro r S1 ⟨⟨u,hu,rfl⟩,rfl⟩
   simp at hu
   simp -implicitDefEqProofs (disch:=omega) only [push_cast,simprocAttr,stA hbl,stB hbl,↓gd]
   exact fin ⟨1,(decide ((q3:Int)=0)),(1+2 * q2),u⟩ (P+2) _ ⟨by simp only; omega,by simp only; omega,by simp only; omega⟩ (by omega)
  have j0:¬(q9:Int)=0:=by omega
  have j1:¬(q9:Int)=1:=by omega
  have j2:¬(q9:Int)=2:=by omega
  simp -implicitDefEqProofs (disch:=omega) only [push_cast,simprocAttr,stA hbl,stB hbl,j0,j1,j2,↓gd]
  exact fin ⟨1,(decide ((q3:Int)=0)),(1+2 * q2),s⟩ (P+1) _ ⟨by simp only; omega,by simp only; omega,hb9⟩ (by omega)
 ·simp -implicitDefEqProofs (disch:=omega) only [push_cast,simprocAttr,stA hbl,stB hbl,↓gd]
  refine ⟨rfl,?_⟩
  refine (pickI bs b (p+2) 24 _ (by simp) (by omega) (by omega) hbs _ (hS2b _ _)).mono ?_
  rintro r S1 ⟨⟨q9,hq9,rfl⟩,rfl⟩
  have hb9:([]:List UInt8).length≤1000:=by simp
  by_cases e0:q9=0
  ·subst e0
   simp -implicitDefEqProofs (disch:=omega) only [push_cast,simprocAttr,stA hbl,stB hbl,↓gd]
   refine (pickI bs b (p+2+1) 10 _ (by simp) (by omega) (by omega) hbs _ (hS2b _ _)).mono ?_
   rintro r S1 ⟨⟨x,hx,rfl⟩,rfl⟩
   simp -implicitDefEqProofs (disch:=omega) only [push_cast,simprocAttr,stA hbl,stB hbl,↓gd]
   exact fin ⟨x,false,(1+2 * q2),[]⟩ (p+2+2) _ ⟨by simp only; omega,by simp only; omega,hb9⟩ (by omega)
  by_cases e1:q9=1
  ·subst e1
   simp -implicitDefEqProofs (disch:=omega) only [push_cast,simprocAttr,stA hbl,stB hbl,↓gd]
   refine (pickI bs b (p+2+1) 10 _ (by simp) (by omega) (by omega) hbs _ (hS2b _ _)).mono ?_
   rintro r S1 ⟨⟨x,hx,rfl⟩,rfl⟩
   simp -implicitDefEqProofs (disch:=omega) only [push_cast,simprocAttr,stA hbl,stB hbl,↓gd]
   exact fin ⟨3,false,x,[]⟩ (p+2+2) _ ⟨by simp only; omega,by simp only; omega,hb9⟩ (by omega)
  by_cases e2:q9=2
  ·subst e2
   simp -implicitDefEqProofs (disch:=omega) only [push_cast,simprocAttr,stA hbl,stB hbl,↓gd]
   refine (pickI bs b (p+2+1) 10 _ (by simp) (by omega) (by omega) hbs _ (hS2b _ _)).mono ?_
   rintro r S1 ⟨⟨x,hx,rfl⟩,rfl⟩
   simp -implicitDefEqProofs (disch:=omega) only [push_cast,simprocAttr,stA hbl,stB hbl,↓gd]
   refine ((l6Many_ok [120] (195+x) (by simp; omega) (by omega) _).as (by simp)).mono ?_
   rintro r S1 ⟨⟨u,hu,rfl⟩,rfl⟩
   simp at hu
   simp -implicitDefEqProofs (disch:=omega) only [push_cast,simprocAttr,stA hbl,stB hbl,↓gd]
   exact fin ⟨3,false,(1+2 * q2),u⟩ (p+2+2) _ ⟨by simp only; omega,by simp only; omega,by simp only; omega⟩ (by omega)
  have j0:¬(q9:Int)=0:=by omega
  have j1:¬(q9:Int)=1:=by omega
  have j2:¬(q9:Int)=2:=by omega
  simp -implicitDefEqProofs (disch:=omega) only [push_cast,simprocAttr,stA hbl,stB hbl,j0,j1,j2,↓gd]
  exact fin ⟨3,false,(1+2 * q2),[]⟩ (p+2+1) _ ⟨by simp only; omega,by simp only; omega,hb9⟩ (by omega)
 ·simp -implicitDefEqProofs (disch:=omega) only [push_cast,simprocAttr,stA hbl,stB hbl,↓gd]
  refine ⟨rfl,?_⟩
  refine (pickI bs b (p+2) 31 _ (by simp) (by omega) (by omega) hbs _ (hS2b _ _)).mono ?_
  rintro r S1 ⟨⟨q3,hq3,rfl⟩,rfl⟩
  simp -implicitDefEqProofs (disch:=omega) only [push_cast,simprocAttr,stA hbl,stB hbl,↓gd]
  have e1:(1:Int)+q3=((1+q3:Nat):Int):=by omega
  refine ((l1Byte_ok (1+q3) _).as (by rw [←e1])).to ?_
  simp -implicitDefEqProofs (disch:=omega) only [push_cast,simprocAttr,stA hbl,stB hbl,↓gd]
  refine (pickI bs b (p+3) 2 _ (by simp) (by omega) (by omega) hbs _ (hS2b _ _)).mono ?_
  rintro r S1 ⟨⟨q4,hq4,rfl⟩,rfl⟩
  have e2:∃y:Nat,((1:Int)+2 * q2) * q4=y∧y≤1000:=by
   rcases (by omega:q4=0∨q4=1) with rfl | rfl
   ·exact ⟨0,by simp,by omega⟩
   ·exact ⟨1+2 * q2,by simp,by omega⟩
  obtain ⟨y,hy,hy2⟩:=e2
  simp -implicitDefEqProofs (disch:=omega) only [push_cast,simprocAttr,stA hbl,stB hbl,hy,↓gd]
  refine (pickI bs b (p+4) 24 _ (by simp) (by omega) (by omega) hbs _ (hS2b _ _)).mono ?_
  rintro r S1 ⟨⟨q9,hq9,rfl⟩,rfl⟩
  have hb9:([by8 (1+q3)]:List UInt8).length≤1000:=by simp
  by_cases e0:q9=0
  ·subst e0
   simp -implicitDefEqProofs (disch:=omega) only [push_cast,simprocAttr,stA hbl,stB hbl,↓gd]
   refine (pickI bs b (p+4+1) 10 _ (by simp) (by omega) (by omega) hbs _ (hS2b _ _)).mono ?_
   rintro r S1 ⟨⟨x,hx,rfl⟩,rfl⟩
   simp -implicitDefEqProofs (disch:=omega) only [push_cast,simprocAttr,stA hbl,stB hbl,↓gd]
   exact fin ⟨x,false,y,[by8 (1+q3)]⟩ (p+4+2) _ ⟨by simp only; omega,by simp only; omega,hb9⟩ (by omega)
  by_cases e1:q9=1
  ·subst e1
   simp -implicitDefEqProofs (disch:=omega) only [push_cast,simprocAttr,stA hbl,stB hbl,↓gd]
   refine (pickI bs b (p+4+1) 10 _ (by simp) (by omega) (by omega) hbs _ (hS2b _ _)).mono ?_
   rintro r S1 ⟨⟨x,hx,rfl⟩,rfl⟩
   simp -implicitDefEqProofs (disch:=omega) only [push_cast,simprocAttr,stA hbl,stB hbl,↓gd]
   exact fin ⟨8,false,x,[by8 (1+q3)]⟩ (p+4+2) _ ⟨by simp only; omega,by simp only; omega,hb9⟩ (by omega)
  by_cases e2:q9=2
  ·subst e2
   simp -implicitDefEqProofs (disch:=omega) only [push_cast,simprocAttr,stA hbl,stB hbl,↓gd]
   refine (pickI bs b (p+4+1) 10 _ (by simp) (by omega) (by omega) hbs _ (hS2b _ _)).mono ?_
   rintro r S1 ⟨⟨x,hx,rfl⟩,rfl⟩
   simp -implicitDefEqProofs (disch:=omega) only [push_cast,simprocAttr,stA hbl,stB hbl,↓gd]
   refine ((l6Many_ok [120] (195+x) (by simp; omega) (by omega) _).as (by simp)).mono ?_
   rintro r S1 ⟨⟨u,hu,rfl⟩,rfl⟩
   simp at hu
   simp -implicitDefEqProofs (disch:=omega) only [push_cast,simprocAttr,stA hbl,stB hbl,↓gd]
   exact fin ⟨8,false,y,u⟩ (p+4+2) _ ⟨by simp only; omega,by simp only; omega,by simp only; omega⟩ (by omega)
  have j0:¬(q9:Int)=0:=by omega
  have j1:¬(q9:Int)=1:=by omega
  have j2:¬(q9:Int)=2:=by omega
  simp -implicitDefEqProofs (disch:=omega) only [push_cast,simprocAttr,stA hbl,stB hbl,j0,j1,j2,↓gd]
  exact fin ⟨8,false,y,[by8 (1+q3)]⟩ (p+4+1) _ ⟨by simp only; omega,by simp only; omega,hb9⟩ (by omega)
end
section
open Go
theorem EnDr.new {S:List Blk} {b:Nat} {bs:List UInt8} {P:Nat} {e:En} {b1 c1:Nat} {S':List Blk} (h:EnDr S b bs P e b1 c1 S') (hb:S.length≤b):EnNew S e b1 c1 S' :=
 ⟨h.at_,h.hb,h.hc,(Upd.refl [] S).then_ h.upd (fun j hj hm=>by simp at hm; omega)⟩
theorem sFrameWrite_ok (f:Fr) (hf:FrB f) (S:List Blk):VCall Tryz.prog 39 [frV f] S fun r S'=>r=.str (if frameOk f then frW f else [])∧S'=S:=by
 refine VCall.en hD Tryz.func39 Tryz.ntmps39 Tryz.results39 ?_
 simp -implicitDefEqProofs (disch:=omega) only [push_cast,simprocAttr,↓gd]
 refine ((sFrameOk_ok f _).as rfl).to ?_
 cases hE:frameOk f
 ·simp -implicitDefEqProofs (disch:=omega) only [push_cast,simprocAttr,↓gd]
  exact fin1 (.str _) rfl
 ·simp -implicitDefEqProofs (disch:=omega) only [push_cast,simprocAttr,↓gd]
  refine ((l12Write_ok f hf.1 hf.2.1 (by have:=hf.2.2; omega) _).as rfl).to ?_
  simp -implicitDefEqProofs (disch:=omega) only [push_cast,simprocAttr,↓gd]
  exact fin1 (.str _) rfl
theorem DrawEndHear_ok (code:List UInt8) (hc:code.length≤1073741824) (S:List Blk) :
  VCall Tryz.prog 11 [.rows none (code.map u8V)] S fun r S'=>∃(e:En) (bs:List UInt8) (b1 c1:Nat),(∃wire,DrawnE e wire)∧bs.length≤300∧r=.tup [eV b1 c1 e,.str bs]∧EnNew S e b1 c1 S':=by
 refine VCall.ex hD (fun _=>false) (fun id=>if id=5 then [4,2,3,4,6,6] else if id=7 then [10,12,12,12,12,12,7,8,10,12,12,12] else if id=8 then [9,11,11,11,5,9,11,11,11,11,11] else []) Tryz.func11 Tryz.ntmps11 Tryz.results11 ?_
 simp -implicitDefEqProofs (disch:=omega) only [push_cast,simprocAttr,↓gd]
 refine (l6Open_ok code hc _).to ?_
 simp -implicitDefEqProofs (disch:=omega) only [push_cast,simprocAttr,↓gd]
 generalize hbs:code.take 2000=bs
 have hbl:bs.length≤2000:=by rw [←hbs,List.length_take]; omega
 refine (l72End_ok bs (S.length+1) 0 (by omega) hbl _ (by simp -implicitDefEqProofs (disch:=omega) only [push_cast,simprocAttr,↓gd])).mono ?_
 rintro r S1 ⟨e,wire,P,b1,c1,he,rfl,hP,hdr⟩
 have k0:S1[S.length]?=some (.cells 0 zE):=hdr.upd.get (by simp -implicitDefEqProofs (disch:=omega) only [push_cast,simprocAttr,↓gd]) (by simp)
 have hdr:EnDr S (S.length+1) bs P e b1 c1 S1:=hdr.mk'
 have kr:=hdr.rd
 have lr:=lt_of_some kr
 have v0:=hdr.at_.var k0
 obtain ⟨hB,hwl⟩:=he.b
 have hS2b:∀B X,(S1.set (S.length+1) B++X)[S.length+1]?=some B:=fun B X=>stC lr _ _
 have fin:∀(Q:Nat) (o:List UInt8) (X:List Blk),o.length≤300→∃r S2,Wk S (.tup [eV b1 c1 e,.str o]) ((S1.set (S.length+1) (Rd bs Q)).set S.length (.cells 0 (enC (.heap b1 e.strs.length) (.heap c1 e.wait.length) e))++X) r S2 ∧
   ∃(e:En) (bs:List UInt8) (b1 c1:Nat),(∃wire,DrawnE e wire)∧bs.length≤300∧r=.tup [eV b1 c1 e,.str bs]∧EnNew S e b1 c1 S2:=by
  intro Q o X ho
  exact ⟨_,_,Wk.refl _ _ _,e,o,b1,c1,⟨wire,he⟩,ho,rfl,(((hdr.draw Q).set (j:=S.length) _ (Nat.le_refl _) v0 (by omega)).app X).new (by omega)⟩
 simp -implicitDefEqProofs (disch:=omega) only [push_cast,simprocAttr,k0,↓gd]
 refine (pickI bs (S.length+1) P 8 _ (by simp) (by omega) (by omega) hbl _ (by rw [List.getElem?_append_left lr]; exact kr)).mono ?_
 rintro r S2 ⟨⟨q,hq,rfl⟩,rfl⟩
 by_cases q0:q=0
 ·subst q0
  simp -implicitDefEqProofs (disch:=omega) only [push_cast,simprocAttr,stA lr,stB lr,↓gd]
  refine (l71Frame_ok bs (S.length+1) (P+1) (by omega) hbl _ (hS2b _ _)).mono ?_
  rintro r S2 ⟨⟨f,hf,rfl⟩,P2,hP2,rfl⟩
  simp -implicitDefEqProofs (disch:=omega) only [push_cast,simprocAttr,stA lr,stB lr,↓gd]
  refine ((sFrameWrite_ok f hf _).as rfl).to ?_
  simp -implicitDefEqProofs (disch:=omega) only [push_cast,simprocAttr,stA lr,stB lr,k0,↓gd]
  refine fin P2 _ _ ?_
  split
  ·rename_i hfo; rw [frW_len]; have:=(frameOk_nat hfo).2.2; omega
  ·simp
 by_cases q1:q=1
 ·subst q1
  have emin:(if (40:Int) < (wire.length:Int) then (40:Int) else (wire.length:Int))=((min wire.length 40:Nat):Int):=by omega
  simp -implicitDefEqProofs (disch:=omega) only [push_cast,simprocAttr,stA lr,stB lr,emin,↓gd]
  refine ⟨by omega,by omega,?_⟩
  refine (pickI bs (S.length+1) (P+1) 256 _ (by simp) (by omega) (by omega) hbl _ (hS2b _ _)).mono ?_
  rintro r S2 ⟨⟨x,hx,rfl⟩,rfl⟩
  simp -implicitDefEqProofs (disch:=omega) only [push_cast,simprocAttr,stA lr,stB lr,k0,↓gd]
  refine (l1Byte_ok x _).to ?_
  simp -implicitDefEqProofs (disch:=omega) only [push_cast,simprocAttr,stA lr,stB lr,k0,↓gd]
  refine ⟨by simp; omega,?_⟩
  refine fin (P+2) _ _ ?_
  simp
  omega
 have j0:¬(q:Int)=0:=by omega
 have j1:¬(q:Int)=1:=by omega
 simp -implicitDefEqProofs (disch:=omega) only [push_cast,simprocAttr,stA lr,stB lr,j0,j1,↓gd]
 refine (pickI bs (S.length+1) (P+1) 90 _ (by simp) (by omega) (by omega) hbl _ (hS2b _ _)).mono ?_
 rintro r S2 ⟨⟨x,hx,rfl⟩,rfl⟩
 have emin:(if ((1:Int)+x) < (wire.length:Int) then ((1:Int)+x) else (wire.length:Int))=((min wire.length (1+x):Nat):Int):=by omega
 simp -implicitDefEqProofs (disch:=omega) only [push_cast,simprocAttr,stA lr,stB lr,k0,emin,↓gd]
 repeat refine And.intro (by omega) ?_
 refine fin (P+2) _ _ ?_
 simp
 omega
end
section
open Go
theorem lkFields_self (a:List Fd) (ha:a.length≤2000000) (S:List Blk):VCall Tryz.prog 67 [.rows none (a.map fV),.rows none (a.map fV)] S fun r S'=>r=.bool true∧S'=S:=by
 have h:=lkFields_ok a a ha ha S
 rw [decide_eq_true rfl] at h
 exact h
end
section
open Go
theorem lkStream_self (s:St) (hb:StB s) (S:List Blk):VCall Tryz.prog 29 [stV s,stV s] S fun r S'=>r=.bool true∧S'=S:=by
 have h1:=hb.head.1
 have h2:=hb.got.1
 refine VCall.en hD Tryz.func29 Tryz.ntmps29 Tryz.results29 ?_
 simp -implicitDefEqProofs (disch:=omega) only [push_cast,simprocAttr,decide_true,Bool.and_self,↓gd]
 refine ((lkFields_self s.head h1 _).as rfl).to ?_
 simp -implicitDefEqProofs (disch:=omega) only [push_cast,simprocAttr,↓gd]
 refine ((lkFields_self s.got h2 _).as rfl).to ?_
 simp -implicitDefEqProofs (disch:=omega) only [push_cast,simprocAttr,↓gd]
 exact fin1 (.bool _) rfl
theorem lkFrames_self (l:List Fr) (hl:l.length≤1000000) {S:List Blk} {b c:Nat} (hb:S[b]?=some (.cells 4 (frmsC l))) (hc:S[c]?=some (.cells 4 (frmsC l))):VCall Tryz.prog 31 [.heap b l.length,.heap c l.length] S fun r S'=>r=.bool true∧S'=S:=by
 have hlw:=frmsC_len l
 refine VCall.ex hDe (fun _=>false) (fun id=>if id=6 then [9,9,9,9,9,9,9,9,9] else []) Tryz.func31 Tryz.ntmps31 Tryz.results31 ?_
 simp -implicitDefEqProofs (disch:=omega) only [push_cast,simprocAttr,↓gd]
 refine wpV_loop (fun m t S'=>∃i:Nat,m=l.length - i∧i≤l.length∧t 0=.heap b l.length∧t 1=.heap c l.length∧t 5=.int .i64 i∧S'=S) l.length ⟨0,by omega,by omega,rfl,rfl,rfl,rfl⟩ ?_
 rintro m t S' ⟨i,rfl,hi,h0,h1,h5,rfl⟩
 refine wpV_of hDe (fun _=>false) (fun id=>if id=6 then [9,9,9,9,9,9,9,9,9] else []) (by kernel_rfl) ?_
 simp -implicitDefEqProofs (disch:=omega) only [push_cast,simprocAttr,h0,h1,h5,↓gd]
 refine ⟨fun h=>?_,fun h=>?_⟩
 ·have hil:i < l.length:=by omega
  have hat:=frmsC_at hil
  simp -implicitDefEqProofs (disch:=omega) only [push_cast,simprocAttr,h0,h1,h5,hb,hc,hat,decide_true,Bool.and_self,↓gd]
  exact ⟨by omega,by omega,by omega,by omega,by omega,by omega,l.length - (i+1),by omega,i+1,rfl,by omega,by simp⟩
 ·exact fin0 rfl
theorem lkEnd_self {e:En} (he:EnB e) {S:List Blk} {b c d f:Nat} (h1:EnAt S b c e) (h2:EnAt S d f e):VCall Tryz.prog 8 [eV b c e,eV d f e] S fun r S'=>r=.bool true∧S'=S:=by
 have hel:=he.len
 have hwl:=he.wait
 have lb:=lt_of_some h1.1
 have lc:=lt_of_some h1.2
 have ld:=lt_of_some h2.1
 have lf:=lt_of_some h2.2
 have hb:=h1.1
 have hd:=h2.1
 have hlen:=strsC_len e.strs
 have ho:=he.out.1
 have hi:=he.inn.1
 refine VCall.ex hDe (fun _=>false) (fun id=>if id=6 then [10,10,10,10,10,10,10,10,10,10,12,12] else []) Tryz.func8 Tryz.ntmps8 Tryz.results8 ?_
 simp -implicitDefEqProofs (disch:=omega) only [push_cast,simprocAttr,decide_true,Bool.and_self,↓gd]
 refine wpV_loop (fun m t S'=>∃i:Nat,m=e.strs.length - i∧i≤e.strs.length∧t 2=.ptr S.length 0∧t 3=.ptr (S.length+1) 0∧t 5=.int .i64 i∧S'=S++[.cells 0 (enC (.heap b e.strs.length) (.heap c e.wait.length) e),.cells 0 (enC (.heap d e.strs.length) (.heap f e.wait.length) e)]) e.strs.length ⟨0,by omega,by omega,rfl,rfl,rfl,rfl⟩ ?_
 rintro m t S' ⟨i,rfl,hi',h2',h3,h5,rfl⟩
 refine wpV_of hDe (fun _=>false) (fun id=>if id=6 then [10,10,10,10,10,10,10,10,10,10,12,12] else []) (by kernel_rfl) ?_
 by_cases hil:i < e.strs.length
 ·have hil':(i:Int) < e.strs.length:=by omega
  have hat:=strsC_at hil
  simp -implicitDefEqProofs (disch:=omega) only [push_cast,simprocAttr,h2',h3,h5,hil',hb,hd,hat,↓gd]
  repeat refine And.intro (by omega) ?_
  refine ((lkStream_self (e.strs.getD i st0) (he.sts _ (getD_memS hil)) _).as (by simp [stV,strC])).to ?_
  simp -implicitDefEqProofs (disch:=omega) only [push_cast,simprocAttr,h2',h3,h5,↓gd]
  exact ⟨e.strs.length - (i+1),by omega,i+1,rfl,by omega,by simp⟩
 ·have:i=e.strs.length:=by omega
  subst this
  have hil':¬((e.strs.length:Nat):Int) < e.strs.length:=by omega
  simp -implicitDefEqProofs (disch:=omega) only [push_cast,simprocAttr,h2',h3,h5,hil',↓gd]
  refine ((lkTable_self e.out e.outM ho _).as rfl).to ?_
  simp -implicitDefEqProofs (disch:=omega) only [push_cast,simprocAttr,h2',h3,h5,↓gd]
  refine ((lkTable_self e.inn e.innM hi _).as rfl).to ?_
  simp -implicitDefEqProofs (disch:=omega) only [push_cast,simprocAttr,h2',h3,h5,↓gd]
  refine ((lkFrames_self e.wait hwl (b:=c) (c:=f) (S:=_) ?_ ?_).as rfl).to ?_
  ·rw [List.getElem?_append_left lc]; exact h1.2
  ·rw [List.getElem?_append_left lf]; exact h2.2
  simp -implicitDefEqProofs (disch:=omega) only [push_cast,simprocAttr,↓gd]
  exact fin1 (.bool _) rfl
end
section
open Go
structure Said (e x:En) (o:List UInt8) (fs:List Fr):Prop where
 bytes:o=bytes fs
 ok:∀f ∈ fs,frameOk f=true
 len:x.strs.length=e.strs.length
 xok:endOk x=true
 again:endWriteM x=(x,[])
 bad:e.bad=true→fs=[]∧x=e
 good:e.bad=false→WrS e x (newF e)∧fs=e.wait++newF e∧x=(writeM e).1
 short:o.length≤1000000
theorem writeM_badE (e:En):(writeM e).1.bad=e.bad:=(writeM_cb e).2
theorem said {e x:En} {o:List UInt8} (hE:endOk e=true) (hl:HL e) (hx:endWriteM e=(x,o)):∃fs,Said e x o fs:=by
 have hW:=endOk_iff.1 hE
 cases hb:e.bad with
 | true =>
  have h1:endWriteM e=(e,[]):=by rw [endWriteM,if_neg (by rw [hE]; simp),if_pos hb]
  rw [h1] at hx
  cases hx
  exact ⟨[],rfl,by simp,rfl,hE,h1,fun _=>⟨rfl,rfl⟩,fun z=>(by rw [hb] at z; cases z),by simp⟩
 | false =>
  have h1:endWriteM e=writeM e:=by rw [endWriteM,if_neg (by rw [hE]; simp),if_neg (by rw [hb]; simp)]
  rw [h1] at hx
  have hs:=writeM_s hW (fun i hi=>hl.at_ hi)
  have hxw:=(writeM_w hW).mono (show 0≤60 by decide)
  have hag:=write_again hW
  have hxb:(writeM e).1.bad=false:=by rw [writeM_badE,hb]
  have hsh:(writeM e).2.length≤1000000:=by
   have:=writeM_len hW
   omega
  rw [hx] at hs hxw hag hxb hsh
  simp only at hs hxw hag hxb hsh
  have hxok:=endOk_iff.2 hxw
  refine ⟨e.wait++newF e,?_,fun f hf=>?_,hs.len,hxok,?_,fun z=>(by rw [hb] at z; cases z),fun _=>⟨hs,rfl,by rw [hx]⟩,hsh⟩
  ·have:=hs.bytes
   rwa [hx] at this
  ·rcases List.mem_append.1 hf with z | z
   ·exact hW.wait f z
   ·exact (hs.ok f z).1
  ·rw [endWriteM,if_neg (by rw [hxok]; simp),if_neg (by rw [hxb]; simp)]
   exact hag
end
section
open Go
theorem frW_lenP (f:Fr):(frW f).length=4+f.body.length:=by simp [frW]; omega
theorem Pl.b {w:Wo} (h:Pl w):WoB w:=h.all.1.b (by decide)
end
section
theorem frR_first {f:Fr} {l:List Fr} (hok:∀g ∈ f :: l,frameOk g=true):frR (bytes (f :: l))=(f,4+f.body.length,1)∧(bytes (f :: l)).drop (4+f.body.length)=bytes l:=by
 have hb:bytes (f :: l)++[]=bytes (f :: l):=List.append_nil _
 rcases frR_bytes hb hok with ⟨_,_,z⟩ | ⟨g,gs,e,q,hd⟩
 ·have h1:=z f l rfl
  have:(bytes (f :: l)).length=4+f.body.length+(bytes l).length:=by rw [bytes_cons,List.length_append,frW_lenP]
  omega
 ·cases e
  rw [List.append_nil] at hd
  exact ⟨q,hd⟩
end
section
theorem saysM_last:∀(n k:Nat) (e:En),(∀j,k≤j→j < k+n→Mute e (stAt e j))→saysM (n+1) k e=sayM e (k+n)
 | 0,k,e,_=>by
  show ((sayM e k).1,(sayM e k).2++[])=sayM e k
  rw [List.append_nil]
 | n+1,k,e,h=>by
  have h0:=sayM_mute (h k (Nat.le_refl _) (by omega))
  show (let (e1,o1):=sayM e k; let (e2,o2):=saysM (n+1) (k+1) e1; (e2,o1++o2))=_
  rw [h0]
  simp only [List.nil_append]
  rw [saysM_last n (k+1) e (fun j h1 h2=>h j (by omega) (by omega))]
  rw [show k+1+n=k+(n+1) by omega]
def wordsN (e:En) (text:List UInt8):Nat:=min text.length (min 8 e.send.toNat)
theorem say_new {N:Nat} {e:En} (hW:EnW N e) {path text:List UInt8} {i:Int} (hk:atM e.strs i=none) :
  ∃h,sayM { e with strs:=e.strs++[newCall i path text] } e.strs.length =
   ({ e with out:=(headW e.out e.outM (callHead path text)).1,send:=e.send - (wordsN e text:Nat),strs:=e.strs++[h] },
    frW ⟨1,decide (text=[]),i,(headW e.out e.outM (callHead path text)).2⟩++(if wordsN e text=0 then [] else frW ⟨0,decide (wordsN e text=text.length),i,text.take (wordsN e text)⟩)) ∧
   h.id=i∧h.begun=true∧h.sent=(wordsN e text:Nat)∧h.say=text∧h.head=callHead path text∧h.state=(if e.ans && decide (wordsN e text=text.length) then 2 else 1)∧h.got=[]∧h.text=[]:=by
 have hse:=(flowOk_iff.1 hW.flow).1
 have hst:stAt { e with strs:=e.strs++[newCall i path text] } e.strs.length=newCall i path text:=by
  show (e.strs++[newCall i path text]).getD e.strs.length st0=_
  rw [getD_app,if_neg (Nat.lt_irrefl _),if_pos rfl]
 have hset:∀s,(e.strs++[newCall i path text]).set e.strs.length s=e.strs++[s]:=fun s=>by
  rw [List.set_append_right _ _ (Nat.le_refl _),Nat.sub_self]; rfl
 have hne:(newCall i path text).head≠[]:=by simp [newCall,callHead]
 unfold sayM
 simp only
 rw [hst,if_neg (by rintro (z | z | z); exact z rfl; exact hne z; cases z)]
 have hb:beginM { e with strs:=e.strs++[newCall i path text] } (newCall i path text)=({ e with strs:=e.strs++[newCall i path text],out:=(headW e.out e.outM (callHead path text)).1 },{ newCall i path text with begun:=true,said:=decide (text=[]) },frW ⟨1,decide (text=[]),i,(headW e.out e.outM (callHead path text)).2⟩):=by
  unfold beginM; rw [if_neg (by simp [newCall,newSt])]; rfl
 rw [hb]
 simp only
 have hmay:mayM { e with strs:=e.strs++[newCall i path text],out:=(headW e.out e.outM (callHead path text)).1 } { newCall i path text with begun:=true,said:=decide (text=[]) }=((wordsN e text:Nat):Int):=by
  unfold mayM wordsN
  show min ((text.length:Int) - 0) (min 8 e.send)=_
  omega
 unfold pieceM
 rw [hmay]
 by_cases h0:wordsN e text=0
 ·rw [if_neg (by rw [h0]; simp)]
  refine ⟨{ newCall i path text with begun:=true,said:=decide (text=[]),state:=if e.ans && decide (text=[]) then 2 else 1 },?_,rfl,rfl,by rw [h0]; rfl,rfl,rfl,?_,rfl,rfl⟩
  ·simp only [setSt,hset,h0]
   simp [newCall,newSt]
  ·have:(text=[])=(wordsN e text=text.length):=by
    rw [h0]
    cases text with
    | nil=>simp
    | cons y ys=>simp
   simp only [this]
 ·have hne':text≠[]:=fun z=>h0 (by unfold wordsN; rw [z]; simp)
  have hpos:(0:Int) < (wordsN e text:Nat):=by omega
  rw [if_pos ⟨by simp [hne'],hpos⟩]
  have hle:wordsN e text≤text.length:=by unfold wordsN; omega
  have hq:(((wordsN e text:Nat):Int)=(text.length:Int))=(wordsN e text=text.length):=propext ⟨fun z=>by omega,fun z=>by omega⟩
  refine ⟨{ newCall i path text with begun:=true,send:=8 - (wordsN e text:Nat),said:=decide (wordsN e text=text.length),sent:=(wordsN e text:Nat),state:=if e.ans && decide (wordsN e text=text.length) then 2 else 1 },?_,rfl,rfl,rfl,rfl,rfl,rfl,rfl,rfl⟩
  simp only [setSt,hset,h0,if_false]
  refine Prod.ext ?_ ?_
  ·simp [newCall,newSt,hq]
  ·simp [newCall,newSt,hq]
theorem call_said {N:Nat} {e:En} (hW:EnW N e) (ha:e.ans=false) (hb:e.bad=false) (path text:List UInt8) (hok:(callM e path text).2.2=true) :
  let e':=(writeM e).1
  (callM e' path text).2.2=true∧(callM e' path text).2.1=(callM e path text).2.1 ∧
  ∃y,writeM (callM e' path text).1=(y,frW ⟨1,decide (text=[]),(callM e path text).2.1,(headW e'.out e'.outM (callHead path text)).2⟩++(if wordsN e' text=0 then [] else frW ⟨0,decide (wordsN e' text=text.length),(callM e path text).2.1,text.take (wordsN e' text)⟩))∧y.send=e'.send - (wordsN e' text:Nat):=by
 intro e'
 have hlen:e'.strs.length=e.strs.length:=by
  obtain ⟨r1,r2,_⟩:=waitM_w e.wait e hW
  obtain ⟨g1,g2,g3⟩:=saysM_mute e.strs.length 0 { (waitM e e.wait).1 with wait:=[] } r1.noWait (by simp [r2]) (fun j hj=>by omega)
  exact g3.trans (by simpa using r2)
 have hmute:∀j,j < e'.strs.length→Mute e' (stAt e' j):=by
  obtain ⟨r1,r2,_⟩:=waitM_w e.wait e hW
  obtain ⟨g1,g2,g3⟩:=saysM_mute e.strs.length 0 { (waitM e e.wait).1 with wait:=[] } r1.noWait (by simp [r2]) (fun j hj=>by omega)
  intro j hj
  exact g1 j (by rw [hlen] at hj; simpa [r2] using hj)
 have hwait:e'.wait=[]:=by
  obtain ⟨r1,r2,_⟩:=waitM_w e.wait e hW
  obtain ⟨g1,g2,g3⟩:=saysM_mute e.strs.length 0 { (waitM e e.wait).1 with wait:=[] } r1.noWait (by simp [r2]) (fun j hj=>by omega)
  exact g2
 have hans:e'.ans=false:=(writeM_ans e).trans ha
 have hW':=writeM_w hW
 have hcond:¬(e.ans=true∨2 * (e.strs.length:Int)+1 > 7∨headOk (callHead path text)=false∨wordOk text=false):=fun z=>by
  unfold callM at hok; rw [if_pos z] at hok; cases hok
 have hcond':¬(e'.ans=true∨2 * (e'.strs.length:Int)+1 > 7∨headOk (callHead path text)=false∨wordOk text=false):=by
  rw [hans,hlen]; rw [ha] at hcond; exact hcond
 have hc1:callM e path text=({ e with strs:=e.strs++[newCall (2 * e.strs.length+1) path text] },2 * (e.strs.length:Int)+1,true):=by unfold callM; rw [if_neg hcond]; rfl
 have hc2:callM e' path text=({ e' with strs:=e'.strs++[newCall (2 * e'.strs.length+1) path text] },2 * (e'.strs.length:Int)+1,true):=by unfold callM; rw [if_neg hcond']; rfl
 rw [hc1,hc2,←hlen]
 refine ⟨rfl,rfl,?_⟩
 have hno:atM e'.strs (2 * (e'.strs.length:Int)+1)=none:=by
  cases q:atM e'.strs (2 * (e'.strs.length:Int)+1) with
  | none=>rfl
  | some k =>
   obtain ⟨k1,k2⟩:=atM_some q
   have:=(stsOk_iff.1 hW'.sts k k1).2.2
   have hans':(writeM e).1.ans=false:=hans
   rw [hans'] at this
   rcases this with z | z
   ·cases z
   ·have k2:((writeM e).1.strs.getD k st0).id=_:=k2
    omega
 obtain ⟨h,hs,_⟩:=say_new hW' (path:=path) (text:=text) hno
 have hw:writeM { e' with strs:=e'.strs++[newCall (2 * e'.strs.length+1) path text] }=sayM { e' with strs:=e'.strs++[newCall (2 * e'.strs.length+1) path text] } e'.strs.length:=by
  have h1:({ e' with strs:=e'.strs++[newCall (2 * e'.strs.length+1) path text] }:En).wait=[]:=hwait
  have h2:({ e' with strs:=e'.strs++[newCall (2 * e'.strs.length+1) path text] }:En).strs.length=e'.strs.length+1:=by simp
  unfold writeM
  rw [h1,h2]
  have h3:({ e' with strs:=e'.strs++[newCall (2 * e'.strs.length+1) path text],wait:=[] }:En)={ e' with strs:=e'.strs++[newCall (2 * e'.strs.length+1) path text] }:=by
   have:e'.wait=[]:=hwait
   rw [←this]
  show (let (e2,o2):=saysM (e'.strs.length+1) 0 { e' with strs:=e'.strs++[newCall (2 * e'.strs.length+1) path text],wait:=[] }; (e2,[]++o2))=_
  rw [h3,saysM_last e'.strs.length 0 _ (fun j _ hj=>?_)]
  ·simp
  ·have hj:j < e'.strs.length:=by omega
   have:stAt { e' with strs:=e'.strs++[newCall (2 * e'.strs.length+1) path text] } j=stAt e' j:=by
    show (e'.strs++[_]).getD j st0=_
    rw [getD_app,if_pos hj]; rfl
   rw [this]
   exact mute_mono (hmute j hj) (Int.le_refl _)
 simp only
 rw [hw]
 exact ⟨_,hs,rfl⟩
end
section
open Go
theorem en0_b:EnB en0:=⟨by simp [en0],by simp [en0],by simp [en0],⟨by simp [en0],by simp [en0]⟩,⟨by simp [en0],by simp [en0]⟩,by simp [en0]⟩
theorem endHearM_b (e:En) (bs:List UInt8):EnB (endHearM e bs):=by
 rw [endHearM]
 split
 ·exact en0_b
 ·rename_i h
  have hE:endOk e=true:=by cases hq:endOk e <;> simp_all
  exact (hearWM_w ((endOk_w hE).mono (show 60≤642 by decide)) (by decide) bs).1.b (by decide)
theorem newEn_b (a:Bool):EnB (newEn a):=⟨by simp [newEn],by simp [newEn],by simp [newEn],⟨by simp [newEn],by simp [newEn]⟩,⟨by simp [newEn],by simp [newEn]⟩,by simp [newEn]⟩
end
end Go.Proofs.YtdplmibomopkcaaGreatDoor
