/- A part of the proof: contracts of functions, or plain facts on which these lean. -/
import Derived.Test.YtldogccmhncnoaaGreatDoorMh7
namespace Go.Proofs.YtldogccmhncnoaaGreatDoor
open Go
set_option linter.unusedVariables false
set_option linter.unusedSimpArgs false
set_option maxRecDepth 100000
set_option maxHeartbeats 16000000

section
open Go
section
variable {P:Program} {D:Nat→TD} {pf:Option FuncId→Bool}
theorem histOk_mem {b:Nat} {S:List Blk}:∀{hist:List (List Blk)},histOk b S hist→∀S0 ∈ hist,S0[b]?=S[b]?
 | S1 :: r,h,S0,hm=>by
  rcases List.mem_cons.1 hm with rfl | hm
  ·exact h.1
  ·exact histOk_mem h.2 S0 hm
theorem pendOk_mem {j:Nat} {S S':List Blk}:∀{pend:List (Nat × Nat)},pendOk j S S' pend→∀x ∈ pend,j < x.2→S'[x.1]?=S[x.1]?
 | (b,J) :: r,h,x,hm,hj=>by
  rcases List.mem_cons.1 hm with rfl | hm
  ·have:=h.1; rwa [if_pos hj] at this
  ·exact pendOk_mem h.2 x hm hj
def DrawRes (P:Program) (pf:Option FuncId→Bool) (full os:List Oper) (i:Nat) (js:List Nat) (t:Nat→V) (S:List Blk) (hist:List (List Blk)) (pend:List (Nat × Nat)) (k:(Nat→V)→List Blk→Prop):Prop :=
 ∃(t':Nat→V) (S':List Blk) (val:Nat→V) (st:Nat→List Blk) (T:Nat→Nat→V),k t' S'∧T i=t∧st i=S∧T (i+os.length)=t'∧st (i+os.length)=S' ∧
   (∀j,i≤j→j < i+os.length→∃o,full[j]?=some o∧T (j+1)=putT (T j) o.dst (val j) ∧
    ((WantedV full o (T j) true ∧
      ((FreeOk P o (evalT (T j)) (val j)∧st (j+1)=st j∧isFixed pf o.op=false) ∨
       (∃b:Nat,isFixed pf o.op=false∧st (j+1)=st j∧(∀S2,S2[b]?=(st j)[b]?→RunOk P o (evalT (T j)) S2 (val j) S2)∧((st j)[b]?).isSome=true∧(∀S0 ∈ hist,S0[b]?=(st j)[b]?)∧(∀m,i≤m→m≤j→(st m)[b]?=(st j)[b]?) ∧
        ∀m,j < m→m < js.getD (j - i) 0→m < i+os.length→(st (m+1))[b]?=(st m)[b]?) ∨
       (isFixed pf o.op=true∧OpStep P o (evalT (T j)) (st j) (val j) (st (j+1))∧Xtra P o (evalT (T j)) (js.getD (j - i) 0) (st j) (val j) (st (j+1))))) ∨
     (WantedV full o (T j) false∧val j=.tup []∧st (j+1)=st j))) ∧
   (∀x ∈ pend,∀m,i≤m→m < x.2→m < i+os.length→(st (m+1))[x.1]?=(st m)[x.1]?)
theorem draw_data (hD:TypesOk P D) (full:List Oper):∀(os:List Oper) (i:Nat) (js:List Nat),(∀j,os[j]?=full[i+j]?)→∀(t:Nat→V) (S:List Blk) (hist:List (List Blk)) (pend:List (Nat × Nat)) (k:(Nat→V)→List Blk→Prop),
  evDraw P D pf full os i js t S hist pend k→DrawRes P pf full os i js t S hist pend k
 | [],i,js,_,t,S,hist,pend,k,h=>⟨t,S,fun _=>.junk,fun _=>S,fun _=>t,h,rfl,rfl,rfl,rfl,fun j h1 h2=>by simp at h2; omega,fun x _ m h1 _ h2=>by simp at h2; omega⟩
 | o :: os,i,js,hfull,t,S,hist,pend,k,h=>by
  have ho:full[i]?=some o:=by have:=hfull 0; simpa using this.symm
  have hrest:∀j,os[j]?=full[i+1+j]?:=fun j=>by have:=hfull (j+1); simpa [Nat.add_assoc,Nat.add_comm 1 j] using this
  have hjs:∀m,js.tail.getD m 0=js.getD (m+1) 0:=fun m=>by cases js <;> simp [List.getD]
  have hj0:js.headD 0=js.getD 0 0:=by cases js <;> simp [List.getD]
  have cons_:∀(v:V) (S1:List Blk) (hist1:List (List Blk)) (pend1:List (Nat × Nat)),evDraw P D pf full os (i+1) js.tail (putT t o.dst v) S1 hist1 pend1 k →
    ((WantedV full o t true ∧
      ((FreeOk P o (evalT t) v∧S1=S∧isFixed pf o.op=false∧hist1=hist∧pend1=pend) ∨
       (∃b:Nat,isFixed pf o.op=false∧S1=S∧(∀S2,S2[b]?=S[b]?→RunOk P o (evalT t) S2 v S2)∧(S[b]?).isSome=true∧histOk b S hist∧hist1=hist∧pend1=(b,js.headD 0) :: pend) ∨
       (isFixed pf o.op=true∧OpStep P o (evalT t) S v S1∧pendOk i S S1 pend∧hist1=S :: hist∧pend1=pend∧Xtra P o (evalT t) (js.headD 0) S v S1))) ∨
     (WantedV full o t false∧v=.tup []∧S1=S∧hist1=hist∧pend1=pend))→DrawRes P pf full (o :: os) i js t S hist pend k:=by
   intro v S1 hist1 pend1 hev hcls
   obtain ⟨t',S',val,st,T,hk,hT0,hs0,hTn,hsn,hall,hpend⟩:=draw_data hD full os (i+1) js.tail hrest _ _ _ _ k hev
   have hlen:i+1+os.length=i+(o :: os).length:=by simp; omega
   have hne:∀j,i+1≤j→j≠i:=fun j hj=>by omega
   refine ⟨t',S',fun j=>if j=i then v else val j,fun j=>if j=i then S else st j,fun j=>if j=i then t else T j,hk,by simp,by simp,?_,?_,?_,?_⟩
   ·rw [←hlen]; simp only; rw [if_neg (by omega)]; exact hTn
   ·rw [←hlen]; simp only; rw [if_neg (by omega)]; exact hsn
   ·intro j hj hjn
    by_cases e:j=i
    ·subst e
     refine ⟨o,ho,by simp [hT0],?_⟩
     have e1:(fun m=>if m=j then S else st m) (j+1)=S1:=by simp [hs0]
     rcases hcls with ⟨hw,hc⟩ | ⟨hw,hv,hS,_,_⟩
     ·refine .inl ⟨by simpa using hw,?_⟩
      rcases hc with ⟨h1,h2,h3,_,_⟩ | ⟨b,h1,h2,h3,hsm,h4,h5,h6⟩ | ⟨h1,h2,_,_,_,h3⟩
      ·exact .inl ⟨by simpa using h1,by simp [hs0,h2],h3⟩
      ·refine .inr (.inl ⟨b,h1,by simp [hs0,h2],by simpa using h3,by simpa using hsm,fun S0 hS0=>by simpa using histOk_mem h4 S0 hS0,fun m h7 h8=>by rw [show m=j by omega],fun m h7 h8 h9=>?_⟩)
       have hp:=hpend (b,js.headD 0) (by rw [h6]; exact List.mem_cons_self) m (by omega) (by rw [hj0]; simpa using h8) (by rw [hlen]; exact h9)
       simp only
       rw [if_neg (by omega),if_neg (by omega)]
       exact hp
      ·exact .inr (.inr ⟨h1,by simpa [hs0] using h2,by rw [hj0] at h3; simpa [hs0] using h3⟩)
     ·exact .inr ⟨by simpa using hw,by simpa using hv,by simp [hs0,hS]⟩
    ·obtain ⟨o',ho',hTj,hcl⟩:=hall j (by omega) (by rw [hlen]; exact hjn)
     refine ⟨o',ho',?_,?_⟩
     ·simp only [e,if_false,show ¬(j+1=i) by omega]; exact hTj
     ·simp only [e,if_false,show ¬(j+1=i) by omega]
      rcases hcl with ⟨hw,hc⟩ | hn
      ·refine .inl ⟨hw,?_⟩
       rcases hc with h1 | ⟨b,h1,h2,h3,hsm,h4,h5,h6⟩ | ⟨h1,h2,h3⟩
       ·exact .inl h1
       ·refine .inr (.inl ⟨b,h1,h2,h3,hsm,?_,?_,?_⟩)
        ·intro S0 hS0
         refine h4 S0 ?_
         rcases hcls with ⟨_,hc⟩ | ⟨_,_,_,h7,_⟩
         ·rcases hc with ⟨_,_,_,h7,_⟩ | ⟨_,_,_,_,_,_,h7,_⟩ | ⟨_,_,_,h7,_⟩
          ·rw [h7]; exact hS0
          ·rw [h7]; exact hS0
          ·rw [h7]; exact List.mem_cons_of_mem _ hS0
         ·rw [h7]; exact hS0
        ·intro m hm hmj
         by_cases em:m=i
         ·rw [if_pos em]
          rcases hcls with ⟨_,hc⟩ | ⟨_,_,h7,_,_⟩
          ·rcases hc with ⟨_,h7,_⟩ | ⟨_,_,h7,_⟩ | ⟨_,_,_,h7,_⟩
           ·rw [←h7,←hs0]; exact h5 (i+1) (Nat.le_refl _) (by omega)
           ·rw [←h7,←hs0]; exact h5 (i+1) (Nat.le_refl _) (by omega)
           ·exact h4 S (by rw [h7]; exact List.mem_cons_self)
          ·rw [←h7,←hs0]; exact h5 (i+1) (Nat.le_refl _) (by omega)
         ·rw [if_neg em]; exact h5 m (by omega) hmj
        ·intro m hm hmJ hmn
         rw [if_neg (by omega),if_neg (by omega)]
         refine h6 m hm ?_ (by rw [hlen]; exact hmn)
         rw [hjs,show j - (i+1)+1=j - i by omega]
         exact hmJ
       ·exact .inr (.inr ⟨h1,h2,by rw [hjs,show j - (i+1)+1=j - i by omega] at h3; exact h3⟩)
      ·exact .inr hn
   ·intro x hx m hm hmJ hmn
    by_cases em:m=i
    ·subst em
     simp only [if_true]
     rw [if_neg (by omega),hs0]
     rcases hcls with ⟨_,hc⟩ | ⟨_,_,h7,_,_⟩
     ·rcases hc with ⟨_,h7,_⟩ | ⟨_,_,h7,_⟩ | ⟨_,_,h7,_,_⟩
      ·rw [h7]
      ·rw [h7]
      ·exact pendOk_mem h7 x hx hmJ
     ·rw [h7]
    ·simp only
     rw [if_neg (by omega),if_neg em]
     refine hpend x ?_ m (by omega) hmJ (by rw [hlen]; exact hmn)
     rcases hcls with ⟨_,hc⟩ | ⟨_,_,_,_,h7⟩
     ·rcases hc with ⟨_,_,_,_,h7⟩ | ⟨_,_,_,_,_,_,_,h7⟩ | ⟨_,_,_,_,h7,_⟩
      ·rw [h7]; exact hx
      ·rw [h7]; exact List.mem_cons_of_mem _ hx
      ·rw [h7]; exact hx
     ·rw [h7]; exact hx
  simp only [evDraw] at h
  split at h
  ·rename_i hg
   obtain ⟨v,S1,hist1,pend1,hk,hcls⟩:=drawOp_ok hD o h
   exact cons_ v S1 hist1 pend1 hk (.inl ⟨.inl ⟨hg,rfl⟩,hcls⟩)
  ·rename_i g want hg
   split at h
   ·rename_i d hd
    split at h
    ·rename_i b hb
     by_cases hbw:b=want
     ·have hs:=putT_self (t:=t) (d:=d) (b:=want) (by rw [hb,hbw])
      have h1:=h.1 hbw
      rw [hs] at h1
      obtain ⟨v,S1,hist1,pend1,hk,hcls⟩:=drawOp_ok hD o h1
      exact cons_ v S1 hist1 pend1 hk (.inl ⟨.inr ⟨g,want,d,hg,hd,.inl (by rw [hb,hbw]; rfl)⟩,hcls⟩)
     ·have hbn:b=!want:=by (clear cons_ h; revert hbw; cases b <;> cases want <;> simp)
      have hs:=putT_self (t:=t) (d:=d) (b:=!want) (by rw [hb,hbn])
      have h1:=h.2 hbn
      rw [hs] at h1
      exact cons_ (.tup []) S hist pend h1 (.inr ⟨.inr ⟨g,want,d,hg,hd,.inl (by rw [hb,hbn]; rfl)⟩,rfl,rfl,rfl,rfl⟩)
    ·rename_i hu
     exact cons_ (.tup []) S hist pend h (.inr ⟨.inr ⟨g,want,d,hg,hd,.inr ⟨rfl,hu⟩⟩,rfl,rfl,rfl,rfl⟩)
    ·exact h.elim
   ·exact h.elim
end
end
end Go.Proofs.YtldogccmhncnoaaGreatDoor
