/- A part of the proof: contracts of functions, or plain facts on which these lean. -/
import Derived.Test.YtldogccmhncnoaaGreatDoorMh16
import Derived.Test.YtldogccmhncnoaaGreatDoorMh17
import Derived.Test.YtldogccmhncnoaaGreatDoorMh23
import Derived.Test.YtldogccmhncnoaaGreatDoorMh28
import Derived.Test.YtldogccmhncnoaaGreatDoorMh31
namespace Go.Proofs.YtldogccmhncnoaaGreatDoor
open Go
set_option linter.unusedVariables false
set_option linter.unusedSimpArgs false
set_option maxRecDepth 100000
set_option maxHeartbeats 16000000

section
def Inc (e:En):Prop:=e.bad=true∨(frR e.came).2.2=0
theorem hearsM_stops:∀(n:Nat) (e:En),e.came.length < n→Inc (hearsM n e)
 | 0,e,h=>absurd h (Nat.not_lt_zero _)
 | n+1,e,h=>by
  unfold hearsM
  split
  ·rename_i hb; exact .inl hb
  ·simp only
   split
   ·exact .inl rfl
   ·split
    ·rename_i h0; exact .inr h0
    ·rename_i h1 h2
     obtain ⟨g1,g2,g3,g4⟩:=frR_some (b:=e.came) (by omega)
     refine hearsM_stops n _ ?_
     rw [frameM_came]
     simp only [List.length_drop]; omega
theorem hearM_inc (e:En) (b:List UInt8):Inc (hearM e b):=hearsM_stops _ _ (by simp)
theorem hearWM_inc {e:En} (h:Inc e) (b:List UInt8):Inc (hearWM e b):=by
 unfold hearWM
 split
 ·exact h
 ·exact hearM_inc e b
theorem saysM_cb:∀(n k:Nat) (e:En),(saysM n k e).1.came=e.came∧(saysM n k e).1.bad=e.bad
 | 0,k,e=>⟨rfl,rfl⟩
 | n+1,k,e=>by
  obtain ⟨b1,b2⟩:=saysM_cb n (k+1) (sayM e k).1
  have a:(sayM e k).1.came=e.came∧(sayM e k).1.bad=e.bad:=by
   unfold sayM
   simp only
   split
   ·exact ⟨rfl,rfl⟩
   ·have h1:∀x s,(beginM x s).1.came=x.came∧(beginM x s).1.bad=x.bad:=fun x s=>by unfold beginM; split <;> exact ⟨rfl,rfl⟩
    have h2:∀x s,(pieceM x s).1.came=x.came∧(pieceM x s).1.bad=x.bad:=fun x s=>by unfold pieceM; split <;> exact ⟨rfl,rfl⟩
    exact ⟨(h2 _ _).1.trans (h1 _ _).1,(h2 _ _).2.trans (h1 _ _).2⟩
  exact ⟨b1.trans a.1,b2.trans a.2⟩
theorem waitM_cb:∀(l:List Fr) (e:En),(waitM e l).1.came=e.came∧(waitM e l).1.bad=e.bad
 | [],e=>⟨rfl,rfl⟩
 | f :: l,e=>by
  obtain ⟨b1,b2⟩:=waitM_cb l (roomM e f)
  have a:(roomM e f).came=e.came∧(roomM e f).bad=e.bad:=by
   unfold roomM
   split
   ·exact ⟨rfl,rfl⟩
   ·split
    ·exact ⟨rfl,rfl⟩
    ·split <;> exact ⟨rfl,rfl⟩
  exact ⟨b1.trans a.1,b2.trans a.2⟩
theorem callM_cb (e:En) (p t:List UInt8):(callM e p t).1.came=e.came∧(callM e p t).1.bad=e.bad:=by unfold callM; split <;> exact ⟨rfl,rfl⟩
theorem leaveM_cb (e:En) (id:Int):(leaveM e id).1.came=e.came∧(leaveM e id).1.bad=e.bad:=by
 unfold leaveM
 split
 ·exact ⟨rfl,rfl⟩
 ·split <;> exact ⟨rfl,rfl⟩
theorem newEn_inc (a:Bool):Inc (newEn a):=.inr rfl
end
section
open Go
theorem three {a b c:Int} {x:Nat} (h:x < 3):∃z:Int,[V.int .i64 a,V.int .i64 b,V.int .i64 c].getD x .junk=.int .i64 z:=by
 rcases (by omega:x=0∨x=1∨x=2) with rfl | rfl | rfl <;> exact ⟨_,rfl⟩
end
section
open Go
theorem four {a b c d:Int} {x:Nat} (hx:x < 4):∃z:Int,((z=a∨z=b)∨(z=c∨z=d))∧[V.int .i64 a,V.int .i64 b,V.int .i64 c,V.int .i64 d].getD x .junk=.int .i64 z:=by
 rcases (by omega:x=0∨x=1∨x=2∨x=3) with rfl | rfl | rfl | rfl
 ·exact ⟨a,.inl (.inl rfl),rfl⟩
 ·exact ⟨b,.inl (.inr rfl),rfl⟩
 ·exact ⟨c,.inr (.inl rfl),rfl⟩
 ·exact ⟨d,.inr (.inr rfl),rfl⟩
end
section
open Go
theorem en0_b:EnB en0:=⟨by simp [en0],by simp [en0],by simp [en0],⟨by simp [en0],by simp [en0]⟩,⟨by simp [en0],by simp [en0]⟩,by simp [en0]⟩
theorem endHearM_b (e:En) (bs:List UInt8):EnB (endHearM e bs):=by
 rw [endHearM]
 split
 ·exact en0_b
 ·rename_i h
  have hE:endOk e=true:=by cases hq:endOk e <;> simp_all
  exact (hearWM_w ((endOk_w hE).mono (show 60≤642 by decide)) (by decide) bs).1.b (by decide)
end
section
open Go
theorem eqEnd_X {e:En} (hB:EnB e) {S:List Blk} {vo vi uo ui:V} {b c b' c':Nat} {ls ks:List XS} (h:EnX S vo vi b c ls e) (g:EnX S uo ui b' c' ks e):VCall Tryz.prog 11 [xV vo vi b c e,xV uo ui b' c' e] S fun r S'=>r=.bool true∧S'=S :=
 VCall.borrow2 ⟨_,Tryz.func11,rfl,rfl⟩ (fun S=>eqEnd_self e hB S) (.bool _) (borM_of (.cons h.borE (.cons g.borE .nil)))
theorem heldEnd_X {e:En} (hB:EnB e) (k:Nat) (hk:k+cntE e≤90000000) {S:List Blk} {vo vi:V} {b c:Nat} {ls:List XS} (h:EnX S vo vi b c ls (markE e k)):VCall Tryz.prog 13 [xV vo vi b c (markE e k),.int .i64 k] S fun r S'=>r=.int .i64 ((k+cntE e:Nat):Int)∧S'=S :=
 VCall.borrow2 ⟨_,Tryz.func13,rfl,rfl⟩ (fun S=>heldEnd_ok e hB k hk S) (.int _ _) (borM_of (.cons h.borE (.cons (borE_int _ _) .nil)))
theorem markE_lens (e:En) (k:Nat):(markE e k).out.length=e.out.length∧(markE e k).inn.length=e.inn.length∧(markE e k).strs.length=e.strs.length∧(markE e k).wait.length=e.wait.length:=by
 simp [markE,mkFs_len,mkSs_len,mkFrs_len]
theorem xV_mark (vo vi:V) (b c:Nat) (e:En) (k:Nat):xV vo vi b c (markE e k)=xV vo vi b c e:=by
 obtain ⟨h1,h2,h3,h4⟩:=markE_lens e k
 unfold xV
 rw [h3,h4]
 rfl
theorem hear_small (e:En) (bs:List UInt8):cntE (endHearM e bs)≤10000:=by
 unfold endHearM
 split
 ·rw [cntE_zero]; omega
 ·rename_i hn
  have hE:endOk e=true:=by cases q:endOk e <;> simp_all
  have:=cntE_w (hearWM_w ((endOk_iff.1 hE).mono (show 60≤642 by decide)) (Nat.le_refl _) bs).1
  omega
end
end Go.Proofs.YtldogccmhncnoaaGreatDoor
