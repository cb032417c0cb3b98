/- A part of the proof: contracts of functions, or plain facts on which these lean. -/
import Derived.Test.YtmfamfjfnjckeaaGreatDoorNa40
import Derived.Test.YtmfamfjfnjckeaaGreatDoorNaLwP
namespace Go.Proofs.YtmfamfjfnjckeaaGreatDoor
open Go
set_option linter.unusedVariables false
set_option linter.unusedSimpArgs false
set_option maxRecDepth 100000
set_option maxHeartbeats 16000000

section
open Go
theorem play_quiet (l:List Ev) (h:l.length≤60):(quietL l).length≤60:=by
 unfold quietL; have:=List.length_filter_le (fun v=>decide (v.kind≠3)) l; omega
theorem FnWorldQuiet_ok (code:List UInt8) (S:List Blk):VCall Tryz.prog 3 [.rows none (code.map u8V)] S fun r S'=>r=.bool true:=by
 refine VCall.en hDe Tryz.func3 Tryz.ntmps3 Tryz.results3 ?_
 by_cases hc:(code.length:Int) > 1048576
 ·simp -implicitDefEqProofs (maxSteps:=1000000) (disch:=omega) only [push_cast,simprocAttr,hc,↓gd]
  exact ⟨_,_,Wk.refl _ _ _,rfl⟩
 simp -implicitDefEqProofs (maxSteps:=1000000) (disch:=omega) only [push_cast,simprocAttr,hc,↓gd]
 refine (DrawWorldPlay_ok code (by omega) _).mono ?_
 rintro r S0 ⟨l,hl,hv,rfl,rfl⟩
 have hvB:=fun v hm=>(hv v hm).b
 simp -implicitDefEqProofs (maxSteps:=1000000) (disch:=omega) only [push_cast,simprocAttr,↓gd]
 refine (WorldPlay_ok l (by omega) hvB (fun _ i _=>play_ends l i) _).mono ?_
 rintro r S1 ⟨u,rfl,b,c,d,f,rfl,q1⟩
 have hspec:=fun Z=>sWorldPlay_ok l (by omega) hvB Z
 have hXB:=play_b l
 have hpl:=play_pl l
 generalize worldPlayM l=W at *
 obtain ⟨w,ok⟩:=W
 simp only at hspec hXB hpl q1
 simp -implicitDefEqProofs (maxSteps:=1000000) (disch:=omega) only [push_cast,simprocAttr,↓gd]
 refine (hspec _).mono ?_
 rintro r S2 ⟨u2,rfl,b2,c2,d2,f2,rfl,q2⟩
 have kw:S2[S1.length]?=some (.cells 0 (wC b c d f w)):=q2.upd.get (by simp -implicitDefEqProofs (maxSteps:=1000000) (disch:=omega) only [push_cast,simprocAttr,↓gd]) (by simp)
 have hat:=(q1.at_.app _).upd0 q2.upd
 have lw:=lt_of_some kw
 simp -implicitDefEqProofs (maxSteps:=1000000) (disch:=omega) only [push_cast,simprocAttr,kw,↓gd]
 refine ((lkWorld_self hXB (hat.app _) (q2.at_.app _)).as (by simp [wV,wC,enC])).to ?_
 cases hok:ok
 ·simp -implicitDefEqProofs (maxSteps:=1000000) (disch:=omega) only [push_cast,simprocAttr,kw,↓gd]
  refine ((lkWorld_self hXB (hat.app _) (q2.at_.app _)).as (by simp [wV,wC,enC])).to ?_
  simp -implicitDefEqProofs (maxSteps:=1000000) (disch:=omega) only [push_cast,simprocAttr,↓gd]
  exact ⟨_,_,Wk.refl _ _ _,rfl⟩
 obtain ⟨hP,hle,hplay⟩:=hpl hok
 have hat:=hat.app [.cells 0 (wC b2 c2 d2 f2 w)]
 have kw2:(S2++[.cells 0 (wC b2 c2 d2 f2 w)])[S1.length]?=some (.cells 0 (wC b c d f w)):=by rw [List.getElem?_append_left lw]; exact kw
 have hquiet:=quiet_play l
 have hqn:=play_quiet l hle
 have hvQ:∀v ∈ quietL l,EvB v:=fun v hm=>hvB v (List.mem_filter.1 hm).1
 have hcQ:=fun T=>WorldPlay_ok (quietL l) (by omega) hvQ (fun _ i _=>play_ends _ i) T
 have hplx:=play_pl (quietL l)
 have hfine:(worldPlayM (quietL l)).2=true:=by rw [worldPlayM,if_neg (by omega)]
 generalize worldPlayM (quietL l)=X at *
 obtain ⟨x,fine⟩:=X
 simp only at hcQ hplx hfine
 subst hfine
 obtain ⟨hPx,_,hx⟩:=hplx rfl
 rw [←hx,←hplay] at hquiet
 obtain ⟨⟨g1,g2,g3⟩,g4⟩:=hquiet
 simp -implicitDefEqProofs (maxSteps:=1000000) (disch:=omega) only [push_cast,simprocAttr,kw2,↓gd]
 refine wpV_loop (fun m t S'=>∃(i τ:Nat),m=l.length - i∧i≤l.length∧t 3=.rows none (l.map evV)∧t 4=.ptr S1.length 0∧t 8=.rows (some τ) ((quietL (l.take i)).map evV)∧t 9=.int .i64 i∧S'[τ]?=some (.right 5)∧S'[S1.length]?=some (.cells 0 (wC b c d f w))) l.length ⟨0,S2.length+1,by omega,by omega,rfl,rfl,rfl,rfl,?_,?_⟩ ?_
 ·simp -implicitDefEqProofs (maxSteps:=1000000) (disch:=omega) only [push_cast,simprocAttr,↓gd]
 ·simp -implicitDefEqProofs (maxSteps:=1000000) (disch:=omega) only [push_cast,simprocAttr,kw2,↓gd]
 rintro m t S' ⟨i,τ,rfl,hi,h3,h4,h8,h9,kt,kw'⟩
 have lt:=lt_of_some kt
 have lkw:=lt_of_some kw'
 have nt:=right_ne kt kw'
 have hbnd:(quietL (l.take i)).length≤l.length:=by unfold quietL; have:=List.length_filter_le (fun v=>decide (v.kind≠3)) (l.take i); rw [List.length_take] at this; omega
 refine wpV_of0 hDe ?_
 by_cases hil:i < l.length
 ·have hil':(i:Int) < l.length:=by omega
  have hgd:=getD_evV hil
  have hsn:quietL (l.take (i+1))=quietL (l.take i)++(if (l.getD i ev0).kind≠3 then [l.getD i ev0] else []):=by
   unfold quietL
   rw [List.take_add_one,List.filter_append,List.getD_eq_getElem?_getD,List.getElem?_eq_getElem hil]
   by_cases h3:l[i].kind=3 <;> simp [h3]
  generalize l.getD i ev0=v at *
  generalize quietL (l.take i)=qs at *
  by_cases k3:v.kind=3
  ·rw [if_neg (by simp [k3]),List.append_nil] at hsn
   simp -implicitDefEqProofs (maxSteps:=1000000) (disch:=omega) only [push_cast,simprocAttr,h3,h4,h8,h9,hil',hgd,evs_len5,k3,↓gd]
   repeat refine And.intro (by omega) ?_
   exact ⟨l.length - (i+1),by omega,i+1,τ,rfl,by omega,by rw [hsn],by simp,kt,kw'⟩
  ·rw [if_pos (by simp [k3])] at hsn
   simp -implicitDefEqProofs (maxSteps:=1000000) (disch:=omega) only [push_cast,simprocAttr,h3,h4,h8,h9,hil',hgd,evs_len5,k3,kt,↓gd]
   repeat refine And.intro (by omega) ?_
   exact ⟨l.length - (i+1),by omega,i+1,S'.length+1,rfl,by omega,by rw [hsn]; simp [evV],by simp,by simp -implicitDefEqProofs (maxSteps:=1000000) (disch:=omega) only [push_cast,simprocAttr,↓gd],kw'⟩
 ·have:i=l.length:=by omega
  subst this
  have hil':¬((l.length:Nat):Int) < l.length:=by omega
  rw [List.take_length] at *
  simp -implicitDefEqProofs (maxSteps:=1000000) (disch:=omega) only [push_cast,simprocAttr,h3,h4,h8,h9,hil',kw',↓gd]
  refine ((hcQ _).as rfl).mono ?_
  rintro r S3 ⟨u3,rfl,b3,c3,d3,f3,rfl,q3⟩
  have kw3:=q3.upd.get kw' (by simp)
  simp -implicitDefEqProofs (maxSteps:=1000000) (disch:=omega) only [push_cast,simprocAttr,kw3,g1,g2,g3,g4,h4,↓gd]
  exact ⟨_,_,Wk.refl _ _ _,rfl⟩
end
end Go.Proofs.YtmfamfjfnjckeaaGreatDoor
