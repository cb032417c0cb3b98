/- A part of the proof: contracts of functions, or plain facts on which these lean. -/
import Derived.Test.YtodjmflbakfmjaaGreatDoorMb41
import Derived.Test.YtodjmflbakfmjaaGreatDoorMbLwP
namespace Go.Proofs.YtodjmflbakfmjaaGreatDoor
open Go
set_option linter.unusedVariables false
set_option linter.unusedSimpArgs false
set_option maxRecDepth 100000
set_option maxHeartbeats 16000000

section
open Go
theorem calm_in {w:Wo} (h:woOk w=true) {n:Nat} (hn:n≤16):worldCalmM w n=roundsM n w:=by
 rw [worldCalmM,if_neg (by rw [h]; simp; omega)]; rfl
theorem FnWorldCalm_ok (code:List UInt8) (S:List Blk):VCall Tryz.prog 5 [.rows none (code.map u8V)] S fun r S'=>r=.bool true:=by
 refine VCall.en hDe Tryz.func5 Tryz.ntmps5 Tryz.results5 ?_
 by_cases hc:(code.length:Int) > 1048576
 ·simp -implicitDefEqProofs (maxSteps:=1000000) (disch:=omega) only [push_cast,simprocAttr,hc,↓gd]
  exact ⟨_,_,Wk.refl _ _ _,rfl⟩
 simp -implicitDefEqProofs (maxSteps:=1000000) (disch:=omega) only [push_cast,simprocAttr,hc,↓gd]
 refine (DrawWorldPlay_ok code (by omega) _).mono ?_
 rintro r S0 ⟨l,hl,hv,rfl,rfl⟩
 have hvB:=fun v hm=>(hv v hm).b
 simp -implicitDefEqProofs (maxSteps:=1000000) (disch:=omega) only [push_cast,simprocAttr,↓gd]
 refine (WorldPlay_ok l (by omega) hvB (fun _ i _=>play_ends l i) _).mono ?_
 rintro r S1 ⟨u,rfl,b,c,d,f,rfl,q1⟩
 have hspec:=fun Z=>sWorldPlay_ok l (by omega) hvB Z
 have hXB:=play_b l
 have hpl:=play_pl l
 generalize worldPlayM l=W at *
 obtain ⟨w,ok⟩:=W
 simp only at hspec hXB hpl q1
 simp -implicitDefEqProofs (maxSteps:=1000000) (disch:=omega) only [push_cast,simprocAttr,↓gd]
 refine (hspec _).mono ?_
 rintro r S2 ⟨u2,rfl,b2,c2,d2,f2,rfl,q2⟩
 have kw:S2[S1.length]?=some (.cells 0 (wC b c d f w)):=q2.upd.get (by simp -implicitDefEqProofs (maxSteps:=1000000) (disch:=omega) only [push_cast,simprocAttr,↓gd]) (by simp)
 have hat:=(q1.at_.app _).upd0 q2.upd
 have lw:=lt_of_some kw
 simp -implicitDefEqProofs (maxSteps:=1000000) (disch:=omega) only [push_cast,simprocAttr,kw,↓gd]
 refine ((lkWorld_self hXB (hat.app _) (q2.at_.app _)).as (by simp [wV,wC,enC])).to ?_
 cases hok:ok
 ·simp -implicitDefEqProofs (maxSteps:=1000000) (disch:=omega) only [push_cast,simprocAttr,kw,↓gd]
  refine ((lkWorld_self hXB (hat.app _) (q2.at_.app _)).as (by simp [wV,wC,enC])).to ?_
  simp -implicitDefEqProofs (maxSteps:=1000000) (disch:=omega) only [push_cast,simprocAttr,↓gd]
  exact ⟨_,_,Wk.refl _ _ _,rfl⟩
 obtain ⟨hP,hle,hplay⟩:=hpl hok
 have hat:=hat.app [.cells 0 (wC b2 c2 d2 f2 w)]
 have kw2:(S2++[.cells 0 (wC b2 c2 d2 f2 w)])[S1.length]?=some (.cells 0 (wC b c d f w)):=by rw [List.getElem?_append_left lw]; exact kw
 have hx:worldCalmM w ((16:Nat):Int)=roundsM 16 w:=calm_in hP.all.ok (Nat.le_refl _)
 have hR:=calm_all hP (n:=16) (by decide)
 obtain ⟨hXP,hcs⟩:=rounds_cs 16 hP
 have hgr:=rounds_grow 16 hP
 have hcalm:=fun T (q:WoAt T b c d f w)=>WorldCalm_ok woAll_stays hXB (fun _=>hP.all) ((16:Nat):Int) q
 rw [hx] at hcalm
 clear hx
 generalize roundsM 16 w=x at *
 have hB:=hXP.b
 have hfl:=hR.flow
 have hcw:=hR.cw
 have haw:=hR.aw
 have hup:=hR.up
 have hdown:=hR.down
 have hTr:=hXP.true_
 have hW60:EnW 60 x.caller:=hXP.all.1.caller.mono (by decide)
 have hcl:=hXB.caller.len
 have hcx:=hB.caller.len
 have hsl:=strsC_len w.caller.strs
 have hsx:=strsC_len x.caller.strs
 have hlen:=hcs.len
 simp -implicitDefEqProofs (maxSteps:=1000000) (disch:=omega) only [push_cast,simprocAttr,kw2,↓gd]
 refine ((hcalm _ hat).as (by simp [wV,wC,enC])).mono ?_
 rintro r S3 ⟨b3,c3,d3,f3,rfl,q3⟩
 have kw3:=q3.upd.get kw2 (by simp)
 have hat3:=hat.upd0 q3.upd
 have lw3:=lt_of_some kw3
 simp -implicitDefEqProofs (maxSteps:=1000000) (disch:=omega) only [push_cast,simprocAttr,kw3,↓gd]
 refine wpV_loop (fun m t S'=>∃i:Nat,m=x.caller.strs.length - i∧i≤x.caller.strs.length∧t 4=.ptr S1.length 0∧t 8=.ptr S3.length 0∧t 9=.int .i64 i∧S'=S3++[.cells 0 (wC b3 c3 d3 f3 x)]) x.caller.strs.length ⟨0,by omega,by omega,rfl,rfl,rfl,by simp [wC,enC]⟩ ?_
 rintro m t S' ⟨i,rfl,hi,h4,h8,h9,rfl⟩
 refine wpV_of0 hDe ?_
 have hsa:=hat3.caller.1
 have hsb:=q3.at_.caller.1
 have lsa:=lt_of_some hsa
 have lsb:=lt_of_some hsb
 by_cases hil:i < x.caller.strs.length
 ·have hil':(i:Int) < x.caller.strs.length:=by omega
  have c1:=strsC_get (show i < w.caller.strs.length by omega) (c:=1) (by decide)
  have c2:=strsC_get hil (c:=1) (by decide)
  have hst:=hR.calls hil
  have hst2:=hcs.at_ i
  have hkeep:=(hgr.at_ i (by omega)).state
  have hra:=(stOk_iff.1 (hP.all.1.caller.st (show i < w.caller.strs.length by omega))).2.1
  simp only [stAt] at hst hst2 hkeep hra
  generalize w.caller.strs.getD i st0=sa at *
  generalize x.caller.strs.getD i st0=sb at *
  by_cases h3:sa.state=3
  ·have hb3:sb.state=3:=by rw [hkeep (by rw [h3]; decide),h3]
   simp -implicitDefEqProofs (maxSteps:=1000000) (disch:=omega) only [push_cast,simprocAttr,h4,h8,h9,hil',kw3,hsa,hsb,c1,c2,strC_eq,h3,hb3,↓gd]
   repeat refine And.intro (by omega) ?_
   exact ⟨x.caller.strs.length - (i+1),by omega,i+1,rfl,by omega,by simp⟩
  ·have hb2:sb.state=2:=hst.resolve_right (fun z=>h3 (hst2 z))
   simp -implicitDefEqProofs (maxSteps:=1000000) (disch:=omega) only [push_cast,simprocAttr,h4,h8,h9,hil',kw3,hsa,hsb,c1,c2,strC_eq,h3,hb2,↓gd]
   repeat refine And.intro (by omega) ?_
   exact ⟨x.caller.strs.length - (i+1),by omega,i+1,rfl,by omega,by simp⟩
 ·have:i=x.caller.strs.length:=by omega
  subst this
  have hil':¬((x.caller.strs.length:Nat):Int) < x.caller.strs.length:=by omega
  obtain ⟨g1,g2,g3,g4⟩:=hfl
  simp -implicitDefEqProofs (maxSteps:=1000000) (disch:=omega) only [push_cast,simprocAttr,h4,h8,h9,hil',↓gd]
  refine ((lkTrue_ok hB hW60 hTr (q3.at_.app _)).as (by simp [wV,wC,enC])).mono ?_
  rintro r S4 ⟨rfl,hu⟩
  have kx:=hu.get (j:=S3.length) (B:=.cells 0 (wC b3 c3 d3 f3 x)) (by simp -implicitDefEqProofs (maxSteps:=1000000) (disch:=omega) only [push_cast,simprocAttr,↓gd]) (by simp)
  simp -implicitDefEqProofs (maxSteps:=1000000) (disch:=omega) only [push_cast,simprocAttr,h8,kx,hup,hdown,hcw,haw,g1,g2,g3,g4,List.append_nil,decide_true,Bool.and_self,↓gd]
  exact ⟨_,_,Wk.refl _ _ _,rfl⟩
end
end Go.Proofs.YtodjmflbakfmjaaGreatDoor
