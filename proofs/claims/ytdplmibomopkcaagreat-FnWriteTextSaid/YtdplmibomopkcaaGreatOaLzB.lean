/- A part of the proof: contracts of functions, or plain facts on which these lean. -/
import Derived.Test.YtdplmibomopkcaaGreatOa35
namespace Go.Proofs.YtdplmibomopkcaaGreat
open Go
set_option linter.unusedVariables false
set_option linter.unusedSimpArgs false
set_option maxRecDepth 100000
set_option maxHeartbeats 16000000

section
open Go
theorem endWriteM_b {e:En} (he:EnB e):EnB (endWriteM e).1:=by
 rw [endWriteM]
 split
 ·exact en0_bE
 ·rename_i h
  have hE:endOk e=true:=by cases q:endOk e <;> simp_all
  split
  ·exact he
  ·exact (writeM_w (endOk_w hE)).b (by decide)
structure Said (e x:En) (o:List UInt8) (fs:List Fr):Prop where
 bytes:o=bytes fs
 ok:∀f ∈ fs,frameOk f=true
 len:x.strs.length=e.strs.length
 xok:endOk x=true
 again:endWriteM x=(x,[])
 bad:e.bad=true→fs=[]∧x=e
 good:e.bad=false→WrS e x (newF e)∧fs=e.wait++newF e∧x=(writeM e).1
 short:o.length≤1000000
theorem writeM_badE (e:En):(writeM e).1.bad=e.bad:=(writeM_cb e).2
theorem said {e x:En} {o:List UInt8} (hE:endOk e=true) (hl:HL e) (hx:endWriteM e=(x,o)):∃fs,Said e x o fs:=by
 have hW:=endOk_iff.1 hE
 cases hb:e.bad with
 | true =>
  have h1:endWriteM e=(e,[]):=by rw [endWriteM,if_neg (by rw [hE]; simp),if_pos hb]
  rw [h1] at hx
  cases hx
  exact ⟨[],rfl,by simp,rfl,hE,h1,fun _=>⟨rfl,rfl⟩,fun z=>(by rw [hb] at z; cases z),by simp⟩
 | false =>
  have h1:endWriteM e=writeM e:=by rw [endWriteM,if_neg (by rw [hE]; simp),if_neg (by rw [hb]; simp)]
  rw [h1] at hx
  have hs:=writeM_s hW (fun i hi=>hl.at_ hi)
  have hxw:=(writeM_w hW).mono (show 0≤60 by decide)
  have hag:=write_again hW
  have hxb:(writeM e).1.bad=false:=by rw [writeM_badE,hb]
  have hsh:(writeM e).2.length≤1000000:=by
   have:=writeM_len hW
   omega
  rw [hx] at hs hxw hag hxb hsh
  simp only at hs hxw hag hxb hsh
  have hxok:=endOk_iff.2 hxw
  refine ⟨e.wait++newF e,?_,fun f hf=>?_,hs.len,hxok,?_,fun z=>(by rw [hb] at z; cases z),fun _=>⟨hs,rfl,by rw [hx]⟩,hsh⟩
  ·have:=hs.bytes
   rwa [hx] at this
  ·rcases List.mem_append.1 hf with z | z
   ·exact hW.wait f z
   ·exact (hs.ok f z).1
  ·rw [endWriteM,if_neg (by rw [hxok]; simp),if_neg (by rw [hxb]; simp)]
   exact hag
theorem FnWriteOnce_ok (code:List UInt8) (S:List Blk):VCall Tryz.prog 3 [.rows none (code.map u8V)] S fun r S'=>r=.bool true:=by
 refine VCall.en hDe Tryz.func3 Tryz.ntmps3 Tryz.results3 ?_
 by_cases hc:(code.length:Int) > 1048576
 ·simp -implicitDefEqProofs (maxSteps:=1000000) (disch:=omega) only [push_cast,simprocAttr,hc,↓gd]
  exact ⟨_,_,Wk.refl _ _ _,rfl⟩
 simp -implicitDefEqProofs (maxSteps:=1000000) (disch:=omega) only [push_cast,simprocAttr,hc,↓gd]
 refine (DrawEndWrite_ok code (by omega) _).mono ?_
 rintro r S1 ⟨e,b,c,hw,rfl,q1⟩
 have hB:=hw.b
 have hspec:=fun (Z:List Blk) (q:EnAt Z b c e)=>sEndWrite_ok hB q
 have hEW:=fun (Z:List Blk) (q:EnAt Z b c e)=>EndWrite_ok hB q
 have hXB:EnB (endWriteM e).1:=endWriteM_b hB
 generalize hx:endWriteM e=X at *
 obtain ⟨x,o⟩:=X
 simp only at hspec hEW hXB
 simp -implicitDefEqProofs (maxSteps:=1000000) (disch:=omega) only [push_cast,simprocAttr,↓gd]
 refine ((hspec _ (q1.at_.app _)).as (by simp [eV,enV,enC])).mono ?_
 rintro r S2 ⟨_,rfl,b2,c2,rfl,q2⟩
 have k3:S2[S1.length]?=some (.cells 0 (enC (.heap b e.strs.length) (.heap c e.wait.length) e)):=q2.upd.get (by simp -implicitDefEqProofs (maxSteps:=1000000) (disch:=omega) only [push_cast,simprocAttr,↓gd]) (by simp)
 have hat2:=(q1.at_.app [(.cells 0 (enC (.heap b e.strs.length) (.heap c e.wait.length) e))]).upd q2.upd (by simp) (by simp)
 have l3:=lt_of_some k3
 simp -implicitDefEqProofs (maxSteps:=1000000) (disch:=omega) only [push_cast,simprocAttr,k3,↓gd]
 refine ((hEW _ (hat2.app _)).as (by simp [eV,enV,enC])).mono ?_
 rintro r S3 ⟨_,rfl,b3,c3,rfl,q3⟩
 have k3':=q3.upd.get (j:=S1.length) (B:=(.cells 0 (enC (.heap b e.strs.length) (.heap c e.wait.length) e))) (by simp -implicitDefEqProofs (maxSteps:=1000000) (disch:=omega) only [push_cast,simprocAttr,k3,↓gd]) (by simp)
 have k4':=q3.upd.get (j:=S2.length) (B:=(.cells 0 (enC (.heap b2 x.strs.length) (.heap c2 x.wait.length) x))) (by simp -implicitDefEqProofs (maxSteps:=1000000) (disch:=omega) only [push_cast,simprocAttr,↓gd]) (by simp)
 have hat3:=(hat2.app [(.cells 0 (enC (.heap b2 x.strs.length) (.heap c2 x.wait.length) x))]).upd q3.upd (by simp) (by simp)
 have hs3:=(q2.at_.app [(.cells 0 (enC (.heap b2 x.strs.length) (.heap c2 x.wait.length) x))]).upd q3.upd (by simp) (by simp)
 have hx3:=q3.at_
 have l3':=lt_of_some k3'
 have l4':=lt_of_some k4'
 simp -implicitDefEqProofs (maxSteps:=1000000) (disch:=omega) only [push_cast,simprocAttr,k3',k4',↓gd]
 refine ((lkEnd_self hXB (hx3.app _) (hs3.app _)).as (by simp [eV,enV,enC])).to ?_
 simp -implicitDefEqProofs (maxSteps:=1000000) (disch:=omega) only [push_cast,simprocAttr,k3',k4',↓gd]
 refine ((sEndOk_at hB (hat3.app _)).as (by simp [eV,enV,enC])).to ?_
 cases hE:endOk e
 ·simp -implicitDefEqProofs (maxSteps:=1000000) (disch:=omega) only [push_cast,simprocAttr,k3',k4',↓gd]
  refine ((lkEnd_self hXB (hx3.app _) (hs3.app _)).as (by simp [eV,enV,enC])).to ?_
  simp -implicitDefEqProofs (maxSteps:=1000000) (disch:=omega) only [push_cast,simprocAttr,↓gd]
  exact ⟨_,_,Wk.refl _ _ _,rfl⟩
 clear hspec hEW
 obtain ⟨fs,hs⟩:=said hE hw.hl hx
 have hag:=hs.again
 have hEX:=fun (Z:List Blk) (q:EnAt Z b3 c3 x)=>EndWrite_ok hXB q
 rw [hag] at hEX
 simp -implicitDefEqProofs (maxSteps:=1000000) (disch:=omega) only [push_cast,simprocAttr,↓gd]
 refine ((hEX _ (hx3.app _)).as (by simp [eV,enV,enC])).mono ?_
 rintro r S4 ⟨_,rfl,b4,c4,rfl,q4⟩
 have k6:=q4.upd.get (j:=S3.length) (B:=(.cells 0 (enC (.heap b3 x.strs.length) (.heap c3 x.wait.length) x))) (by simp -implicitDefEqProofs (maxSteps:=1000000) (disch:=omega) only [push_cast,simprocAttr,↓gd]) (by simp)
 have hx4:=(hx3.app [(.cells 0 (enC (.heap b3 x.strs.length) (.heap c3 x.wait.length) x))]).upd q4.upd (by simp) (by simp)
 have l6:=lt_of_some k6
 simp -implicitDefEqProofs (maxSteps:=1000000) (disch:=omega) only [push_cast,simprocAttr,k6,↓gd]
 refine ((lkEnd_self hXB (q4.at_.app _) (hx4.app _)).as (by simp [eV,enV,enC])).to ?_
 simp -implicitDefEqProofs (maxSteps:=1000000) (disch:=omega) only [push_cast,simprocAttr,↓gd]
 exact ⟨_,_,Wk.refl _ _ _,rfl⟩
end
end Go.Proofs.YtdplmibomopkcaaGreat
