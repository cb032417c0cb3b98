/- A part of the proof: contracts of functions, or plain facts on which these lean. -/
import Derived.Test.YtdplmibomopkcaaGreatOa35
import Derived.Test.YtdplmibomopkcaaGreatOaLzB
import Derived.Test.YtdplmibomopkcaaGreatOaLzC
namespace Go.Proofs.YtdplmibomopkcaaGreat
open Go
set_option linter.unusedVariables false
set_option linter.unusedSimpArgs false
set_option maxRecDepth 100000
set_option maxHeartbeats 16000000

section
open Go
theorem FnWriteText_ok (code:List UInt8) (S:List Blk):VCall Tryz.prog 6 [.rows none (code.map u8V)] S fun r S'=>r=.bool true:=by
 refine VCall.ex hDe (fun _=>false) (fun id=>if id=22 then [36,36,36,36,36,36,36,36,36,36,36,36,36,36,36,36,36,36,36,36,36,36,36,36,36,36,36,36,36,36,36,36,36,36,36,36] else []) Tryz.func6 Tryz.ntmps6 Tryz.results6 ?_
 by_cases hc:(code.length:Int) > 1048576
 ·simp -implicitDefEqProofs (maxSteps:=1000000) (disch:=omega) only [push_cast,simprocAttr,hc,↓gd]
  exact ⟨_,_,Wk.refl _ _ _,rfl⟩
 simp -implicitDefEqProofs (maxSteps:=1000000) (disch:=omega) only [push_cast,simprocAttr,hc,↓gd]
 refine (DrawEndWrite_ok code (by omega) _).mono ?_
 rintro r S1 ⟨e,b,c,hw,rfl,q1⟩
 have hB:=hw.b
 have hspec:=fun (Z:List Blk) (q:EnAt Z b c e)=>sEndWrite_ok hB q
 have hEW:=fun (Z:List Blk) (q:EnAt Z b c e)=>EndWrite_ok hB q
 have hXB:EnB (endWriteM e).1:=endWriteM_b hB
 generalize hx:endWriteM e=X at *
 obtain ⟨x,o⟩:=X
 simp only at hspec hEW hXB
 simp -implicitDefEqProofs (maxSteps:=1000000) (disch:=omega) only [push_cast,simprocAttr,↓gd]
 refine ((hspec _ (q1.at_.app _)).as (by simp [eV,enV,enC])).mono ?_
 rintro r S2 ⟨_,rfl,b2,c2,rfl,q2⟩
 have k3:S2[S1.length]?=some (.cells 0 (enC (.heap b e.strs.length) (.heap c e.wait.length) e)):=q2.upd.get (by simp -implicitDefEqProofs (maxSteps:=1000000) (disch:=omega) only [push_cast,simprocAttr,↓gd]) (by simp)
 have hat2:=(q1.at_.app [(.cells 0 (enC (.heap b e.strs.length) (.heap c e.wait.length) e))]).upd q2.upd (by simp) (by simp)
 have l3:=lt_of_some k3
 simp -implicitDefEqProofs (maxSteps:=1000000) (disch:=omega) only [push_cast,simprocAttr,k3,↓gd]
 refine ((hEW _ (hat2.app _)).as (by simp [eV,enV,enC])).mono ?_
 rintro r S3 ⟨_,rfl,b3,c3,rfl,q3⟩
 have k3':=q3.upd.get (j:=S1.length) (B:=(.cells 0 (enC (.heap b e.strs.length) (.heap c e.wait.length) e))) (by simp -implicitDefEqProofs (maxSteps:=1000000) (disch:=omega) only [push_cast,simprocAttr,k3,↓gd]) (by simp)
 have k4':=q3.upd.get (j:=S2.length) (B:=(.cells 0 (enC (.heap b2 x.strs.length) (.heap c2 x.wait.length) x))) (by simp -implicitDefEqProofs (maxSteps:=1000000) (disch:=omega) only [push_cast,simprocAttr,↓gd]) (by simp)
 have hat3:=(hat2.app [(.cells 0 (enC (.heap b2 x.strs.length) (.heap c2 x.wait.length) x))]).upd q3.upd (by simp) (by simp)
 have hs3:=(q2.at_.app [(.cells 0 (enC (.heap b2 x.strs.length) (.heap c2 x.wait.length) x))]).upd q3.upd (by simp) (by simp)
 have hx3:=q3.at_
 have l3':=lt_of_some k3'
 have l4':=lt_of_some k4'
 simp -implicitDefEqProofs (maxSteps:=1000000) (disch:=omega) only [push_cast,simprocAttr,k3',k4',↓gd]
 refine ((lkEnd_self hXB (hx3.app _) (hs3.app _)).as (by simp [eV,enV,enC])).to ?_
 simp -implicitDefEqProofs (maxSteps:=1000000) (disch:=omega) only [push_cast,simprocAttr,k3',k4',↓gd]
 refine ((sEndOk_at hB (hat3.app _)).as (by simp [eV,enV,enC])).to ?_
 cases hE:endOk e
 ·simp -implicitDefEqProofs (maxSteps:=1000000) (disch:=omega) only [push_cast,simprocAttr,k3',k4',↓gd]
  refine ((lkEnd_self hXB (hx3.app _) (hs3.app _)).as (by simp [eV,enV,enC])).to ?_
  simp -implicitDefEqProofs (maxSteps:=1000000) (disch:=omega) only [push_cast,simprocAttr,↓gd]
  exact ⟨_,_,Wk.refl _ _ _,rfl⟩
 clear hspec hEW
 cases hbd:e.bad
 rotate_left
 ·simp -implicitDefEqProofs (maxSteps:=1000000) (disch:=omega) only [push_cast,simprocAttr,k3',k4',hbd,↓gd]
  refine ((lkEnd_self hXB (hx3.app _) (hs3.app _)).as (by simp [eV,enV,enC])).to ?_
  simp -implicitDefEqProofs (maxSteps:=1000000) (disch:=omega) only [push_cast,simprocAttr,↓gd]
  exact ⟨_,_,Wk.refl _ _ _,rfl⟩
 obtain ⟨fs,hs⟩:=said hE hw.hl hx
 obtain ⟨hwr,hfs,_⟩:=hs.good hbd
 have hob:=hs.bytes
 have hshort:=hs.short
 rw [hob] at hshort
 have hbl:=bytes_len fs
 have hxl:=hs.len
 have hokf:=hs.ok
 have hel:=hB.len
 have hwl:=hB.wait
 have hsl:=strsC_len e.strs
 have hsx:=strsC_len x.strs
 clear hs
 simp -implicitDefEqProofs (maxSteps:=1000000) (disch:=omega) only [push_cast,simprocAttr,k3',hbd,↓gd]
 refine wpV_loop (fun m t S'=>∃n:Nat,m=fs.length - n∧n≤fs.length∧t 3=.ptr S1.length 0∧t 6=.ptr S3.length 0∧t 7=.str (bytes (fs.drop n))∧t 8=.int .i64 n ∧
  S'[S1.length]?=some (.cells 0 (enC (.heap b e.strs.length) (.heap c e.wait.length) e))∧EnAt S' b c e∧S'[S3.length]?=some (.cells 0 (enC (.heap b3 x.strs.length) (.heap c3 x.wait.length) x))∧EnAt S' b3 c3 x) fs.length ⟨0,by omega,by omega,rfl,rfl,by rw [hob]; rfl,rfl,?_,?_,?_,?_⟩ ?_
 ·simp -implicitDefEqProofs (maxSteps:=1000000) (disch:=omega) only [push_cast,simprocAttr,k3',↓gd]
 ·exact hat3.app _
 ·simp -implicitDefEqProofs (maxSteps:=1000000) (disch:=omega) only [push_cast,simprocAttr,↓gd]
 ·exact hx3.app _
 rintro m t S' ⟨n,rfl,hn,h3,h6,h7,h8,k3,hat,k6,hax⟩
 refine wpV_of hDe (fun _=>false) (fun id=>if id=22 then [36,36,36,36,36,36,36,36,36,36,36,36,36,36,36,36,36,36,36,36,36,36,36,36,36,36,36,36,36,36,36,36,36,36,36,36] else []) (by kernel_rfl) ?_
 have lk3:=lt_of_some k3
 have lk6:=lt_of_some k6
 by_cases hnl:n < fs.length
 ·obtain ⟨g1,g2,g3,g4⟩:=bytes_at hokf hnl
  have hle:=bytes_le (fs:=fs) (n:=n)
  have hFR:=fun T=>FrameRead_ok (bytes (fs.drop n)) (by omega) T
  rw [g1] at hFR
  have hfd:e.wait.length≤n→(fs.getD n Go.Proofs.YtdplmibomopkcaaGreat.fr0).kind=0→∀i,i < e.strs.length→(fs.getD n Go.Proofs.YtdplmibomopkcaaGreat.fr0).stream=(stAt e i).id→(fs.getD n Go.Proofs.YtdplmibomopkcaaGreat.fr0).body=((stAt e i).say.drop (stAt e i).sent.toNat).take (fs.getD n Go.Proofs.YtdplmibomopkcaaGreat.fr0).body.length∧(stAt x i).sent=(stAt e i).sent+(fs.getD n Go.Proofs.YtdplmibomopkcaaGreat.fr0).body.length∧(fs.getD n Go.Proofs.YtdplmibomopkcaaGreat.fr0).last=decide ((stAt e i).sent+(fs.getD n Go.Proofs.YtdplmibomopkcaaGreat.fr0).body.length=(stAt e i).say.length)∧(stAt e i).sent+(fs.getD n Go.Proofs.YtdplmibomopkcaaGreat.fr0).body.length≤(stAt e i).say.length:=by
   intro hge
   have hnn:n - e.wait.length < (newF e).length:=by rw [hfs,List.length_append] at hnl; omega
   have hfe:fs.getD n Go.Proofs.YtdplmibomopkcaaGreat.fr0=(newF e).getD (n - e.wait.length) Go.Proofs.YtdplmibomopkcaaGreat.fr0:=by rw [hfs,getD_app_right hge]
   rw [hfe]
   exact hwr.data _ (getD_memF hnn)
  generalize bytes (fs.drop n)=B at *
  generalize hB2:bytes (fs.drop (n+1))=B2 at *
  have hused:((4+(fs.getD n Go.Proofs.YtdplmibomopkcaaGreat.fr0).body.length:Nat):Int)≤B.length:=by omega
  generalize fs.getD n Go.Proofs.YtdplmibomopkcaaGreat.fr0=f at *
  simp -implicitDefEqProofs (maxSteps:=1000000) (disch:=omega) only [push_cast,simprocAttr,h3,h6,h7,h8,g3,↓gd]
  refine ((hFR _).as rfl).to ?_
  have g2':B.drop ((4:Int)+f.body.length).toNat=B2:=by rw [show ((4:Int)+f.body.length).toNat=4+f.body.length by omega]; exact g2
  by_cases hc:((n:Int)+1≤e.wait.length)
  ·simp -implicitDefEqProofs (maxSteps:=1000000) (disch:=omega) only [push_cast,simprocAttr,h3,h6,h7,h8,k3,hused,hc,↓gd]
   repeat refine And.intro (by omega) ?_
   exact ⟨fs.length - (n+1),by omega,n+1,rfl,by omega,by rw [List.take_length,g2',←hB2],by simp,hat.app _,hax.app _⟩
  by_cases hk0:f.kind=0
  rotate_left
  ·simp -implicitDefEqProofs (maxSteps:=1000000) (disch:=omega) only [push_cast,simprocAttr,h3,h6,h7,h8,k3,hused,hc,hk0,↓gd]
   repeat refine And.intro (by omega) ?_
   exact ⟨fs.length - (n+1),by omega,n+1,rfl,by omega,by rw [List.take_length,g2',←hB2],by simp,hat.app _,hax.app _⟩
  have hfd:=hfd (by omega) hk0
  simp -implicitDefEqProofs (maxSteps:=1000000) (disch:=omega) only [push_cast,simprocAttr,h3,h6,h7,h8,k3,hused,hc,hk0,↓gd]
  repeat refine And.intro (by omega) ?_
  refine wpV_loop (fun m t S''=>∃i:Nat,m=e.strs.length - i∧i≤e.strs.length∧t 3=.ptr S1.length 0∧t 6=.ptr S3.length 0∧t 7=.str (bytes (fs.drop (n+1)))∧t 8=.int .i64 ((n:Int)+1)∧t 9=.ptr S'.length 0∧t 12=.int .i64 i ∧
   Upd [] (S'++[.cells 0 [.int .i64 0,.bool f.last,.int .i64 f.stream,.str f.body]]) S'') e.strs.length ⟨0,by omega,by omega,by simp -implicitDefEqProofs (maxSteps:=1000000) (disch:=omega) only [push_cast,simprocAttr,h3,↓gd],by simp -implicitDefEqProofs (maxSteps:=1000000) (disch:=omega) only [push_cast,simprocAttr,h6,↓gd],?_,by simp -implicitDefEqProofs (maxSteps:=1000000) (disch:=omega) only [push_cast,simprocAttr,h8,↓gd],by simp -implicitDefEqProofs (maxSteps:=1000000) (disch:=omega) only [push_cast,simprocAttr,↓gd],rfl,Upd.refl _ _⟩ ?_
  ·simp -implicitDefEqProofs (maxSteps:=1000000) (disch:=omega) only [push_cast,simprocAttr,↓gd]
   rw [List.take_length,g2',←hB2]
  rintro m t S'' ⟨i,rfl,hi,h3,h6,h7,h8,h9,h12,hu⟩
  refine wpV_of hDe (fun _=>false) (fun id=>if id=22 then [36,36,36,36,36,36,36,36,36,36,36,36,36,36,36,36,36,36,36,36,36,36,36,36,36,36,36,36,36,36,36,36,36,36,36,36] else []) (by kernel_rfl) ?_
  have k3':=hu.get (j:=S1.length) (B:=(.cells 0 (enC (.heap b e.strs.length) (.heap c e.wait.length) e))) (by simp -implicitDefEqProofs (maxSteps:=1000000) (disch:=omega) only [push_cast,simprocAttr,k3,↓gd]) (by simp)
  have k6':=hu.get (j:=S3.length) (B:=(.cells 0 (enC (.heap b3 x.strs.length) (.heap c3 x.wait.length) x))) (by simp -implicitDefEqProofs (maxSteps:=1000000) (disch:=omega) only [push_cast,simprocAttr,k6,↓gd]) (by simp)
  have kf:=hu.get (j:=S'.length) (B:=.cells 0 [.int .i64 0,.bool f.last,.int .i64 f.stream,.str f.body]) (by simp -implicitDefEqProofs (maxSteps:=1000000) (disch:=omega) only [push_cast,simprocAttr,↓gd]) (by simp)
  have hat':=(hat.app [.cells 0 [.int .i64 0,.bool f.last,.int .i64 f.stream,.str f.body]]).upd hu (by simp) (by simp)
  have hax':=(hax.app [.cells 0 [.int .i64 0,.bool f.last,.int .i64 f.stream,.str f.body]]).upd hu (by simp) (by simp)
  have lk3':=lt_of_some k3'
  have lk6':=lt_of_some k6'
  have lkf:=lt_of_some kf
  have hb:=hat'.1
  have hbx:=hax'.1
  have lhb:=lt_of_some hb
  have lhbx:=lt_of_some hbx
  by_cases hil:i < e.strs.length
  ·have hil':(i:Int) < e.strs.length:=by omega
   have hil2:(i:Int) < x.strs.length:=by omega
   have hat2:=strsC_at hil
   have c6x:=strsC_get (l:=x.strs) (i:=i) (by omega) (c:=6) (by decide)
   have hx1:e.strs.getD i st0=stAt e i:=rfl
   have hx2:x.strs.getD i st0=stAt x i:=rfl
   have hfi:=hfd i hil
   have hsok:=stOk_iff.1 ((endOk_iff.1 hE).st hil)
   rw [hx1] at hat2
   simp only [strC,hx2] at c6x
   generalize stAt e i=q at *
   generalize stAt x i=y at *
   by_cases hsi:q.id=f.stream
   ·obtain ⟨d1,d2,d3,d4⟩:=hfi hsi.symm
    obtain ⟨hs0,hs1⟩:=hsok.2.2.2.2.2.2.1
    have h16:=(wordOk_iff.1 hsok.2.2.2.2.1).2
    obtain ⟨u,hu0⟩:=Int.eq_ofNat_of_zero_le hs0
    have hu0:q.sent=(u:Int):=hu0
    rw [hu0] at d1 d2 d3 d4 hs1
    have d4':¬(u:Int)+f.body.length > q.say.length:=by omega
    have d1':f.body=(q.say.drop u).take f.body.length:=d1
    have hsl:(q.say.take ((u:Int)+f.body.length).toNat).drop u=f.body:=by
     rw [show ((u:Int)+f.body.length).toNat=u+f.body.length by omega,List.drop_take,show u+f.body.length - u=f.body.length by omega,←d1']
    simp -implicitDefEqProofs (maxSteps:=1000000) (disch:=omega) only [push_cast,simprocAttr,h3,h6,h7,h8,h9,h12,hil',hil2,k3',k6',kf,hb,hbx,hat2,c6x,hsi,hu0,d4',hsl,d2,d3,bne_self_eq_false,↓gd]
    repeat refine And.intro (by omega) ?_
    exact ⟨e.strs.length - (i+1),by omega,i+1,rfl,by omega,by simp,by rw [←d3]; exact hu.app _⟩
   ·simp -implicitDefEqProofs (maxSteps:=1000000) (disch:=omega) only [push_cast,simprocAttr,h3,h6,h7,h8,h9,h12,hil',k3',kf,hb,hat2,hsi,↓gd]
    repeat refine And.intro (by omega) ?_
    exact ⟨e.strs.length - (i+1),by omega,i+1,rfl,by omega,by simp,hu.app _⟩
  ·have:i=e.strs.length:=by omega
   subst this
   have hil':¬((e.strs.length:Nat):Int) < e.strs.length:=by omega
   simp -implicitDefEqProofs (maxSteps:=1000000) (disch:=omega) only [push_cast,simprocAttr,h3,h6,h7,h8,h9,h12,hil',k3',k6',↓gd]
   exact ⟨fs.length - (n+1),by omega,n+1,rfl,by omega,rfl,by simp,hat',hax'⟩
 ·have:n=fs.length:=by omega
  subst this
  rw [bytes_end] at h7
  simp -implicitDefEqProofs (maxSteps:=1000000) (disch:=omega) only [push_cast,simprocAttr,h3,h6,h7,h8,k3,k6,hxl,decide_true,↓gd]
  exact ⟨_,_,Wk.refl _ _ _,rfl⟩
end
end Go.Proofs.YtdplmibomopkcaaGreat
