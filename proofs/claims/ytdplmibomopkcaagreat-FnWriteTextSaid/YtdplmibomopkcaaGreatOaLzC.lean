/- A part of the proof: contracts of functions, or plain facts on which these lean. -/
import Derived.Test.YtdplmibomopkcaaGreatOa35
import Derived.Test.YtdplmibomopkcaaGreatOaLzB
namespace Go.Proofs.YtdplmibomopkcaaGreat
open Go
set_option linter.unusedVariables false
set_option linter.unusedSimpArgs false
set_option maxRecDepth 100000
set_option maxHeartbeats 16000000

section
open Go
theorem hDs:TypesOk Tryz.prog (wrOf D [48,43,3]):=wrOk hD _
def sntC (l:List Fr):List V:=(List.range 8).map fun j=>.int .i64 (if j=0 then 0 else ((dat ((j:Nat):Int) l:Nat):Int))
theorem snt_len (l:List Fr):(sntC l).length=8:=rfl
theorem snt_get (l:List Fr) {n:Nat} (h:n < 8) (h0:0 < n):(sntC l)[n]?=some (.int .i64 ((dat (n:Int) l:Nat):Int)):=by
 simp [sntC,List.getElem?_map,List.getElem?_range h]
 omega
theorem snt_put (l:List Fr) {f:Fr} {n:Nat} (h:n < 8) (h0:0 < n) (hf:f.stream=n) (hk:f.kind=0):splice (sntC l) n [.int .i64 (((dat (n:Int) l:Nat):Int)+f.body.length)]=sntC (l++[f]):=by
 rw [splice_one]
 apply List.ext_getElem?
 intro j
 by_cases hj:j < 8
 ·by_cases hjn:j=n
  ·subst hjn
   rw [List.getElem?_set_self (by rw [snt_len]; exact hj),snt_get _ hj h0,dat_app]
   simp [dat,hk,hf]
  ·rw [List.getElem?_set_ne (Ne.symm hjn)]
   have:¬f.stream=(j:Int):=by rw [hf]; omega
   simp only [sntC,List.getElem?_map,List.getElem?_range hj,Option.map_some,dat_app]
   by_cases j0:j=0
   ·simp [j0]
   ·have j0':¬(j:Int)=0:=by omega
    simp [dat,this,j0',j0]
 ·rw [List.getElem?_eq_none (by rw [List.length_set,snt_len]; omega),List.getElem?_eq_none (by rw [snt_len]; omega)]
theorem snt_same (l:List Fr) {f:Fr} (hk:f.kind≠0):sntC (l++[f])=sntC l:=by
 unfold sntC
 congr 1
 funext j
 rw [dat_app]
 simp [dat,hk]
theorem dat_snoc0 (l:List Fr) {f:Fr} (hk:f.kind=0):dat 0 (l++[f])=dat 0 l+f.body.length:=by rw [dat_app]; simp [dat,hk]
theorem dat_snocN (i:Int) (l:List Fr) {f:Fr} (hk:f.kind≠0):dat i (l++[f])=dat i l:=by rw [dat_app]; simp [dat,hk]
theorem strm8s {f:Fr} (h:frameOk f=true) (hk:f.kind=0):∃n:Nat,n < 8∧0 < n∧f.stream=n:=by
 unfold frameOk at h
 rw [if_pos (.inl hk)] at h
 simp [strmOk] at h
 exact ⟨f.stream.toNat,by omega,by omega,by omega⟩
theorem getD_app_left {α:Type} {l k:List α} {n:Nat} {d:α} (h:n < l.length):(l++k).getD n d=l.getD n d:=by
 rw [List.getD_eq_getElem?_getD,List.getD_eq_getElem?_getD,List.getElem?_append_left h]
theorem getD_app_right {α:Type} {l k:List α} {n:Nat} {d:α} (h:l.length≤n):(l++k).getD n d=k.getD (n - l.length) d:=by
 rw [List.getD_eq_getElem?_getD,List.getD_eq_getElem?_getD,List.getElem?_append_right h]
theorem FnWriteFrames_ok (code:List UInt8) (S:List Blk):VCall Tryz.prog 5 [.rows none (code.map u8V)] S fun r S'=>r=.bool true:=by
 refine VCall.ex hDs (fun _=>false) (fun id=>if id=13 then [18,18,18,18,18,18,18,18,18,18,18,18,18,18,18,18,18,18] else if id=17 then [13,13,13,13,13,13,13,13,13,13,13,13,13,14] else if id=23 then [17,17,17,17,17,17,17,17,17,17,17,17,17,17,17,17,17] else []) Tryz.func5 Tryz.ntmps5 Tryz.results5 ?_
 by_cases hc:(code.length:Int) > 1048576
 ·simp -implicitDefEqProofs (maxSteps:=1000000) (disch:=omega) only [push_cast,simprocAttr,hc,↓gd]
  exact ⟨_,_,Wk.refl _ _ _,rfl⟩
 simp -implicitDefEqProofs (maxSteps:=1000000) (disch:=omega) only [push_cast,simprocAttr,hc,↓gd]
 refine (DrawEndWrite_ok code (by omega) _).mono ?_
 rintro r S1 ⟨e,b,c,hw,rfl,q1⟩
 have hB:=hw.b
 have hspec:=fun (Z:List Blk) (q:EnAt Z b c e)=>sEndWrite_ok hB q
 have hEW:=fun (Z:List Blk) (q:EnAt Z b c e)=>EndWrite_ok hB q
 have hXB:EnB (endWriteM e).1:=endWriteM_b hB
 generalize hx:endWriteM e=X at *
 obtain ⟨x,o⟩:=X
 simp only at hspec hEW hXB
 simp -implicitDefEqProofs (maxSteps:=1000000) (disch:=omega) only [push_cast,simprocAttr,↓gd]
 refine ((hspec _ (q1.at_.app _)).as (by simp [eV,enV,enC])).mono ?_
 rintro r S2 ⟨_,rfl,b2,c2,rfl,q2⟩
 have k3:S2[S1.length]?=some (.cells 0 (enC (.heap b e.strs.length) (.heap c e.wait.length) e)):=q2.upd.get (by simp -implicitDefEqProofs (maxSteps:=1000000) (disch:=omega) only [push_cast,simprocAttr,↓gd]) (by simp)
 have hat2:=(q1.at_.app [(.cells 0 (enC (.heap b e.strs.length) (.heap c e.wait.length) e))]).upd q2.upd (by simp) (by simp)
 have l3:=lt_of_some k3
 simp -implicitDefEqProofs (maxSteps:=1000000) (disch:=omega) only [push_cast,simprocAttr,k3,↓gd]
 refine ((hEW _ (hat2.app _)).as (by simp [eV,enV,enC])).mono ?_
 rintro r S3 ⟨_,rfl,b3,c3,rfl,q3⟩
 have k3':=q3.upd.get (j:=S1.length) (B:=(.cells 0 (enC (.heap b e.strs.length) (.heap c e.wait.length) e))) (by simp -implicitDefEqProofs (maxSteps:=1000000) (disch:=omega) only [push_cast,simprocAttr,k3,↓gd]) (by simp)
 have k4':=q3.upd.get (j:=S2.length) (B:=(.cells 0 (enC (.heap b2 x.strs.length) (.heap c2 x.wait.length) x))) (by simp -implicitDefEqProofs (maxSteps:=1000000) (disch:=omega) only [push_cast,simprocAttr,↓gd]) (by simp)
 have hat3:=(hat2.app [(.cells 0 (enC (.heap b2 x.strs.length) (.heap c2 x.wait.length) x))]).upd q3.upd (by simp) (by simp)
 have hs3:=(q2.at_.app [(.cells 0 (enC (.heap b2 x.strs.length) (.heap c2 x.wait.length) x))]).upd q3.upd (by simp) (by simp)
 have hx3:=q3.at_
 have l3':=lt_of_some k3'
 have l4':=lt_of_some k4'
 simp -implicitDefEqProofs (maxSteps:=1000000) (disch:=omega) only [push_cast,simprocAttr,k3',k4',↓gd]
 refine ((lkEnd_self hXB (hx3.app _) (hs3.app _)).as (by simp [eV,enV,enC])).to ?_
 simp -implicitDefEqProofs (maxSteps:=1000000) (disch:=omega) only [push_cast,simprocAttr,k3',k4',↓gd]
 refine ((sEndOk_at hB (hat3.app _)).as (by simp [eV,enV,enC])).to ?_
 cases hE:endOk e
 ·simp -implicitDefEqProofs (maxSteps:=1000000) (disch:=omega) only [push_cast,simprocAttr,k3',k4',↓gd]
  refine ((lkEnd_self hXB (hx3.app _) (hs3.app _)).as (by simp [eV,enV,enC])).to ?_
  simp -implicitDefEqProofs (maxSteps:=1000000) (disch:=omega) only [push_cast,simprocAttr,↓gd]
  exact ⟨_,_,Wk.refl _ _ _,rfl⟩
 clear hspec hEW
 obtain ⟨fs,hs⟩:=said hE hw.hl hx
 have hob:=hs.bytes
 have hW:=endOk_iff.1 hE
 have hfl:=flowOk_iff.1 hW.flow
 have hsl:=strsC_len e.strs
 have hel:=hB.len
 have hwl:=hB.wait
 have hfw:=frmsC_len e.wait
 obtain ⟨ws,ns,hfs,hbad,hgood⟩:∃ws ns,fs=ws++ns∧(e.bad=true→fs=[])∧(e.bad=false→ws=e.wait∧ns=newF e∧WrS e x ns):=by
  cases hb:e.bad with
  | true=>exact ⟨[],[],(hs.bad hb).1,fun _=>(hs.bad hb).1,(fun z=>by cases z)⟩
  | false=>exact ⟨_,_,(hs.good hb).2.1,(fun z=>by cases z),fun _=>⟨rfl,rfl,(hs.good hb).1⟩⟩
 have hshort:=hs.short
 rw [hob] at hshort
 have hbl:=bytes_len fs
 have hxl:=hs.len
 have hbod:=(ok_body hs.ok).1
 have hnsb:∀f ∈ ns,f.body.length≤1000:=fun f hf=>hbod f (by rw [hfs]; exact List.mem_append_right _ hf)
 have hnsl:ns.length≤fs.length:=by rw [hfs,List.length_append]; omega
 have hdl:∀(i:Int) (k:Nat),dat i (ns.take k)≤1000000000:=fun i k=>by
  have:=dat_le i (ns.take k) (fun f hf=>hnsb f (List.mem_of_mem_take hf))
  rw [List.length_take] at this
  omega
 have hokf:=hs.ok
 clear hs
 simp -implicitDefEqProofs (maxSteps:=1000000) (disch:=omega) only [push_cast,simprocAttr,↓gd]
 refine wpV_loop (fun m t S'=>∃n:Nat,m=fs.length - n∧n≤fs.length∧t 3=.ptr S1.length 0∧t 6=.ptr S3.length 0∧t 7=.str (bytes (fs.drop n))∧t 8=.int .i64 ((dat 0 (ns.take (n - e.wait.length)):Nat):Int)∧t 9=.heap (S3.length+1) 8∧t 10=.int .i64 n ∧
  S'[S1.length]?=some (.cells 0 (enC (.heap b e.strs.length) (.heap c e.wait.length) e))∧EnAt S' b c e∧S'[S3.length]?=some (.cells 0 (enC (.heap b3 x.strs.length) (.heap c3 x.wait.length) x))∧S'[S3.length+1]?=some (.cells 1 (sntC (ns.take (n - e.wait.length))))) fs.length ⟨0,by omega,by omega,rfl,rfl,by rw [hob]; rfl,by rw [Nat.zero_sub]; rfl,rfl,rfl,?_,?_,?_,?_⟩ ?_
 ·simp -implicitDefEqProofs (maxSteps:=1000000) (disch:=omega) only [push_cast,simprocAttr,k3',↓gd]
 ·exact hat3.app _
 ·simp -implicitDefEqProofs (maxSteps:=1000000) (disch:=omega) only [push_cast,simprocAttr,↓gd]
 ·rw [Nat.zero_sub]
  simp -implicitDefEqProofs (maxSteps:=1000000) (disch:=omega) only [push_cast,simprocAttr,↓gd]
  rfl
 rintro m t S' ⟨n,rfl,hn,h3,h6,h7,h8,h9,h10,k3,hat,k6,ks⟩
 refine wpV_of hDs (fun _=>false) (fun id=>if id=13 then [18,18,18,18,18,18,18,18,18,18,18,18,18,18,18,18,18,18] else if id=17 then [13,13,13,13,13,13,13,13,13,13,13,13,13,14] else []) (by kernel_rfl) ?_
 have lk3:=lt_of_some k3
 have lk6:=lt_of_some k6
 have lks:=lt_of_some ks
 have lkc:=lt_of_some hat.2
 by_cases hnl:n < fs.length
 ·obtain ⟨g1,g2,g3,g4⟩:=bytes_at hokf hnl
  have hle:=bytes_le (fs:=fs) (n:=n)
  have hfo:frameOk (fs.getD n Go.Proofs.YtdplmibomopkcaaGreat.fr0)=true:=hokf _ (getD_memF hnl)
  have hFR:=fun T=>FrameRead_ok (bytes (fs.drop n)) (by omega) T
  rw [g1] at hFR
  have hbd:e.bad=false:=by cases q:e.bad with
   | false=>rfl
   | true=>rw [hbad q] at hnl; simp at hnl
  obtain ⟨hws,hns,hwr⟩:=hgood hbd
  rw [hws] at hfs
  generalize bytes (fs.drop n)=B at *
  generalize hB2:bytes (fs.drop (n+1))=B2 at *
  have hused:((4+(fs.getD n Go.Proofs.YtdplmibomopkcaaGreat.fr0).body.length:Nat):Int)≤B.length:=by omega
  have hd1:=hdl 0 (n - e.wait.length)
  by_cases hnw:n < e.wait.length
  ·have hfe:fs.getD n Go.Proofs.YtdplmibomopkcaaGreat.fr0=e.wait.getD n Go.Proofs.YtdplmibomopkcaaGreat.fr0:=by rw [hfs,getD_app_left hnw]
   have hfat:=frmsC_at hnw
   rw [←hfe] at hfat
   have hfr:=hat.2
   have e1:ns.take (n+1 - e.wait.length)=ns.take (n - e.wait.length):=by rw [show n+1 - e.wait.length=0 by omega,show n - e.wait.length=0 by omega]
   have hnw':(n:Int) < e.wait.length:=by omega
   have hnw2:¬(n:Int) ≥ e.wait.length:=by omega
   generalize fs.getD n Go.Proofs.YtdplmibomopkcaaGreat.fr0=f at *
   simp -implicitDefEqProofs (maxSteps:=1000000) (disch:=omega) only [push_cast,simprocAttr,h3,h6,h7,h8,h9,h10,g3,↓gd]
   refine ((hFR _).as rfl).to ?_
   have g2':B.drop ((4:Int)+f.body.length).toNat=B2:=by rw [show ((4:Int)+f.body.length).toNat=4+f.body.length by omega]; exact g2
   have hfw:=frmsC_len e.wait
   simp -implicitDefEqProofs (maxSteps:=1000000) (disch:=omega) only [push_cast,simprocAttr,h3,h6,h7,h8,h9,h10,k3,hnw',hnw2,hfr,hfat,hused,decide_true,Bool.and_self,↓gd]
   repeat refine And.intro (by omega) ?_
   exact ⟨fs.length - (n+1),by omega,n+1,rfl,by omega,by rw [List.take_length,g2',←hB2],by rw [e1],by simp,hat.app _,by rw [e1]⟩
  ·have hge:e.wait.length≤n:=by omega
   have hfe:fs.getD n Go.Proofs.YtdplmibomopkcaaGreat.fr0=ns.getD (n - e.wait.length) Go.Proofs.YtdplmibomopkcaaGreat.fr0:=by rw [hfs,getD_app_right hge]
   have hnn:n - e.wait.length < ns.length:=by rw [hfs,List.length_append] at hnl; omega
   have e1:ns.take (n+1 - e.wait.length)=ns.take (n - e.wait.length)++[fs.getD n Go.Proofs.YtdplmibomopkcaaGreat.fr0]:=by rw [hfe,show n+1 - e.wait.length=(n - e.wait.length)+1 by omega,take_succ_fr hnn]
   have hnw':¬(n:Int) < e.wait.length:=by omega
   have hnw2:(n:Int) ≥ e.wait.length:=by omega
   have hbf:=hbod _ (getD_memF hnl)
   have hdd:=fun i=>hdl i (n - e.wait.length)
   generalize fs.getD n Go.Proofs.YtdplmibomopkcaaGreat.fr0=f at *
   generalize ns.take (n - e.wait.length)=A at *
   have g2':B.drop ((4:Int)+f.body.length).toNat=B2:=by rw [show ((4:Int)+f.body.length).toNat=4+f.body.length by omega]; exact g2
   simp -implicitDefEqProofs (maxSteps:=1000000) (disch:=omega) only [push_cast,simprocAttr,h3,h6,h7,h8,h9,h10,g3,↓gd]
   refine ((hFR _).as rfl).to ?_
   by_cases hk0:f.kind=0
   ·obtain ⟨j,hj8,hj0,hfst⟩:=strm8s hfo hk0
    have hsg:=snt_get A hj8 hj0
    have hsp:=snt_put A hj8 hj0 hfst hk0
    have hd0:=hdd 0
    have hdj:=hdd j
    have hsl8:=snt_len A
    have j1:j * 1=j:=Nat.mul_one j
    have hj8':(j:Int) < 8:=by omega
    have hjp:0≤(j:Int):=by omega
    have hne1:S1.length≠S3.length+1:=cells_ne k3 ks (by decide)
    have hnb:=cells_ne hat.1 ks (by decide)
    have hnc:=cells_ne hat.2 ks (by decide)
    simp -implicitDefEqProofs (maxSteps:=1000000) (disch:=omega) only [push_cast,simprocAttr,h3,h6,h7,h8,h9,h10,k3,hnw',hnw2,hk0,hfst,hj8',hjp,j1,ks,hsg,hsp,hused,↓gd]
    repeat refine And.intro (by omega) ?_
    exact ⟨fs.length - (n+1),by omega,n+1,rfl,by omega,by rw [List.take_length,g2',←hB2],by rw [e1,dat_snoc0 A hk0]; simp,by simp,(hat.set _ hnb hnc).app _,k6,by rw [e1]⟩
   ·simp -implicitDefEqProofs (maxSteps:=1000000) (disch:=omega) only [push_cast,simprocAttr,h3,h6,h7,h8,h9,h10,k3,hnw',hnw2,hk0,hused,↓gd]
    repeat refine And.intro (by omega) ?_
    exact ⟨fs.length - (n+1),by omega,n+1,rfl,by omega,by rw [List.take_length,g2',←hB2],by rw [e1,dat_snocN 0 A hk0],by simp,hat.app _,by rw [e1,snt_same A hk0]⟩
 ·have:n=fs.length:=by omega
  subst this
  have hnt:ns.take (fs.length - e.wait.length)=ns:=by
   cases q:e.bad with
   | true =>
    have h1:=hbad q
    rw [h1] at hfs
    rw [(List.append_eq_nil_iff.1 hfs.symm).2]; simp
   | false =>
    obtain ⟨a,_,_⟩:=hgood q
    rw [hfs,a,List.length_append,Nat.add_sub_cancel_left,List.take_length]
  rw [hnt] at h8 ks
  rw [bytes_end] at h7
  have hns0:e.bad=true→ns=[]:=fun q=>by
   have h1:=hbad q
   rw [h1] at hfs
   exact (List.append_eq_nil_iff.1 hfs.symm).2
  have hown:∀i,i < e.strs.length→((dat (stAt e i).id ns:Nat):Int)≤(stAt e i).send:=fun i hi=>by
   cases q:e.bad with
   | true=>rw [hns0 q]; exact (flowOk_iff.1 (stOk_iff.1 (hW.st hi)).2.2.2.2.2.2.2).1
   | false=>obtain ⟨_,h2,h3⟩:=hgood q; rw [h2]; exact (h2 ▸ h3).own i hi
  have hall:((dat 0 ns:Nat):Int)≤e.send:=by
   cases q:e.bad with
   | true=>rw [hns0 q]; exact hfl.1
   | false=>obtain ⟨_,_,h3⟩:=hgood q; have:=h3.all; have:=h3.low; omega
  simp -implicitDefEqProofs (maxSteps:=1000000) (disch:=omega) only [push_cast,simprocAttr,h3,h6,h7,h8,h9,h10,↓gd]
  refine wpV_loop (fun m t S''=>∃i:Nat,m=e.strs.length - i∧i≤e.strs.length∧t 3=.ptr S1.length 0∧t 6=.ptr S3.length 0∧t 8=.int .i64 ((dat 0 ns:Nat):Int)∧t 9=.heap (S3.length+1) 8∧t 10=.int .i64 fs.length∧t 14=.int .i64 i∧S''=S') e.strs.length ⟨0,by omega,by omega,by simp -implicitDefEqProofs (maxSteps:=1000000) (disch:=omega) only [push_cast,simprocAttr,h3,↓gd],by simp -implicitDefEqProofs (maxSteps:=1000000) (disch:=omega) only [push_cast,simprocAttr,h6,↓gd],by simp -implicitDefEqProofs (maxSteps:=1000000) (disch:=omega) only [push_cast,simprocAttr,h8,↓gd],by simp -implicitDefEqProofs (maxSteps:=1000000) (disch:=omega) only [push_cast,simprocAttr,h9,↓gd],by simp -implicitDefEqProofs (maxSteps:=1000000) (disch:=omega) only [push_cast,simprocAttr,h10,↓gd],rfl,rfl⟩ ?_
  rintro m t S'' ⟨i,rfl,hi,h3,h6,h8,h9,h10,h14,rfl⟩
  refine wpV_of hDs (fun _=>false) (fun id=>if id=23 then [17,17,17,17,17,17,17,17,17,17,17,17,17,17,17,17,17] else []) (by kernel_rfl) ?_
  by_cases hil:i < e.strs.length
  ·have hil':(i:Int) < e.strs.length:=by omega
   have c0:=strsC_get hil (c:=0) (by decide)
   have c10:=strsC_get hil (c:=10) (by decide)
   have hb:=hat.1
   have hidk:=(stOk_iff.1 (hW.st hil)).1
   have ho:=hown i hil
   obtain ⟨j,hj0,hj8,hj⟩:∃j:Nat,0 < j∧j < 8∧(stAt e i).id=j:=by
    simp [strmOk] at hidk
    exact ⟨(stAt e i).id.toNat,by omega,by omega,by omega⟩
   have hx:e.strs.getD i st0=stAt e i:=rfl
   simp only [strC,Nat.add_zero,hx] at c0 c10
   rw [hj] at ho
   generalize stAt e i=q at *
   have hsg:=snt_get ns hj8 hj0
   have hcmp:¬((dat (j:Int) ns:Nat):Int) > q.send:=by omega
   have j1:j * 1=j:=Nat.mul_one j
   have hj8':(j:Int) < 8:=by omega
   have hjp:0≤(j:Int):=by omega
   simp -implicitDefEqProofs (maxSteps:=1000000) (disch:=omega) only [push_cast,simprocAttr,h3,h6,h8,h9,h10,h14,hil',k3,hb,c0,c10,hj,hj8',hjp,j1,ks,hsg,hcmp,↓gd]
   repeat refine And.intro (by omega) ?_
   exact ⟨e.strs.length - (i+1),by omega,i+1,rfl,by omega,by simp⟩
  ·have:i=e.strs.length:=by omega
   subst this
   have hil':¬((e.strs.length:Nat):Int) < e.strs.length:=by omega
   cases hbd:e.bad
   ·obtain ⟨hws,hns,hwr⟩:=hgood hbd
    have w1:=hwr.all
    have w2:=hwr.wait
    have hge:(fs.length:Int) ≥ e.wait.length:=by rw [hfs,hws,List.length_append]; omega
    simp -implicitDefEqProofs (maxSteps:=1000000) (disch:=omega) only [push_cast,simprocAttr,h3,h6,h8,h9,h10,h14,hil',k3,k6,hall,hbd,hge,w1,w2,decide_true,↓gd]
    repeat refine And.intro (by omega) ?_
    exact ⟨_,_,Wk.refl _ _ _,rfl⟩
   ·simp -implicitDefEqProofs (maxSteps:=1000000) (disch:=omega) only [push_cast,simprocAttr,h3,h6,h8,h9,h10,h14,hil',k3,hall,hbd,decide_true,↓gd]
    exact ⟨_,_,Wk.refl _ _ _,rfl⟩
end
end Go.Proofs.YtdplmibomopkcaaGreat
