/- A part of the proof: contracts of functions, or plain facts on which these lean. -/
import Derived.Test.YtldogccmhncnoaaMp14
import Derived.Test.YtldogccmhncnoaaMp16
import Derived.Test.YtldogccmhncnoaaMp19
namespace Go.Proofs.Ytldogccmhncnoaa
open Go
set_option linter.unusedVariables false
set_option linter.unusedSimpArgs false
set_option maxRecDepth 100000
set_option maxHeartbeats 16000000

section
open Go
def leafB:V→Bool
 | .int _ _=>true
 | .bool _=>true
 | .str _=>true
 | _=>false
theorem leafB_bare {v:V} (h:leafB v=true):Bare v:=by
 cases v <;> first | exact .int _ _ | exact .bool _ | exact .str _ | cases h
def stillB:Blk→Blk
 | .cells sz cs=>if cs.all leafB then .cells sz cs else .dead
 | _=>.dead
def hsh1 (n:Nat):V→V
 | .heap p k=>.heap (n+p) k
 | v=>v
def hsh2 (n:Nat):V→V
 | .agg cs=>.agg (cs.map (hsh1 n))
 | v=>v
def hsh3 (n:Nat):V→V
 | .tup cs=>.tup (cs.map fun v=>hsh1 n (hsh2 n v))
 | v=>v
inductive Lf1:V→Prop
 | int (k:IntKind) (n:Int):Lf1 (.int k n)
 | bool (b:Bool):Lf1 (.bool b)
 | str (s:List UInt8):Lf1 (.str s)
 | heap (p k:Nat):Lf1 (.heap p k)
 | none:Lf1 (.rows none [])
 | nils:Lf1 .nils
inductive Lf2:V→Prop
 | one {v:V}:Lf1 v→Lf2 v
 | agg {cs:List V}:(∀v ∈ cs,Lf1 v)→Lf2 (.agg cs)
inductive Lf3:V→Prop
 | tup {cs:List V}:(∀v ∈ cs,Lf2 v)→Lf3 (.tup cs)
def mrg (G G1:Gh) (s:Nat):Gh :=
 { n:=G.n+G1.n,ok:=fun j=>if j < G.n then G.ok j else G1.ok (j - G.n),blk:=fun j=>if j < G.n then G.blk j else G1.blk (j - G.n),fin:=fun j=>if j < G.n then G.fin j else G1.fin (j - G.n),lim:=fun j=>if j < G.n then G.lim j else G1.lim (j - G.n),sz:=fun j=>if j < G.n then G.sz j else G1.sz (j - G.n),p:=fun b=>if b < s then G.p b else G1.p b }
theorem mrg_lo {G G1:Gh} {s j:Nat} (h:j < G.n):(mrg G G1 s).ok j=G.ok j∧(mrg G G1 s).blk j=G.blk j∧(mrg G G1 s).fin j=G.fin j∧(mrg G G1 s).lim j=G.lim j∧(mrg G G1 s).sz j=G.sz j:=by
 simp [mrg,h]
theorem mrg_hi {G G1:Gh} {s j:Nat} (h:G.n≤j):(mrg G G1 s).ok j=G1.ok (j - G.n)∧(mrg G G1 s).blk j=G1.blk (j - G.n)∧(mrg G G1 s).fin j=G1.fin (j - G.n)∧(mrg G G1 s).lim j=G1.lim (j - G.n)∧(mrg G G1 s).sz j=G1.sz (j - G.n):=by
 have:¬j < G.n:=by omega
 simp [mrg,this]
theorem lf1_vr {G G1:Gh} {s:Nat} {w:World} {v:V} {c:Value} (h:Lf1 v) (hv:VR G1 w v c):VR (mrg G G1 s) w (hsh1 G.n v) c:=by
 cases h with
 | int k n=>cases hv; exact .int _ _
 | bool b=>cases hv; exact .bool _
 | str s=>cases hv; exact .str _
 | nils=>cases hv; exact .nils
 | none =>
  cases hv with
  | rowsNil h=>exact .rowsNil (fun τ hτ=>by cases hτ)
  | rowsE=>exact .rowsE
  | rows vs h1 h2 h3 h4 h5 h6 h7=>exact .rowsE
 | heap p k =>
  cases hv with
  | heapNil h0=>exact .heapNil (by simp only [mrg]; omega)
  | heap h0 h1 h2 h3 =>
   obtain ⟨a1,a2,a3,a4,a5⟩:=mrg_hi (G:=G) (G1:=G1) (s:=s) (j:=G.n+p) (by omega)
   have hs:G.n+p - G.n=p:=by omega
   rw [hs] at a1 a2 a4 a5
   have:=VR.heap (G:=mrg G G1 s) (w:=w) (blk:=G.n+p) (by simp only [mrg]; omega) (by rw [a1]; exact h1) h2 (by rw [a4,a5]; exact h3)
   rw [a2] at this
   exact this
theorem lf1_h2 {n:Nat} {v:V} (h:Lf1 v):hsh2 n v=v:=by cases h <;> rfl
theorem lf2_vr {G G1:Gh} {s:Nat} {w:World} {v:V} {c:Value} (h:Lf2 v) (hv:VR G1 w v c):VR (mrg G G1 s) w (hsh1 G.n (hsh2 G.n v)) c:=by
 cases h with
 | one h=>rw [lf1_h2 h]; exact lf1_vr h hv
 | @agg cs h =>
  cases hv with
  | agg hl hv ho =>
   refine .agg (by simpa using hl) (fun i a u ha hu=>?_) ho
   rw [List.getElem?_map] at ha
   cases hc:cs[i]? with
   | none=>rw [hc] at ha; cases ha
   | some x =>
    rw [hc] at ha
    cases ha
    exact lf1_vr (h x (List.mem_of_getElem? hc)) (hv i x u hc hu)
theorem lf3_vr {G G1:Gh} {s:Nat} {w:World} {v:V} {c:Value} (h:Lf3 v) (hv:VR G1 w v c):VR (mrg G G1 s) w (hsh3 G.n v) c:=by
 cases h with
 | @tup cs h =>
  cases hv with
  | tup hl hv =>
   refine .tup (by simpa using hl) (fun i a u ha hu=>?_)
   rw [List.getElem?_map] at ha
   cases hc:cs[i]? with
   | none=>rw [hc] at ha; cases ha
   | some x =>
    rw [hc] at ha
    cases ha
    exact lf2_vr (h x (List.mem_of_getElem? hc)) (hv i x u hc hu)
theorem stillB_live {B C:Blk} (h:stillB B=C) (hl:C.live=true):B=C∧∃sz cs,C=.cells sz cs∧cs.all leafB=true:=by
 cases B with
 | cells sz cs =>
  by_cases hc:cs.all leafB=true
  ·simp only [stillB,hc,if_true] at h
   exact ⟨h,sz,cs,h.symm,hc⟩
  ·simp only [stillB,if_neg hc] at h
   subst h; cases hl
 | right sz=>subst h; cases hl
 | dead=>subst h; cases hl
theorem lend_rel {G G1:Gh} {w w':World} {S S1:List Blk} (hR:Rel G w S) (hE:Evol (allFrozen G w) w [] G1 w' S1) (h1:Rel G1 w' S1) :
  Rel (mrg G G1 w.heap.size) w' (S++S1.map stillB)∧Evol G w S (mrg G G1 w.heap.size) w' (S++S1.map stillB):=by
 have hno:∀b,¬Owns (allFrozen G w) [] b:=by rintro b ⟨j,B,h,_⟩; simp at h
 have hheap:∀b,b < w.heap.size→w'.heap[b]?=w.heap[b]?:=fun b hb=>hE.other b hb (hno b)
 have hn:=hR.n
 have hgt:∀j B,S1[j]?=some B→B.live=true→G1.ok j=true→w.heap.size≤G1.blk j:=fun j B hj hl hk=>by
  rcases Nat.lt_or_ge (G1.blk j) w.heap.size with g | g
  ·exact absurd (hE.own _ g ⟨j,B,hj,hl,hk,rfl⟩) (hno _)
  ·exact g
 have hlo:∀b,b < w.heap.size→(mrg G G1 w.heap.size).p b=G.p b:=fun b hb=>by simp [mrg,hb]
 have hhi:∀b,w.heap.size≤b→(mrg G G1 w.heap.size).p b=G1.p b:=fun b hb=>by
  have:¬b < w.heap.size:=by omega
  simp [mrg,this]
 have hext:Ext G w (mrg G G1 w.heap.size) w':=by
  refine ⟨Nat.le_add_right _ _,fun j hj=>mrg_lo hj,fun b=>?_,fun b o ho=>?_⟩
  ·rcases Nat.lt_or_ge b w.heap.size with g | g
   ·rw [hlo b g]; exact Nat.le_refl _
   ·rw [hR.fresh b g]; omega
  ·refine cell_same (hheap b ?_) o
   rcases Nat.lt_or_ge b w.heap.size with g | g
   ·exact g
   ·rw [hR.fresh b g] at ho; exact absurd ho (Nat.not_lt_zero _)
 have hget:∀j C,(S++S1.map stillB)[j]?=some C→C.live=true→(j < G.n∧S[j]?=some C)∨(G.n≤j∧S1[j - G.n]?=some C∧∃sz cs,C=.cells sz cs∧cs.all leafB=true):=by
  intro j C hj hl
  rcases Nat.lt_or_ge j S.length with g | g
  ·rw [List.getElem?_append_left g] at hj
   exact .inl ⟨by omega,hj⟩
  ·rw [List.getElem?_append_right g,List.getElem?_map] at hj
   cases hc:S1[j - S.length]? with
   | none=>rw [hc] at hj; cases hj
   | some B =>
    rw [hc] at hj
    obtain ⟨rfl,h⟩:=stillB_live (Option.some.inj hj) hl
    exact .inr ⟨by omega,by rw [hn]; exact hc,h⟩
 refine ⟨⟨by simp [mrg,hn,h1.n],fun b hb=>?_,fun j B hj hl hk=>?_,fun j B hj hl hk=>?_,fun j sz cs hj hk=>?_,fun i j B C hi hj hB hC hki hkj he=>?_⟩,⟨hext,hE.size,hE.os,hE.tape,hE.output,fun b hb _=>hheap b hb,fun b hb ho=>?_,fun b hb _=>hlo b hb⟩⟩
 ·rw [hhi b (Nat.le_trans hE.size hb)]; exact h1.fresh b hb
 ·rcases hget j B hj hl with ⟨g,q⟩ | ⟨g,q,_⟩
  ·rw [(mrg_lo g).1] at hk
   rw [(mrg_lo g).2.1]
   exact Nat.lt_of_lt_of_le (hR.lt j B q hl hk) hE.size
  ·rw [(mrg_hi g).1] at hk
   rw [(mrg_hi g).2.1]
   exact h1.lt _ B q hl hk
 ·rcases hget j B hj hl with ⟨g,q⟩ | ⟨g,q,sz,cs,rfl,hb⟩
  ·rw [(mrg_lo g).1] at hk
   have hlt:=hR.lt j B q hl hk
   exact (hR.live j B q hl hk).keep hext g (hlo _ hlt) (hheap _ hlt)
  ·obtain ⟨a1,a2,a3,a4,a5⟩:=mrg_hi (G:=G) (G1:=G1) (s:=w.heap.size) g
   rw [a1] at hk
   obtain ⟨arr,ty,f1,f2,f3,f4,f5,f6⟩:=h1.live _ _ q rfl hk
   refine ⟨arr,ty,by rw [a2]; exact f1,by rw [a2,hhi _ (hgt _ _ q rfl hk)]; exact f2,by rw [a4]; exact f3,f4,by rw [a5]; exact f5,fun i v u hv hu=>?_⟩
   obtain ⟨g1,g2⟩:=f6 i v u hv hu
   exact ⟨Bare.vr g1 (leafB_bare (List.all_eq_true.1 hb v (List.mem_of_getElem? hv))),g2⟩
 ·rcases hget j _ hj rfl with ⟨g,q⟩ | ⟨g,q,_⟩
  ·rw [(mrg_lo g).1] at hk
   exact hR.vac j sz cs q hk
  ·rw [(mrg_hi g).1] at hk
   exact h1.vac _ sz cs q hk
 ·rcases hget i B hi hB with ⟨gi,qi⟩ | ⟨gi,qi,_⟩ <;> rcases hget j C hj hC with ⟨gj,qj⟩ | ⟨gj,qj,_⟩
  ·rw [(mrg_lo gi).1] at hki
   rw [(mrg_lo gj).1] at hkj
   rw [(mrg_lo gi).2.1,(mrg_lo gj).2.1] at he
   exact hR.inj i j B C qi qj hB hC hki hkj he
  ·rw [(mrg_lo gi).1] at hki
   rw [(mrg_hi gj).1] at hkj
   rw [(mrg_lo gi).2.1,(mrg_hi gj).2.1] at he
   have:=hR.lt i B qi hB hki
   have:=hgt _ C qj hC hkj
   omega
  ·rw [(mrg_hi gi).1] at hki
   rw [(mrg_lo gj).1] at hkj
   rw [(mrg_hi gi).2.1,(mrg_lo gj).2.1] at he
   have:=hR.lt j C qj hC hkj
   have:=hgt _ B qi hB hki
   omega
  ·rw [(mrg_hi gi).1] at hki
   rw [(mrg_hi gj).1] at hkj
   rw [(mrg_hi gi).2.1,(mrg_hi gj).2.1] at he
   have:=h1.inj _ _ B C qi qj hB hC hki hkj he
   omega
 ·obtain ⟨j,B,hj,hl,hk,he⟩:=ho
  rcases hget j B hj hl with ⟨g,q⟩ | ⟨g,q,_⟩
  ·rw [(mrg_lo g).1] at hk
   rw [(mrg_lo g).2.1] at he
   exact ⟨j,B,q,hl,hk,he⟩
  ·rw [(mrg_hi g).1] at hk
   rw [(mrg_hi g).2.1] at he
   have:=hgt _ B q hl hk
   omega
theorem VCall.lend {P:Program} {f:FuncId} {xs ys:List V} {S:List Blk} {Q:V→List Blk→Prop} (hf:Enters P f) (h:VCall P f xs [] Q) (hx:∀r S',Q r S'→Lf3 r) (hb:BorM S xs ys) :
  VCall P f ys S fun r S'=>∃r1 S1,Q r1 S1∧r=hsh3 S.length r1∧S'=S++S1.map stillB:=by
 rcases h with ⟨_,r,S1,hq,hd⟩ | ⟨r,hq,hd⟩
 ·refine .inl ⟨hf,hsh3 S.length r,S++S1.map stillB,⟨r,S1,hq,rfl,rfl⟩,fun G w cargs hA hR=>?_⟩
  have hA0:=hb.all hR hA
  refine Calls.mono (hd _ w cargs hA0 (rel_none hR)) ?_
  rintro e w' ⟨c,G',rfl,hv,hR',hE⟩
  obtain ⟨h1,h2⟩:=lend_rel hR hE hR'
  have:=lf3_vr (G:=G) (s:=w.heap.size) (hx r S1 hq) hv
  rw [hR.n] at this
  exact ⟨c,_,rfl,this,h1,h2⟩
 ·exact .inl ⟨hf,hsh3 S.length r,S,⟨r,[],hq,rfl,by simp⟩,fun G w cargs hA hR=>by
   have hA0:=hb.all hR hA
   obtain ⟨c,hc,_⟩:=hd _ w cargs hA0
   exact absurd hc (xcall_no hf cargs w c)⟩
end
section
open Go
def hrX (max:Int):Option (List Fd × List Fd)→List Fd × Int × List Fd × Bool
 | none=>([],0,[],false)
 | some (l,h)=>(l,max,h,true)
theorem hrV_X (max:Int) (o:Option (List Fd × List Fd)):hrV max o=.tup [tV (hrX max o).1 (hrX max o).2.1,.rows none ((hrX max o).2.2.1.map fV),.bool (hrX max o).2.2.2]:=by
 cases o <;> rfl
def fbOf:V→List Nat
 | .heap p _=>[p]
 | _=>[]
structure FO (n:Nat) (l:List Fd) (v:V) (S:List Blk):Prop where
 len:l.length≤2000000
 own:(l=[]∧v=.rows none [])∨∃p,n≤p∧v=.heap p l.length∧S[p]?=some (.cells 3 (fcs l))
def HrO (S:List Blk) (x:List Fd × Int × List Fd × Bool) (r:V) (S':List Blk):Prop :=
 Upd [] S S'∧x.1.length≤30∧x.2.2.1.length≤6∧∃v0 v1,r=.tup [.agg [v0,.int .i64 x.2.1],v1,.bool x.2.2.2]∧FO S.length x.1 v0 S'∧FO S.length x.2.2.1 v1 S'∧∀p ∈ fbOf v0,p ∉ fbOf v1
theorem upd_setN {S S2:List Blk} {i:Nat} {B:Blk} (h:Upd [] S S2) (hi:S.length≤i):Upd [] S (S2.set i B) :=
 ⟨by simpa using h.1,fun j hj hn=>by rw [List.getElem?_set_ne (by omega)]; exact h.2 j hj hn⟩
theorem finO {S X:List Blk} {v:V} {max:Int} {x:Option (List Fd × List Fd)} (hx:x=none) (h:eraseT v=.tup [.agg [.rows none [],.int .i64 0],.rows none [],.bool false]):∃r S2,Wk S v (S++X) r S2∧HrO S (hrX max x) r S2:=by
 obtain ⟨r,S2,hw,rfl,rfl⟩:=finE (S:=S) (X:=X) (v:=v) (by rw [h]; exact Cl.three (cl_tab _ [] 0) (cl_fds _ []) (.bool _)) h
 subst hx
 exact ⟨_,_,hw,Upd.refl _ _,by simp [hrX],by simp [hrX],_,_,rfl,⟨by simp [hrX],.inl ⟨rfl,rfl⟩⟩,⟨by simp [hrX],.inl ⟨rfl,rfl⟩⟩,fun p hp=>by simp [fbOf] at hp⟩
theorem HeadRead_O (l:List Fd) (max:Int) (b:List UInt8) (hl:FdsB l) (hb:b.length≤1000000000) (S:List Blk) :
  VCall Try.prog 7 [tV l max,.str b] S fun r S'=>HrO S (hrX max (hrM l max b)) r S':=by
 have hlen:=hl.1
 refine VCall.en hDf Try.func7 Try.ntmps7 Try.results7 ?_
 simp -implicitDefEqProofs (disch:=omega) only [push_cast,simprocAttr,↓gd]
 refine (TableOk_ok l max hl _).to ?_
 cases ht:tableOk l max
 ·simp -implicitDefEqProofs (disch:=omega) only [push_cast,simprocAttr,↓gd]
  exact finO (by rw [hrM,if_neg (by simp [ht])]) rfl
 obtain ⟨ht1,ht2,ht3,ht4,ht5⟩:=tableOk_parts ht
 by_cases h250:b.length≤250
 ·have h250':¬(b.length:Int) > 250:=by omega
  have hM:hrM l max b=headR b.length l max b 0:=by rw [hrM,if_pos ⟨ht,h250⟩]
  simp -implicitDefEqProofs (disch:=omega) only [push_cast,simprocAttr,h250',↓gd]
  refine wpV_loop (fun m t S'=>∃(w h:List Fd) (d:List UInt8) (X:List Blk),m=d.length∧d.length≤250∧FdsB w∧w.length≤16+h.length∧h.length≤6∧(headR b.length l max b 0=(headR d.length w max d h.length).map (fun x=>(x.1,h++x.2)))∧t 1=.str d∧t 2=.ptr S.length 0∧t 4=.ptr (S.length+1) 0 ∧
    ((t 7=.nils∧h=[])∨∃τ,X[τ]?=some (.cells 3 (fcs h))∧t 7=.heap (S.length+(τ+2)) h.length)∧S'=S++([.cells 0 [.rows none (w.map fV),.int .i64 max],.cells 0 [.nils,.int .i64 0]]++X)) b.length
   ⟨l,[],b,[],rfl,h250,hl,by simp; omega,by simp,?_,rfl,rfl,rfl,.inl ⟨rfl,rfl⟩,rfl⟩ ?_
  ·cases headR b.length l max b 0 <;> rfl
  rintro m t S' ⟨w,h,d,X,rfl,hd,hw,hwl,hh6,hrun,h1,h2,h4,h7,rfl⟩
  refine wpV_of0 hDf ?_
  by_cases hdn:d=[]
  ·subst hdn
   have hres:hrM l max b=some (w,h):=by rw [hM,hrun,headR_nil]; simp
   rcases h7 with ⟨h7,rfl⟩ | ⟨τ,hX,h7⟩
   ·simp -implicitDefEqProofs (disch:=omega) only [push_cast,simprocAttr,h1,h2,h4,h7,↓gd]
    refine ((tclone_O w max hw .rows).as (by rfl)).mono ?_
    rintro r S2 ⟨p,rfl,f1,f2,f3⟩
    have k4:=f3.get (j:=S.length+1) (B:=.cells 0 [.nils,.int .i64 0]) (by simp -implicitDefEqProofs (disch:=omega) only [push_cast,simprocAttr,↓gd]) (by simp)
    have l4:=lt_of_some k4
    simp at f2
    simp -implicitDefEqProofs (disch:=omega) only [push_cast,simprocAttr,h1,h2,h4,h7,k4,↓gd]
    rw [hres]
    exact ⟨_,_,Wk.eraseT _ _ _,upd_setN (((Upd.refl [] S).app _).trans f3) (by omega),by simp [hrX] at *; omega,by simp [hrX],.heap p w.length,.rows none [],rfl,⟨by simp [hrX]; omega,.inr ⟨p,by omega,rfl,by rw [List.getElem?_set_ne (by omega)]; exact f1⟩⟩,⟨by simp [hrX],.inl ⟨rfl,rfl⟩⟩,fun q hq=>by simp [fbOf]⟩
   ·simp -implicitDefEqProofs (disch:=omega) only [push_cast,simprocAttr,h1,h2,h4,h7,↓gd]
    refine ((tclone_O w max hw .rows).as (by rfl)).mono ?_
    rintro r S2 ⟨p,rfl,f1,f2,f3⟩
    have k4:=f3.get (j:=S.length+1) (B:=.cells 0 [.nils,.int .i64 0]) (by simp -implicitDefEqProofs (disch:=omega) only [push_cast,simprocAttr,↓gd]) (by simp)
    have hq:=f3.get (j:=S.length+(τ+2)) (B:=.cells 3 (fcs h)) (by simp -implicitDefEqProofs (disch:=omega) only [push_cast,simprocAttr,hX,↓gd]) (by simp)
    have:=lt_of_some hX
    have l4:=lt_of_some k4
    simp at f2
    simp -implicitDefEqProofs (disch:=omega) only [push_cast,simprocAttr,h1,h2,h4,h7,k4,↓gd]
    rw [hres]
    exact ⟨_,_,Wk.eraseT _ _ _,upd_setN (((Upd.refl [] S).app _).trans f3) (by omega),by simp [hrX]; omega,by simp [hrX]; omega,.heap p w.length,.heap (S.length+(τ+2)) h.length,rfl,⟨by simp [hrX]; omega,.inr ⟨p,by omega,rfl,by rw [List.getElem?_set_ne (by omega)]; exact f1⟩⟩,⟨by simp [hrX]; omega,.inr ⟨_,by omega,rfl,by rw [List.getElem?_set_ne (by omega)]; exact hq⟩⟩,fun q hq=>by simp only [fbOf,List.mem_singleton] at hq ⊢; omega⟩
  ·have hdp:0 < d.length:=List.length_pos_iff.2 hdn
   have hdne:(d=[])=False:=by simp [hdn]
   have hallb:∀f ∈ fixedFds++w,FdB f:=fun f hf=>(List.mem_append.1 hf).elim (fixed_b f) (hw.2 f)
   have hwl2:=hw.1
   simp -implicitDefEqProofs (disch:=omega) only [push_cast,simprocAttr,h1,h2,h4,hdne,↓gd]
   refine ((field_ok w max d (by omega) (by omega) hdn hallb _).as rfl).mono ?_
   rintro r S2 ⟨hr,rfl⟩
   obtain ⟨k,hk⟩:∃k,d.length=k+1:=⟨d.length - 1,by omega⟩
   have hstep:headR d.length w max d h.length=match fieldR w d with
     | none=>none
     | some (f,s,bits)=>if h.length=6 then none else (headR k (if bits=6 then fitL (f :: w) max else w) max (d.drop s) (h.length+1)).map (fun x=>(x.1,f :: x.2)):=by rw [hk,headR,if_neg hdn]; rfl
   cases hf:fieldR w d with
   | none =>
    rw [hf] at hr hstep
    have hres:hrM l max b=none:=by rw [hM,hrun,hstep]; rfl
    obtain ⟨g,s,bits,rfl⟩:=hr
    simp -implicitDefEqProofs (disch:=omega) only [push_cast,simprocAttr,h1,h2,h4,↓gd]
    exact finO hres rfl
   | some y =>
    obtain ⟨f,s,bits⟩:=y
    rw [hf] at hr hstep
    simp only at hstep
    obtain ⟨b1,b2,b3,b4⟩:=fieldR_bound (by omega) hf
    have hrr:r=.tup [fV f,.int .i64 s,.int .i64 bits,.bool true]:=hr
    subst hrr
    have hdl:(d.drop s).length=d.length - s:=List.length_drop ..
    have hds:∀z:Nat,(d.take d.length).drop s=d.drop s:=fun _=>by rw [List.take_length]
    have hds:=hds 0
    rw [headR_fuel d.length (d.drop s) (by omega) (by omega) k _ max _ (by omega)] at hstep
    have hbits:(bits:Int)=6↔bits=6:=by omega
    have hfb:FdB f:=by
     rcases b4 with ⟨_,hm⟩ | ⟨_,hk,_⟩
     ·exact hallb f hm
     ·obtain ⟨_,_,_,q1,q2⟩:=fieldOk_parts hk
      exact ⟨by omega,by omega⟩
    have hnew:FdsB (fitL (f :: w) max)∧(fitL (f :: w) max).length≤w.length+1:=by
     have hb:FdsB (f :: w):=⟨by simp; omega,fun g hg=>by
      rcases List.mem_cons.1 hg with rfl | hg
      ·exact hfb
      ·exact hw.2 g hg⟩
     exact ⟨hb.fit max,by simpa using (fitL_sub (f :: w) max).2⟩
    by_cases h6:h.length=6
    ·rw [if_pos h6] at hstep
     have hres:hrM l max b=none:=by rw [hM,hrun,hstep]; rfl
     have h6':(h.length:Int)=6:=by omega
     rcases h7 with ⟨h7,rfl⟩ | ⟨τ,hX,h7⟩
     ·simp at h6
     ·simp -implicitDefEqProofs (disch:=omega) only [push_cast,simprocAttr,h1,h2,h4,h7,h6',↓gd]
      exact finO hres rfl
    rw [if_neg h6] at hstep
    have h6':¬(h.length:Int)=6:=by omega
    by_cases hb6:bits=6
    ·rw [if_pos hb6] at hstep
     have hb6':(bits:Int)=6:=by omega
     obtain ⟨n1,n2⟩:=hnew
     rcases h7 with ⟨h7,rfl⟩ | ⟨τ,hX,h7⟩
     ·simp -implicitDefEqProofs (disch:=omega) only [push_cast,simprocAttr,h1,h2,h4,h7,hb6',↓gd]
      refine ((add_ok' w max f hw hfb (by omega) ht2 _).as rfl).to ?_
      simp -implicitDefEqProofs (disch:=omega) only [push_cast,simprocAttr,h1,h2,h4,h7,hds,↓gd]
      refine ⟨by omega,by omega,by omega,(d.drop s).length,by omega,fitL (f :: w) max,[f],d.drop s,_,rfl,by omega,n1,by simp at hwl ⊢; omega,by simp,?_,rfl,⟨X.length+2,?_,rfl⟩,rfl⟩
      ·rw [hrun,hstep,Option.map_map]; rfl
      ·rw [List.getElem?_append_right (by omega)]; simp; rfl
     ·have hX2:∀Y,(X++Y)[τ]?=some (.cells 3 (fcs h)):=fun Y=>by rw [List.getElem?_append_left (lt_of_some hX)]; exact hX
      simp -implicitDefEqProofs (disch:=omega) only [push_cast,simprocAttr,h1,h2,h4,h7,h6',hb6',↓gd]
      refine ((add_ok' w max f hw hfb (by omega) ht2 _).as rfl).to ?_
      simp -implicitDefEqProofs (disch:=omega) only [push_cast,simprocAttr,h1,h2,h4,h7,hds,hX2,↓gd]
      refine ⟨fcs_len h,by omega,by have:=lt_of_some hX; omega,by omega,by omega,by omega,(d.drop s).length,by omega,fitL (f :: w) max,h++[f],d.drop s,_,rfl,by omega,n1,by rw [List.length_append]; simp; omega,by rw [List.length_append]; simp; omega,?_,rfl,⟨X.length+2,?_,by rw [List.length_append]; rfl⟩,rfl⟩
      ·rw [hrun,hstep,Option.map_map,List.length_append]
       congr 1
       funext y
       simp
      ·rw [List.getElem?_append_right (by simp)]; simp [fcs]
    ·rw [if_neg hb6] at hstep
     have hb6':¬(bits:Int)=6:=by omega
     rcases h7 with ⟨h7,rfl⟩ | ⟨τ,hX,h7⟩
     ·simp -implicitDefEqProofs (disch:=omega) only [push_cast,simprocAttr,h1,h2,h4,h7,hb6',hds,↓gd]
      refine ⟨by omega,by omega,by omega,(d.drop s).length,by omega,w,[f],d.drop s,_,rfl,by omega,hw,by simp at hwl ⊢; omega,by simp,?_,rfl,⟨X.length+2,?_,rfl⟩,rfl⟩
      ·rw [hrun,hstep,Option.map_map]; rfl
      ·rw [List.getElem?_append_right (by omega)]; simp; rfl
     ·have hX2:∀Y,(X++Y)[τ]?=some (.cells 3 (fcs h)):=fun Y=>by rw [List.getElem?_append_left (lt_of_some hX)]; exact hX
      simp -implicitDefEqProofs (disch:=omega) only [push_cast,simprocAttr,h1,h2,h4,h7,h6',hb6',hds,hX2,↓gd]
      refine ⟨fcs_len h,by omega,by have:=lt_of_some hX; omega,by omega,by omega,by omega,(d.drop s).length,by omega,w,h++[f],d.drop s,_,rfl,by omega,hw,by rw [List.length_append]; simp; omega,by rw [List.length_append]; simp; omega,?_,rfl,⟨X.length+2,?_,by rw [List.length_append]; rfl⟩,rfl⟩
      ·rw [hrun,hstep,Option.map_map,List.length_append]
       congr 1
       funext y
       simp
      ·rw [List.getElem?_append_right (by simp)]; simp [fcs]
 ·have h250':(b.length:Int) > 250:=by omega
  simp -implicitDefEqProofs (disch:=omega) only [push_cast,simprocAttr,h250',↓gd]
  exact finO (by rw [hrM,if_neg (fun h=>h250 h.2)]) rfl
end
section
open Go
theorem upd_app {S S':List Blk} (h:Upd [] S S'):∃X,S'=S++X:=by
 refine ⟨S'.drop S.length,?_⟩
 apply List.ext_getElem?
 intro j
 rcases Nat.lt_or_ge j S.length with q | q
 ·rw [List.getElem?_append_left q]
  have h1:S[j]?=some S[j]:=List.getElem?_eq_getElem q
  rw [h1]
  exact h.get h1 (by simp)
 ·rw [List.getElem?_append_right q,List.getElem?_drop,show S.length+(j - S.length)=j by omega]
theorem dig_byte (j:Nat):UInt8.ofNat (IntKind.u8.wrap (48+Int.tmod (j:Int) 10)).toNat=UInt8.ofNat (48+j % 10):=by
 have e:Int.tmod (j:Int) 10=((j % 10:Nat):Int):=tmod_nat j 10
 rw [e,u8_fit _ (by omega)]
 congr 1
theorem markText_ok (k:Nat) (hk:k≤100000000) (S:List Blk):VCall Try.prog 23 [.int .i64 k] S fun r S'=>r=.str (mtext k)∧S'=S:=by
 refine VCall.en hD Try.func23 Try.ntmps23 Try.results23 ?_
 by_cases h0:(k:Int)≤0
 ·have:k=0:=by omega
  subst this
  simp -implicitDefEqProofs (maxSteps:=1000000) (disch:=omega) only [push_cast,simprocAttr,↓gd]
  exact fin0 (by simp [mtext])
 simp -implicitDefEqProofs (maxSteps:=1000000) (disch:=omega) only [push_cast,simprocAttr,h0,↓gd]
 refine wpV_loop (fun m t S'=>∃(o:List UInt8),m≤k∧t 0=.int .i64 m∧t 3=.str o∧mdig m++o=mdig k∧Upd [] S S') k ⟨[],Nat.le_refl _,rfl,rfl,by simp,Upd.refl _ _⟩ ?_
 rintro j t S' ⟨o,hjk,h0',h3,ho,hu⟩
 have hol:=congrArg List.length ho
 rw [List.length_append] at hol
 have hml:=mdig_len k
 have hmj:=mdig_len j
 have hdb:=dig_byte j
 refine wpV_of0 hD ?_
 by_cases hj:0 < j
 ·have hj':(j:Int) > 0:=by omega
  have hdv:Int.tdiv (j:Int) 10=((j / 10:Nat):Int):=rfl
  have htm0:0≤Int.tmod (j:Int) 10∧Int.tmod (j:Int) 10 < 10:=by
   have e:Int.tmod (j:Int) 10=((j % 10:Nat):Int):=tmod_nat j 10
   omega
  simp -implicitDefEqProofs (maxSteps:=1000000) (disch:=omega) only [push_cast,simprocAttr,h0',h3,hj',hdb,hdv,↓gd]
  repeat refine And.intro (by omega) ?_
  have e10:Int.tmod (j:Int) 10=((j % 10:Nat):Int):=tmod_nat j 10
  refine ⟨j / 10,by omega,UInt8.ofNat (48+j % 10) :: o,by omega,?_,?_,?_,hu.app _⟩
  ·rfl
  ·rw [e10,show ((48:Int)+((j % 10:Nat):Int)).toNat=48+j % 10 by omega]
  ·rw [←ho,mdig_pos hj,List.append_assoc]
   rfl
 ·have:j=0:=by omega
  subst this
  rw [mdig_zero,List.nil_append] at ho
  simp -implicitDefEqProofs (maxSteps:=1000000) (disch:=omega) only [push_cast,simprocAttr,h0',h3,↓gd]
  obtain ⟨X,rfl⟩:=upd_app hu
  have e:mtext k=109 :: mdig k:=by rw [mtext,if_neg (by omega)]
  rw [ho,e]
  exact ⟨by omega,fin1 (.str _) rfl⟩
end
section
open Go
theorem mem_getD {α:Type} (d:α) {l:List α} {i:Nat} (h:i < l.length):l.getD i d ∈ l:=by
 rw [List.getD_eq_getElem?_getD,List.getElem?_eq_getElem h]; exact List.getElem_mem h
@[push_cast] theorem all_frV_len (l:List Fr):(l.map frV).all (lenIs 4)=true:=by
 rw [List.all_eq_true]; intro v hv; obtain ⟨f,_,rfl⟩:=List.mem_map.1 hv; rfl
@[push_cast] theorem all_stV_len (l:List St):(l.map stV).all (lenIs 12)=true:=by
 rw [List.all_eq_true]; intro v hv; obtain ⟨f,_,rfl⟩:=List.mem_map.1 hv; rfl
theorem eqField_self (f:Fd) (hz:True) (S:List Blk):VCall Try.prog 22 [fV f,fV f] S fun r S'=>r=.bool true∧S'=S:=by
 refine VCall.en hD Try.func22 Try.ntmps22 Try.results22 ?_
 simp -implicitDefEqProofs (maxSteps:=1000000) (disch:=omega) only [push_cast,simprocAttr,decide_true,Bool.and_self,↓gd]
 exact fin1 (.bool _) rfl
theorem eqFieldS_self (a:List Fd) (hz:∀f ∈ a,True) (ha:a.length≤2000000) (S:List Blk):VCall Try.prog 9 [.rows none (a.map fV),.rows none (a.map fV)] S fun r S'=>r=.bool true∧S'=S:=by
 refine VCall.ex hD (fun _=>false) (fun id=>if id=6 then [8,8,8,8,8,8,8,8,10,10] else []) Try.func9 Try.ntmps9 Try.results9 ?_
 simp -implicitDefEqProofs (maxSteps:=1000000) (disch:=omega) only [push_cast,simprocAttr,↓gd]
 refine wpV_loop (fun m t S'=>∃i:Nat,m=a.length - i∧i≤a.length∧t 0=.rows none (a.map fV)∧t 1=.rows none (a.map fV)∧t 5=.int .i64 i∧S'=S) a.length ⟨0,by omega,by omega,rfl,rfl,rfl,rfl⟩ ?_
 rintro m t S' ⟨i,rfl,hi,h0,h1,h5,rfl⟩
 refine wpV_of hD (fun _=>false) (fun id=>if id=6 then [8,8,8,8,8,8,8,8,10,10] else []) (by kernel_rfl) ?_
 by_cases hil:i < a.length
 ·have hil':(i:Int) < a.length:=by omega
  have hg:=getD_fV hil
  have hzz:=hz _ (mem_getD fd0 hil)
  generalize a.getD i fd0=f at *
  simp -implicitDefEqProofs (maxSteps:=1000000) (disch:=omega) only [push_cast,simprocAttr,h0,h1,h5,hil',hg,↓gd]
  repeat refine And.intro (by omega) ?_
  refine ((eqField_self f hzz _).as (by rfl)).to ?_
  simp -implicitDefEqProofs (maxSteps:=1000000) (disch:=omega) only [push_cast,simprocAttr,h0,h1,h5,↓gd]
  exact ⟨a.length - (i+1),by omega,i+1,rfl,by omega,by simp⟩
 ·have:i=a.length:=by omega
  subst this
  have hil':¬((a.length:Nat):Int) < a.length:=by omega
  simp -implicitDefEqProofs (maxSteps:=1000000) (disch:=omega) only [push_cast,simprocAttr,h0,h1,h5,hil',↓gd]
  exact fin0 rfl
theorem eqTable_self (a:List Fd) (m:Int) (ha:a.length≤2000000) (S:List Blk):VCall Try.prog 8 [tV a m,tV a m] S fun r S'=>r=.bool true∧S'=S:=by
 refine VCall.en hD Try.func8 Try.ntmps8 Try.results8 ?_
 simp -implicitDefEqProofs (maxSteps:=1000000) (disch:=omega) only [push_cast,simprocAttr,↓gd]
 refine ((eqFieldS_self a (fun _ _=>trivial) ha _).as rfl).to ?_
 simp -implicitDefEqProofs (maxSteps:=1000000) (disch:=omega) only [push_cast,simprocAttr,↓gd]
 exact fin1 (.bool _) rfl
end
section
open Go
theorem szField_ok (f:Fd) (hz:ZF f) (left:Int) (h0:0≤left) (h1:left≤1048576) (S:List Blk):VCall Try.prog 24 [fV f,.int .i64 left] S fun r S'=>r=.int .i64 (subN left (cF f))∧S'=S:=by
 obtain ⟨z1,z2⟩:=hz
 unfold mxL at *
 refine VCall.en hD Try.func24 Try.ntmps24 Try.results24 ?_
 by_cases g0:left - (f.name.length:Int) < 0
 ·simp -implicitDefEqProofs (maxSteps:=1000000) (disch:=omega) only [push_cast,simprocAttr,g0,↓gd]
  exact fin1 (.int _ _) (by rw [subN_no (by unfold cF; omega)])
 by_cases g1:left - (f.name.length:Int) - (f.val.length:Int) < 0
 ·simp -implicitDefEqProofs (maxSteps:=1000000) (disch:=omega) only [push_cast,simprocAttr,g0,g1,↓gd]
  exact fin1 (.int _ _) (by rw [subN_no (by unfold cF; omega)])
 simp -implicitDefEqProofs (maxSteps:=1000000) (disch:=omega) only [push_cast,simprocAttr,g0,g1,↓gd]
 exact fin1 (.int _ _) (by rw [subN_in (by unfold cF; omega)]; unfold cF; first | (congr 1; done) | (congr 1; omega))
theorem szFieldS_ok (l:List Fd) (hz:ZL ZF l) (left:Int) (h0:0≤left) (h1:left≤1048576) (S:List Blk):VCall Try.prog 14 [.rows none (l.map fV),.int .i64 left] S fun r S'=>r=.int .i64 (subN left (cFs l))∧S'=S:=by
 obtain ⟨z1,z2⟩:=hz
 unfold mxL at z1
 refine VCall.en hD Try.func14 Try.ntmps14 Try.results14 ?_
 by_cases g:left - (l.length:Int) < 0
 ·simp -implicitDefEqProofs (maxSteps:=1000000) (disch:=omega) only [push_cast,simprocAttr,g,↓gd]
  exact fin0 (by rw [subN_no (by unfold cFs; omega)])
 simp -implicitDefEqProofs (maxSteps:=1000000) (disch:=omega) only [push_cast,simprocAttr,g,↓gd]
 refine wpV_loop (fun m t S'=>∃(i:Nat) (q:Int),m=l.length - i∧i≤l.length∧t 0=.rows none (l.map fV)∧t 1=.int .i64 q∧t 5=.int .i64 i∧q=left - (l.length:Int) - ((sumL cF (l.take i):Nat):Int)∧0≤q∧S'=S) l.length ⟨0,left - (l.length:Int),by omega,by omega,rfl,rfl,rfl,by simp [sumL],by omega,rfl⟩ ?_
 rintro m t S' ⟨i,q,rfl,hi,h0',h1',h5,hq,hle,rfl⟩
 refine wpV_of0 hD ?_
 by_cases hil:i < l.length
 ·have hil':(i:Int) < l.length:=by omega
  have hg:=getD_fV hil
  have hsn:=sumL_snoc (f:=cF) fd0 hil
  have hpt:=sumL_part (f:=cF) l (i+1)
  have hzf:=z2 _ (mem_getD fd0 hil)
  generalize l.getD i fd0=f at *
  have hcs:cFs l=l.length+sumL cF l:=rfl
  simp -implicitDefEqProofs (maxSteps:=1000000) (disch:=omega) only [push_cast,simprocAttr,h0',h1',h5,hil',hg,↓gd]
  repeat refine And.intro (by omega) ?_
  refine ((szField_ok f hzf q hle (by omega) _).as (by rfl)).to ?_
  by_cases hx:(cF f:Int)≤q
  ·rw [subN_in hx]
   have hn:¬(q - ((cF f:Nat):Int) < 0):=by omega
   simp -implicitDefEqProofs (maxSteps:=1000000) (disch:=omega) only [push_cast,simprocAttr,h0',h5,hn,↓gd]
   exact ⟨l.length - (i+1),by omega,i+1,q - ((cF f:Nat):Int),rfl,by omega,rfl,by simp,by rw [hsn]; omega,by omega⟩
  ·rw [subN_no hx]
   simp -implicitDefEqProofs (maxSteps:=1000000) (disch:=omega) only [push_cast,simprocAttr,↓gd]
   exact fin0 (by rw [subN_no (by omega)])
 ·have:i=l.length:=by omega
  subst this
  have hil':¬((l.length:Nat):Int) < l.length:=by omega
  rw [List.take_length] at hq
  have hcs:cFs l=l.length+sumL cF l:=rfl
  simp -implicitDefEqProofs (maxSteps:=1000000) (disch:=omega) only [push_cast,simprocAttr,h0',h1',h5,hil',↓gd]
  exact fin0 (by rw [subN_in (by omega)]; congr 1; omega)
theorem szTable_ok (l:List Fd) (max:Int) (hz:ZL ZF l) (left:Int) (h0:0≤left) (h1:left≤1048576) (S:List Blk):VCall Try.prog 4 [tV l max,.int .i64 left] S fun r S'=>r=.int .i64 (subN left (cFs l))∧S'=S:=by
 refine VCall.en hD Try.func4 Try.ntmps4 Try.results4 ?_
 simp -implicitDefEqProofs (maxSteps:=1000000) (disch:=omega) only [push_cast,simprocAttr,↓gd]
 refine ((szFieldS_ok l hz left h0 h1 _).as (by rfl)).to ?_
 by_cases g:((cFs l:Nat):Int)≤left
 ·have k:¬(left - ((cFs l:Nat):Int) < 0):=by omega
  rw [subN_in g]
  simp -implicitDefEqProofs (maxSteps:=1000000) (disch:=omega) only [push_cast,simprocAttr,k,↓gd]
  exact fin1 (.int _ _) rfl
 ·rw [subN_no g]
  simp -implicitDefEqProofs (maxSteps:=1000000) (disch:=omega) only [push_cast,simprocAttr,↓gd]
  exact fin1 (.int _ _) rfl
end
section
open Go
structure CalmAt (I:Wo→Prop) (S:List Blk) (b c d f:Nat) (x:Wo) (b1 c1 d1 f1:Nat) (S2:List Blk):Prop where
 var:S2[S.length]?=some (.cells 0 (wC b1 c1 d1 f1 x))
 zero:S2[S.length+1]?=some (.cells 0 zW)
 to:WoTo S b c d f x b1 c1 d1 f1 S2
 upd:Upd [] S S2
 i:I x
 w:WoW 642 x
theorem CalmAt.step {I:Wo→Prop} {S:List Blk} {b c d f:Nat} {x y:Wo} {b1 c1 d1 f1 b2 c2 d2 f2:Nat} {S2 S3:List Blk} (h:CalmAt I S b c d f x b1 c1 d1 f1 S2) (q:WoTo S2 b1 c1 d1 f1 y b2 c2 d2 f2 S3) (hu:Upd [] S2 S3) (hi:I y) (hw:WoW 642 y) :
  CalmAt I S b c d f y b2 c2 d2 f2 (S3.set S.length (.cells 0 (wC b2 c2 d2 f2 y))):=by
 have k0:=hu.get h.var (by simp)
 have k1:=hu.get h.zero (by simp)
 have l0:=lt_of_some k0
 have hn:=h.to.trans q
 have v0:=hn.at_.var k0
 refine ⟨by rw [List.getElem?_set,if_pos rfl,if_pos l0],?_,hn.set (j:=S.length) _ (Nat.le_refl _) v0,(h.upd.trans hu).set _ (.inl (Nat.le_refl _)),hi,hw⟩
 rw [get_set_ne (by omega)]
 exact k1
end
section
open Go
structure CalmX (I:Wo→Prop) (S:List Blk) (x:Wo) (p q:XP) (S2:List Blk):Prop where
 var:S2[S.length]?=some (.cells 0 (pC p q x))
 zero:S2[S.length+1]?=some (.cells 0 zW)
 at_:WX S2 p q x
 upd:Upd [] S S2
 i:I x
 w:WoW 642 x
theorem CalmX.step {I:Wo→Prop} {S:List Blk} {x y:Wo} {p q p' q':XP} {S2 S3:List Blk} (h:CalmX I S x p q S2) (g:WX S3 p' q' y) (hu:Upd [] S2 S3) (hi:I y) (hw:WoW 642 y) :
  CalmX I S y p' q' (S3.set S.length (.cells 0 (pC p' q' y))):=by
 have k0:=hu.get h.var (by simp)
 have k1:=hu.get h.zero (by simp)
 have l0:=lt_of_some k0
 refine ⟨by rw [List.getElem?_set,if_pos rfl,if_pos l0],?_,g.var _ k0,(h.upd.trans hu).set _ (.inl (Nat.le_refl _)),hi,hw⟩
 rw [get_set_ne (by omega)]
 exact k1
end
section
open Go
theorem WoNew.x {S S':List Blk} {w:Wo} {b c d f:Nat} (h:WoNew S w b c d f S'):RWX S' w (wV b c d f w) :=
 ⟨⟨_,_,b,c,_⟩,⟨_,_,d,f,_⟩,rfl,⟨h.at_.caller.x,h.at_.answerer.x⟩⟩
end
section
open Go
theorem VCall.wk {P:Program} {f:FuncId} {xs:List V} {S:List Blk} {q q':V→List Blk→Prop} (hf:Enters P f) (h:VCall P f xs S q) (hk:∀r S',q r S'→∃r2 S2,Wk S r S' r2 S2∧q' r2 S2):VCall P f xs S q':=by
 rcases h with ⟨he,r,S',hq,hd⟩ | ⟨r,hq,hx⟩
 ·obtain ⟨r2,S2,hw,hq'⟩:=hk r S' hq
  refine .inl ⟨he,r2,S2,hq',fun G w cargs hA hR=>Calls.mono (hd G w cargs hA hR) ?_⟩
  rintro e w' ⟨c,G',rfl,hv,hR',hE⟩
  obtain ⟨G2,h1,h2,h3⟩:=hw G w G' w' c hR hE hv hR'
  exact ⟨c,G2,rfl,h1,h2,h3⟩
 ·refine .inl ⟨hf,?_⟩
  obtain ⟨r2,S2,hw,hq'⟩:=hk r S hq
  refine ⟨r2,S2,hq',fun G w cargs hA hR=>?_⟩
  obtain ⟨c,hc,_⟩:=hx G w cargs hA
  exact absurd hc (xcall_no hf cargs w c)
theorem toField_ok (f:Fd) (S:List Blk):VCall Try.prog 29 [fV f] S fun r S'=>r=fV f∧S'=S:=by
 refine VCall.en hD Try.func29 Try.ntmps29 Try.results29 ?_
 simp -implicitDefEqProofs (maxSteps:=1000000) (disch:=omega) only [push_cast,simprocAttr,↓gd]
 exact fin1 (cl_fV _ _) rfl
theorem toFieldS_O (l:List Fd) (hl:l.length≤2000000) (S:List Blk):VCall Try.prog 17 [.rows none (l.map fV)] S fun r S'=>r=.heap S.length l.length∧S'=S++[.cells 3 (fcs l)]:=by
 have hz:(List.replicate l.length [V.str [],V.str [],V.bool false]).flatten=fcs (pad fd0 l 0):=by rw [pad_zero]; exact rep_cells fdC fd0 _ rfl _
 refine VCall.en hDf Try.func17 Try.ntmps17 Try.results17 ?_
 simp -implicitDefEqProofs (maxSteps:=1000000) (disch:=omega) only [push_cast,simprocAttr,↓gd]
 repeat refine And.intro (by omega) ?_
 refine wpV_loop (fun m t S'=>∃i:Nat,m=l.length - i∧i≤l.length∧t 0=.rows none (l.map fV)∧t 3=.heap S.length l.length∧t 4=.int .i64 i∧S'=S++[.cells 3 (fcs (pad fd0 l i))]) l.length ⟨0,by omega,by omega,rfl,rfl,rfl,by first | (rw [←hz]; done) | (rw [←hz]; rfl)⟩ ?_
 rintro m t S' ⟨i,rfl,hi,h0,h3,h4,rfl⟩
 refine wpV_of0 hDf ?_
 by_cases hil:i < l.length
 ·have hil':(i:Int) < l.length:=by omega
  have hg:=getD_fV hil
  have hp:=fcs_put (l:=pad fd0 l i) (i:=i) (l.getD i fd0) (by rw [pad_len hi]; exact hil)
  rw [pad_set hil] at hp
  have hfl:=fcs_len (pad fd0 l i)
  rw [pad_len hi] at hfl
  generalize l.getD i fd0=f at *
  generalize fcs (pad fd0 l i)=C at *
  simp -implicitDefEqProofs (maxSteps:=1000000) (disch:=omega) only [push_cast,simprocAttr,h0,h3,h4,hil',hg,↓gd]
  repeat refine And.intro (by omega) ?_
  refine ((toField_ok f _).as (by rfl)).to ?_
  have hp':splice C (i * 3) (fdC f)=fcs (pad fd0 l (i+1)):=hp
  unfold fdC at hp'
  simp -implicitDefEqProofs (maxSteps:=1000000) (disch:=omega) only [push_cast,simprocAttr,h0,h3,h4,hp',↓gd]
  repeat refine And.intro (by omega) ?_
  exact ⟨l.length - (i+1),by omega,i+1,rfl,by omega,by simp,by simp⟩
 ·have:i=l.length:=by omega
  subst this
  have hil':¬((l.length:Nat):Int) < l.length:=by omega
  simp -implicitDefEqProofs (maxSteps:=1000000) (disch:=omega) only [push_cast,simprocAttr,h0,h3,h4,hil',↓gd]
  rw [pad_all]
  exact ⟨_,_,Wk.refl _ _ _,rfl,rfl⟩
theorem toFieldS_R (l:List Fd) (hl:l.length≤2000000) (S:List Blk):VCall Try.prog 17 [.rows none (l.map fV)] S fun r S'=>r=.rows none (l.map fV)∧S'=S:=by
 refine VCall.wk ⟨_,Try.func17,rfl,rfl⟩ (toFieldS_O l hl S) ?_
 rintro r S' ⟨rfl,rfl⟩
 have h3:=fcs_len l
 exact fin_freeze rfl rfl (by omega) (by simp) (by rw [fds_cells,fcs_all]) (cl_fds _ _) rfl
theorem toTable_R (l:List Fd) (max:Int) (hl:FdsB l) (S:List Blk):VCall Try.prog 6 [tV l max] S fun r S'=>r=tV l max∧S'=S:=by
 refine VCall.en hD Try.func6 Try.ntmps6 Try.results6 ?_
 simp -implicitDefEqProofs (maxSteps:=1000000) (disch:=omega) only [push_cast,simprocAttr,↓gd]
 refine ((toFieldS_R l hl.1 _).as (by rfl)).to ?_
 simp -implicitDefEqProofs (maxSteps:=1000000) (disch:=omega) only [push_cast,simprocAttr,↓gd]
 exact fin1 (cl_tab _ _ _) rfl
theorem toTable_O (l:List Fd) (max:Int) (hl:FdsB l) (S:List Blk):VCall Try.prog 6 [tV l max] S fun r S'=>∃p,r=.agg [.heap p l.length,.int .i64 max]∧FNew S l p S':=by
 refine VCall.en hD Try.func6 Try.ntmps6 Try.results6 ?_
 simp -implicitDefEqProofs (maxSteps:=1000000) (disch:=omega) only [push_cast,simprocAttr,↓gd]
 refine ((toFieldS_O l hl.1 _).as (by rfl)).to ?_
 simp -implicitDefEqProofs (maxSteps:=1000000) (disch:=omega) only [push_cast,simprocAttr,↓gd]
 exact ⟨_,_,Wk.refl _ _ _,S.length+3,rfl,by simp -implicitDefEqProofs (maxSteps:=1000000) (disch:=omega) only [push_cast,simprocAttr,↓gd],by omega,(Upd.refl _ _).app _⟩
end
section
open Go
theorem splice_cons:∀(cs:List V) (o:Nat) (x:V) (xs:List V),splice cs o (x :: xs)=splice (cs.set o x) (o+1) xs
 | [],o,x,xs=>by cases o <;> cases xs <;> simp [splice]
 | c :: cs,0,x,xs=>by
  rw [List.set_cons_zero]
  cases xs with
  | nil=>cases cs <;> simp [splice]
  | cons y ys=>cases cs <;> simp [splice]
 | c :: cs,o+1,x,xs=>by
  have:=splice_cons cs o x xs
  rw [List.set_cons_succ,splice,splice,this]
theorem splice_nil:∀(cs:List V) (o:Nat),splice cs o []=cs
 | [],o=>by cases o <;> simp [splice]
 | c :: cs,0=>by simp [splice]
 | c :: cs,o+1=>by simp [splice,splice_nil cs o]
theorem set_same_blk {S:List Blk} {p:Nat} {B:Blk} (h:S[p]?=some B):S.set p B=S:=by
 apply List.ext_getElem?
 intro j
 rw [List.getElem?_set]
 split
 ·rename_i q
  subst q
  rw [if_pos (lt_of_some h),h]
 ·rfl
def mkFto (l:List Fd) (k i:Nat):List Fd:=mkFs i k++l.drop i
theorem mkFto_len (l:List Fd) (k:Nat) {i:Nat} (h:i≤l.length):(mkFto l k i).length=l.length:=by rw [mkFto,List.length_append,mkFs_len,List.length_drop]; omega
theorem mkFto_all (l:List Fd) (k:Nat):mkFto l k l.length=mkFs l.length k:=by simp [mkFto]
theorem mkFto_set (l:List Fd) (k:Nat) {i:Nat} (h:i < l.length):(mkFto l k i).set i (mkF (k+3 * i))=mkFto l k (i+1):=by
 unfold mkFto
 rw [List.set_append_right _ _ (by rw [mkFs_len]; exact Nat.le_refl _),mkFs_len,Nat.sub_self,List.drop_eq_getElem_cons h,List.set_cons_zero,mkFs_snoc,List.append_assoc]
 rfl
theorem tmod3 (n:Nat):Int.tmod (n:Int) 3=((n % 3:Nat):Int):=tmod_nat n 3
theorem dec3 (n:Nat):decide (Int.tmod (n:Int) 3=0)=decide (n % 3=0):=by
 rw [tmod3]
 exact decide_eq_decide.2 ⟨fun h=>by omega,fun h=>by omega⟩
theorem markFieldS_ok (l:List Fd) (k:Nat) (hl:l.length≤2000000) (hk:k+3 * l.length≤90000000) {S:List Blk} {p:Nat} (hp:S[p]?=some (.cells 3 (fcs l))) :
  VCall Try.prog 11 [.heap p l.length,.int .i64 k] S fun r S'=>r=.int .i64 ((k+3 * l.length:Nat):Int)∧S'=S.set p (.cells 3 (fcs (mkFto l k l.length))):=by
 have lp:=lt_of_some hp
 refine VCall.en hDf Try.func11 Try.ntmps11 Try.results11 ?_
 simp -implicitDefEqProofs (maxSteps:=1000000) (disch:=omega) only [push_cast,simprocAttr,↓gd]
 refine wpV_loop (fun m t S'=>∃i K:Nat,m=l.length - i∧i≤l.length∧K=k+3 * i∧t 0=.heap p l.length∧t 1=.int .i64 (K:Int)∧t 5=.int .i64 i∧S'=S.set p (.cells 3 (fcs (mkFto l k i)))) l.length ⟨0,k,by omega,by omega,by omega,rfl,rfl,rfl,by rw [show mkFto l k 0=l from rfl]; exact (set_same_blk hp).symm⟩ ?_
 rintro m t S' ⟨i,K0,rfl,hi,hK0,h0,h1,h5,rfl⟩
 refine wpV_of0 hDf ?_
 by_cases hil:i < l.length
 ·have hil':(i:Int) < l.length:=by omega
  have hCl:=fcs_len (mkFto l k i)
  rw [mkFto_len l k hi] at hCl
  have hput:=fcs_put (l:=mkFto l k i) (i:=i) (mkF (k+3 * i)) (by rw [mkFto_len l k hi]; exact hil)
  rw [mkFto_set l k hil,←hK0] at hput
  obtain ⟨K1,hK1⟩:∃n:Nat,n=K0+1:=⟨_,rfl⟩
  obtain ⟨K2,hK2⟩:∃n:Nat,n=K1+1:=⟨_,rfl⟩
  obtain ⟨K3,hK3⟩:∃n:Nat,n=K2+1:=⟨_,rfl⟩
  have hput:splice (fcs (mkFto l k i)) (i * 3) [V.str (mtext K0),V.str (mtext K1),V.bool (decide (K2 % 3=0))]=fcs (mkFto l k (i+1)):=by
   rw [←hput]
   subst hK2 hK1
   rfl
  have e0:(K0:Int)+1=(K1:Int):=by omega
  have x0:=fun T=>markText_ok K0 (by omega) T
  generalize hm0:mtext K0=m0 at *
  have e1:(K1:Int)+1=(K2:Int):=by omega
  have x1:=fun T=>markText_ok K1 (by omega) T
  generalize hm1:mtext K1=m1 at *
  have e2:(K2:Int)+1=(K3:Int):=by omega
  have d2:=dec3 K2
  generalize hb2:decide (K2 % 3=0)=bb2 at *
  generalize fcs (mkFto l k i)=C0 at *
  generalize hCn:fcs (mkFto l k (i+1))=C3 at *
  simp only [splice_cons,splice_nil,Nat.add_assoc,Nat.reduceAdd] at hput
  obtain ⟨C1,hC1⟩:∃C,C=C0.set (i * 3) (V.str m0):=⟨_,rfl⟩
  rw [←hC1] at hput
  have q0:splice C0 (i * 3) [V.str m0]=C1:=by rw [splice_one,hC1]
  have n1:C1.length=l.length * 3:=by rw [hC1,List.length_set]; exact hCl
  obtain ⟨C2,hC2⟩:∃C,C=C1.set (i * 3+1) (V.str m1):=⟨_,rfl⟩
  rw [←hC2] at hput
  have q1:splice C1 (i * 3+1) [V.str m1]=C2:=by rw [splice_one,hC2]
  have n2:C2.length=l.length * 3:=by rw [hC2,List.length_set]; exact n1
  have q2:splice C2 (i * 3+2) [V.bool bb2]=C3:=by rw [splice_one]; exact hput
  clear hC2 hC1 hput
  simp -implicitDefEqProofs (maxSteps:=1000000) (disch:=omega) only [push_cast,simprocAttr,h0,h1,h5,hil',lp,e0,e1,e2,d2,q0,q1,q2,↓gd]
  repeat refine And.intro (by omega) ?_
  refine ((x0 _).as (by rfl)).to ?_
  simp -implicitDefEqProofs (maxSteps:=1000000) (disch:=omega) only [push_cast,simprocAttr,h0,h1,h5,hil',lp,e0,e1,e2,d2,q0,q1,q2,↓gd]
  repeat refine And.intro (by omega) ?_
  refine ((x1 _).as (by rfl)).to ?_
  simp -implicitDefEqProofs (maxSteps:=1000000) (disch:=omega) only [push_cast,simprocAttr,h0,h1,h5,hil',lp,e0,e1,e2,d2,q0,q1,q2,↓gd]
  repeat refine And.intro (by omega) ?_
  exact ⟨l.length - (i+1),by omega,i+1,K3,rfl,by omega,by omega,by simp,by simp,by rw [hCn]⟩
 ·have:i=l.length:=by omega
  subst this
  have hil':¬((l.length:Nat):Int) < l.length:=by omega
  simp -implicitDefEqProofs (maxSteps:=1000000) (disch:=omega) only [push_cast,simprocAttr,h0,h1,h5,hil',↓gd]
  exact ⟨_,_,Wk.refl _ _ _,by rw [hK0]; rfl,rfl⟩
end
end Go.Proofs.Ytldogccmhncnoaa
