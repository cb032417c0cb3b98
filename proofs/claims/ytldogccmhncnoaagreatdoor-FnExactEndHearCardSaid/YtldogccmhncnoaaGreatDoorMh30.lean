/- A part of the proof: contracts of functions, or plain facts on which these lean. -/
import Derived.Test.YtldogccmhncnoaaGreatDoorMh23
import Derived.Test.YtldogccmhncnoaaGreatDoorMh25
import Derived.Test.YtldogccmhncnoaaGreatDoorMh28
import Derived.Test.YtldogccmhncnoaaGreatDoorMh29
namespace Go.Proofs.YtldogccmhncnoaaGreatDoor
open Go
set_option linter.unusedVariables false
set_option linter.unusedSimpArgs false
set_option maxRecDepth 100000
set_option maxHeartbeats 16000000

section
open Go
theorem VCall.wk {P:Program} {f:FuncId} {xs:List V} {S:List Blk} {q q':V→List Blk→Prop} (hf:Enters P f) (h:VCall P f xs S q) (hk:∀r S',q r S'→∃r2 S2,Wk S r S' r2 S2∧q' r2 S2):VCall P f xs S q':=by
 rcases h with ⟨he,r,S',hq,hd⟩ | ⟨r,hq,hx⟩
 ·obtain ⟨r2,S2,hw,hq'⟩:=hk r S' hq
  refine .inl ⟨he,r2,S2,hq',fun G w cargs hA hR=>Calls.mono (hd G w cargs hA hR) ?_⟩
  rintro e w' ⟨c,G',rfl,hv,hR',hE⟩
  obtain ⟨G2,h1,h2,h3⟩:=hw G w G' w' c hR hE hv hR'
  exact ⟨c,G2,rfl,h1,h2,h3⟩
 ·refine .inl ⟨hf,?_⟩
  obtain ⟨r2,S2,hw,hq'⟩:=hk r S hq
  refine ⟨r2,S2,hq',fun G w cargs hA hR=>?_⟩
  obtain ⟨c,hc,_⟩:=hx G w cargs hA
  exact absurd hc (xcall_no hf cargs w c)
theorem toField_ok (f:Fd) (S:List Blk):VCall Tryz.prog 120 [fV f] S fun r S'=>r=fV f∧S'=S:=by
 refine VCall.en hD Tryz.func120 Tryz.ntmps120 Tryz.results120 ?_
 simp -implicitDefEqProofs (maxSteps:=1000000) (disch:=omega) only [push_cast,simprocAttr,↓gd]
 exact fin1 (cl_fV _ _) rfl
theorem toFrame_ok (f:Fr) (S:List Blk):VCall Tryz.prog 81 [frV f] S fun r S'=>r=frV f∧S'=S:=by
 refine VCall.en hD Tryz.func81 Tryz.ntmps81 Tryz.results81 ?_
 simp -implicitDefEqProofs (maxSteps:=1000000) (disch:=omega) only [push_cast,simprocAttr,↓gd]
 exact fin1 (by simp [cl_agg,cl_int,cl_bool,cl_str]) rfl
theorem toFlow_ok (s q:Int) (S:List Blk):VCall Tryz.prog 39 [.agg [.int .i64 s,.int .i64 q]] S fun r S'=>r=.agg [.int .i64 s,.int .i64 q]∧S'=S:=by
 refine VCall.en hD Tryz.func39 Tryz.ntmps39 Tryz.results39 ?_
 simp -implicitDefEqProofs (maxSteps:=1000000) (disch:=omega) only [push_cast,simprocAttr,↓gd]
 exact fin1 (by simp [cl_agg,cl_int]) rfl
theorem cl_stV (n:Nat) (s:St):Cl n (stV s):=by
 refine .agg ?_
 simp only [strC,List.mem_cons,List.not_mem_nil,or_false,forall_eq_or_imp,forall_eq]
 exact ⟨.int _ _,.int _ _,cl_fds _ _,.str _,.bool _,.bool _,.int _ _,cl_fds _ _,.str _,.bool _,.int _ _,.int _ _⟩
theorem toFieldS_O (l:List Fd) (hl:l.length≤2000000) (S:List Blk):VCall Tryz.prog 79 [.rows none (l.map fV)] S fun r S'=>r=.heap S.length l.length∧S'=S++[.cells 3 (fcs l)]:=by
 have hz:(List.replicate l.length [V.str [],V.str [],V.bool false]).flatten=fcs (pad fd0 l 0):=by rw [pad_zero]; exact rep_cells fdC fd0 _ rfl _
 refine VCall.en hDf Tryz.func79 Tryz.ntmps79 Tryz.results79 ?_
 simp -implicitDefEqProofs (maxSteps:=1000000) (disch:=omega) only [push_cast,simprocAttr,↓gd]
 repeat refine And.intro (by omega) ?_
 refine wpV_loop (fun m t S'=>∃i:Nat,m=l.length - i∧i≤l.length∧t 0=.rows none (l.map fV)∧t 3=.heap S.length l.length∧t 4=.int .i64 i∧S'=S++[.cells 3 (fcs (pad fd0 l i))]) l.length ⟨0,by omega,by omega,rfl,rfl,rfl,by first | (rw [←hz]; done) | (rw [←hz]; rfl)⟩ ?_
 rintro m t S' ⟨i,rfl,hi,h0,h3,h4,rfl⟩
 refine wpV_of0 hDf ?_
 by_cases hil:i < l.length
 ·have hil':(i:Int) < l.length:=by omega
  have hg:=getD_fV hil
  have hp:=fcs_put (l:=pad fd0 l i) (i:=i) (l.getD i fd0) (by rw [pad_len hi]; exact hil)
  rw [pad_set hil] at hp
  have hfl:=fcs_len (pad fd0 l i)
  rw [pad_len hi] at hfl
  generalize l.getD i fd0=f at *
  generalize fcs (pad fd0 l i)=C at *
  simp -implicitDefEqProofs (maxSteps:=1000000) (disch:=omega) only [push_cast,simprocAttr,h0,h3,h4,hil',hg,↓gd]
  repeat refine And.intro (by omega) ?_
  refine ((toField_ok f _).as (by rfl)).to ?_
  have hp':splice C (i * 3) (fdC f)=fcs (pad fd0 l (i+1)):=hp
  unfold fdC at hp'
  simp -implicitDefEqProofs (maxSteps:=1000000) (disch:=omega) only [push_cast,simprocAttr,h0,h3,h4,hp',↓gd]
  repeat refine And.intro (by omega) ?_
  exact ⟨l.length - (i+1),by omega,i+1,rfl,by omega,by simp,by simp⟩
 ·have:i=l.length:=by omega
  subst this
  have hil':¬((l.length:Nat):Int) < l.length:=by omega
  simp -implicitDefEqProofs (maxSteps:=1000000) (disch:=omega) only [push_cast,simprocAttr,h0,h3,h4,hil',↓gd]
  rw [pad_all]
  exact ⟨_,_,Wk.refl _ _ _,rfl,rfl⟩
theorem toFrameS_O (l:List Fr) (hl:l.length≤2000000) (S:List Blk):VCall Tryz.prog 40 [.rows none (l.map frV)] S fun r S'=>r=.heap S.length l.length∧S'=S++[.cells 4 (frmsC l)]:=by
 have hz:(List.replicate l.length [V.int .i64 0,V.bool false,V.int .i64 0,V.str []]).flatten=frmsC (pad fr0 l 0):=by rw [pad_zero]; exact rep_cells frmC fr0 _ rfl _
 refine VCall.en hDe Tryz.func40 Tryz.ntmps40 Tryz.results40 ?_
 simp -implicitDefEqProofs (maxSteps:=1000000) (disch:=omega) only [push_cast,simprocAttr,↓gd]
 repeat refine And.intro (by omega) ?_
 refine wpV_loop (fun m t S'=>∃i:Nat,m=l.length - i∧i≤l.length∧t 0=.rows none (l.map frV)∧t 3=.heap S.length l.length∧t 4=.int .i64 i∧S'=S++[.cells 4 (frmsC (pad fr0 l i))]) l.length ⟨0,by omega,by omega,rfl,rfl,rfl,by first | (rw [←hz]; done) | (rw [←hz]; rfl)⟩ ?_
 rintro m t S' ⟨i,rfl,hi,h0,h3,h4,rfl⟩
 refine wpV_of0 hDe ?_
 by_cases hil:i < l.length
 ·have hil':(i:Int) < l.length:=by omega
  have hg:=getD_frV hil
  have hp:=frmsC_put (l:=pad fr0 l i) (i:=i) (l.getD i fr0) (by rw [pad_len hi]; exact hil)
  rw [pad_set hil] at hp
  have hfl:=frmsC_len (pad fr0 l i)
  rw [pad_len hi] at hfl
  generalize l.getD i fr0=f at *
  generalize frmsC (pad fr0 l i)=C at *
  simp -implicitDefEqProofs (maxSteps:=1000000) (disch:=omega) only [push_cast,simprocAttr,h0,h3,h4,hil',hg,↓gd]
  repeat refine And.intro (by omega) ?_
  refine ((toFrame_ok f _).as (by rfl)).to ?_
  have hp':splice C (i * 4) (frmC f)=frmsC (pad fr0 l (i+1)):=hp
  unfold frmC at hp'
  simp -implicitDefEqProofs (maxSteps:=1000000) (disch:=omega) only [push_cast,simprocAttr,h0,h3,h4,hp',↓gd]
  repeat refine And.intro (by omega) ?_
  exact ⟨l.length - (i+1),by omega,i+1,rfl,by omega,by simp,by simp⟩
 ·have:i=l.length:=by omega
  subst this
  have hil':¬((l.length:Nat):Int) < l.length:=by omega
  simp -implicitDefEqProofs (maxSteps:=1000000) (disch:=omega) only [push_cast,simprocAttr,h0,h3,h4,hil',↓gd]
  rw [pad_all]
  exact ⟨_,_,Wk.refl _ _ _,rfl,rfl⟩
theorem toFieldS_R (l:List Fd) (hl:l.length≤2000000) (S:List Blk):VCall Tryz.prog 79 [.rows none (l.map fV)] S fun r S'=>r=.rows none (l.map fV)∧S'=S:=by
 refine VCall.wk ⟨_,Tryz.func79,rfl,rfl⟩ (toFieldS_O l hl S) ?_
 rintro r S' ⟨rfl,rfl⟩
 have h3:=fcs_len l
 exact fin_freeze rfl rfl (by omega) (by simp) (by rw [fds_cells,fcs_all]) (cl_fds _ _) rfl
theorem toTable_R (l:List Fd) (max:Int) (hl:FdsB l) (S:List Blk):VCall Tryz.prog 37 [tV l max] S fun r S'=>r=tV l max∧S'=S:=by
 refine VCall.en hD Tryz.func37 Tryz.ntmps37 Tryz.results37 ?_
 simp -implicitDefEqProofs (maxSteps:=1000000) (disch:=omega) only [push_cast,simprocAttr,↓gd]
 refine ((toFieldS_R l hl.1 _).as (by rfl)).to ?_
 simp -implicitDefEqProofs (maxSteps:=1000000) (disch:=omega) only [push_cast,simprocAttr,↓gd]
 exact fin1 (cl_tab _ _ _) rfl
theorem toTable_O (l:List Fd) (max:Int) (hl:FdsB l) (S:List Blk):VCall Tryz.prog 37 [tV l max] S fun r S'=>∃p,r=.agg [.heap p l.length,.int .i64 max]∧FNew S l p S':=by
 refine VCall.en hD Tryz.func37 Tryz.ntmps37 Tryz.results37 ?_
 simp -implicitDefEqProofs (maxSteps:=1000000) (disch:=omega) only [push_cast,simprocAttr,↓gd]
 refine ((toFieldS_O l hl.1 _).as (by rfl)).to ?_
 simp -implicitDefEqProofs (maxSteps:=1000000) (disch:=omega) only [push_cast,simprocAttr,↓gd]
 exact ⟨_,_,Wk.refl _ _ _,S.length+3,rfl,by simp -implicitDefEqProofs (maxSteps:=1000000) (disch:=omega) only [push_cast,simprocAttr,↓gd],by omega,(Upd.refl _ _).app _⟩
theorem toStream_R (s:St) (hs:StB s) (S:List Blk):VCall Tryz.prog 80 [stV s] S fun r S'=>r=stV s∧S'=S:=by
 have hh:=hs.head.1
 have hg:=hs.got.1
 refine VCall.en hD Tryz.func80 Tryz.ntmps80 Tryz.results80 ?_
 simp -implicitDefEqProofs (maxSteps:=1000000) (disch:=omega) only [push_cast,simprocAttr,↓gd]
 refine ((toFieldS_R s.head hh _).as (by rfl)).to ?_
 simp -implicitDefEqProofs (maxSteps:=1000000) (disch:=omega) only [push_cast,simprocAttr,↓gd]
 refine ((toFieldS_R s.got hg _).as (by rfl)).to ?_
 simp -implicitDefEqProofs (maxSteps:=1000000) (disch:=omega) only [push_cast,simprocAttr,↓gd]
 refine ((toFlow_ok s.send s.room _).as (by rfl)).to ?_
 simp -implicitDefEqProofs (maxSteps:=1000000) (disch:=omega) only [push_cast,simprocAttr,↓gd]
 exact fin1 (cl_stV _ _) rfl
theorem toStream_O (s:St) (hs:StB s) (S:List Blk):VCall Tryz.prog 80 [stV s] S fun r S'=>∃p q,r=.agg (strX s (.heap p s.head.length) (.heap q s.got.length))∧S'[p]?=some (.cells 3 (fcs s.head))∧S'[q]?=some (.cells 3 (fcs s.got))∧S.length≤p∧p < q∧Upd [] S S':=by
 have hh:=hs.head.1
 have hg:=hs.got.1
 refine VCall.en hD Tryz.func80 Tryz.ntmps80 Tryz.results80 ?_
 simp -implicitDefEqProofs (maxSteps:=1000000) (disch:=omega) only [push_cast,simprocAttr,↓gd]
 refine ((toFieldS_O s.head hh _).as (by rfl)).to ?_
 simp -implicitDefEqProofs (maxSteps:=1000000) (disch:=omega) only [push_cast,simprocAttr,↓gd]
 refine ((toFieldS_O s.got hg _).as (by rfl)).to ?_
 simp -implicitDefEqProofs (maxSteps:=1000000) (disch:=omega) only [push_cast,simprocAttr,↓gd]
 refine ((toFlow_ok s.send s.room _).as (by rfl)).to ?_
 simp -implicitDefEqProofs (maxSteps:=1000000) (disch:=omega) only [push_cast,simprocAttr,↓gd]
 exact ⟨_,_,Wk.refl _ _ _,S.length+3,S.length+4,rfl,by simp -implicitDefEqProofs (maxSteps:=1000000) (disch:=omega) only [push_cast,simprocAttr,↓gd],by simp -implicitDefEqProofs (maxSteps:=1000000) (disch:=omega) only [push_cast,simprocAttr,↓gd],by omega,by omega,(Upd.refl _ _).app _⟩
theorem toStreamS_R (l:List St) (hs:∀s ∈ l,StB s) (hl:l.length≤2000000) (S:List Blk):VCall Tryz.prog 38 [.rows none (l.map stV)] S fun r S'=>r=.heap S.length l.length∧S'=S++[.cells 12 (strsC l)]:=by
 have hz:(List.replicate l.length [V.int .i64 0,V.int .i64 0,V.nils,V.str [],V.bool false,V.bool false,V.int .i64 0,V.nils,V.str [],V.bool false,V.int .i64 0,V.int .i64 0]).flatten=xsC ([]++List.replicate (l.length - ([]:List XS).length) xs0):=rep_cells xsF xs0 _ rfl _
 refine VCall.en hDe Tryz.func38 Tryz.ntmps38 Tryz.results38 ?_
 simp -implicitDefEqProofs (maxSteps:=1000000) (disch:=omega) only [push_cast,simprocAttr,↓gd]
 repeat refine And.intro (by omega) ?_
 refine wpV_loop (fun m t S'=>∃i:Nat,m=l.length - i∧i≤l.length∧t 0=.rows none (l.map stV)∧t 3=.heap S.length l.length∧t 4=.int .i64 i∧S'=S++[.cells 12 (xsC (rowsL (l.take i)++List.replicate (l.length - (rowsL (l.take i)).length) xs0))]) l.length ⟨0,by omega,by omega,rfl,rfl,rfl,by rw [show rowsL (l.take 0)=[] from rfl]; first | (rw [←hz]; done) | (rw [←hz]; rfl)⟩ ?_
 rintro m t S' ⟨i,rfl,hi,h0,h3,h4,rfl⟩
 refine wpV_of0 hDe ?_
 by_cases hil:i < l.length
 ·have hil':(i:Int) < l.length:=by omega
  have hg:=getD_stV hil
  have hrl:(rowsL (l.take i)).length=i:=by simp [rowsL]; omega
  have hsb:=hs _ (mem_getD st0 hil)
  have htk:rowsL (l.take (i+1))=rowsL (l.take i)++[((l.getD i st0),.rows none ((l.getD i st0).head.map fV),.rows none ((l.getD i st0).got.map fV))]:=by rw [take_st hil]; simp [rowsL]
  have hp:=xsC_put (ls:=rowsL (l.take i)++List.replicate (l.length - (rowsL (l.take i)).length) xs0) (i:=(rowsL (l.take i)).length) ((l.getD i st0),.rows none ((l.getD i st0).head.map fV),.rows none ((l.getD i st0).got.map fV)) (by simp; omega)
  rw [app_rep_set _ (by omega),←htk,hrl] at hp
  have hfl:=xsC_len (rowsL (l.take i)++List.replicate (l.length - (rowsL (l.take i)).length) xs0)
  rw [List.length_append,List.length_replicate,hrl] at hfl
  try rw [hrl] at hp
  try rw [hrl] at hfl
  try rw [hrl]
  generalize l.getD i st0=s at *
  generalize xsC (rowsL (l.take i)++List.replicate (l.length - i) xs0)=C at *
  simp -implicitDefEqProofs (maxSteps:=1000000) (disch:=omega) only [push_cast,simprocAttr,h0,h3,h4,hil',hg,↓gd]
  repeat refine And.intro (by omega) ?_
  refine ((toStream_R s hsb _).as (by rfl)).to ?_
  have hp':splice C (i * 12) (strC s)=xsC (rowsL (l.take (i+1))++List.replicate (l.length - (rowsL (l.take (i+1))).length) xs0):=hp
  rw [strC_eq] at hp'
  simp -implicitDefEqProofs (maxSteps:=1000000) (disch:=omega) only [push_cast,simprocAttr,h0,h3,h4,hp',↓gd]
  repeat refine And.intro (by omega) ?_
  exact ⟨l.length - (i+1),by omega,i+1,rfl,by omega,by simp,by simp⟩
 ·have:i=l.length:=by omega
  subst this
  have hil':¬((l.length:Nat):Int) < l.length:=by omega
  have hrl:(rowsL l).length=l.length:=by simp [rowsL]
  simp -implicitDefEqProofs (maxSteps:=1000000) (disch:=omega) only [push_cast,simprocAttr,h0,h3,h4,hil',↓gd]
  rw [List.take_length,hrl,Nat.sub_self,List.replicate_zero,List.append_nil,rowsL_c]
  exact ⟨_,_,Wk.refl _ _ _,rfl,rfl⟩
structure SsNew (S:List Blk) (l:List St) (b:Nat) (ls:List XS) (S':List Blk):Prop where
 strs:ls.map Prod.fst=l
 kb:S'[b]?=some (.cells 12 (xsC ls))
 own:OwnL S' ls
 lt:(fb ls).Pairwise (· < ·)
 lo:∀p ∈ fb ls,S.length≤p
 hb:S.length≤b
 upd:Upd [] S S'
theorem toStreamS_O (l:List St) (hs:∀s ∈ l,StB s) (hl:l.length≤2000000) (S:List Blk):VCall Tryz.prog 38 [.rows none (l.map stV)] S fun r S'=>∃b ls,r=.heap b l.length∧SsNew S l b ls S':=by
 have hz:(List.replicate l.length [V.int .i64 0,V.int .i64 0,V.nils,V.str [],V.bool false,V.bool false,V.int .i64 0,V.nils,V.str [],V.bool false,V.int .i64 0,V.int .i64 0]).flatten=xsC ([]++List.replicate (l.length - ([]:List XS).length) xs0):=rep_cells xsF xs0 _ rfl _
 refine VCall.en hDe Tryz.func38 Tryz.ntmps38 Tryz.results38 ?_
 simp -implicitDefEqProofs (maxSteps:=1000000) (disch:=omega) only [push_cast,simprocAttr,↓gd]
 repeat refine And.intro (by omega) ?_
 refine wpV_loop (fun m t S'=>∃(i:Nat) (hs:List XS),m=l.length - i∧i≤l.length∧t 0=.rows none (l.map stV)∧t 3=.heap S.length l.length∧t 4=.int .i64 i∧hs.map Prod.fst=l.take i∧S'[S.length]?=some (.cells 12 (xsC (hs++List.replicate (l.length - hs.length) xs0)))∧OwnL S' hs∧(fb hs).Pairwise (· < ·)∧(∀p ∈ fb hs,S.length≤p)∧Upd [] S S') l.length
  ⟨0,[],by omega,by omega,rfl,rfl,rfl,rfl,?_,(fun x hx=>by cases hx),by simp [fb],(fun p hp=>by simp [fb] at hp),(Upd.refl _ _).app _⟩ ?_
 ·rw [←hz,app_get0]; rfl
 rintro m t S' ⟨i,hs',rfl,hi,h0,h3,h4,hfs,kb,hown,hlt,hlo,hu⟩
 refine wpV_of0 hDe ?_
 have hrl:hs'.length=i:=by have:=congrArg List.length hfs; rw [List.length_map,List.length_take] at this; omega
 by_cases hil:i < l.length
 ·have hil':(i:Int) < l.length:=by omega
  have hg:=getD_stV hil
  have hsb:=hs _ (mem_getD st0 hil)
  have htk:=take_st hil
  generalize l.getD i st0=s at *
  simp -implicitDefEqProofs (maxSteps:=1000000) (disch:=omega) only [push_cast,simprocAttr,h0,h3,h4,hil',hg,↓gd]
  repeat refine And.intro (by omega) ?_
  refine ((toStream_O s hsb _).as (by rfl)).mono ?_
  rintro r S1 ⟨p,q,rfl,hp1,hq1,hpl,hpq,hu1⟩
  have kb1:=hu1.get kb (by simp)
  have lb1:=lt_of_some kb1
  have lq1:=lt_of_some hq1
  have hput:=xsC_put (ls:=hs'++List.replicate (l.length - hs'.length) xs0) (i:=hs'.length) (s,V.heap p s.head.length,V.heap q s.got.length) (by simp; omega)
  rw [app_rep_set _ (by omega),hrl] at hput
  have hfl:=xsC_len (hs'++List.replicate (l.length - hs'.length) xs0)
  rw [List.length_append,List.length_replicate,hrl] at hfl
  try rw [hrl] at kb1
  have hlt':=hown.lt
  have hown1:=hown.to (S':=S1) (fun p cs hp=>hu1.get hp (by simp))
  try rw [hrl] at hlt'
  generalize xsC (hs'++List.replicate (l.length - i) xs0)=C at *
  have hput':splice C (i * 12) (strX s (.heap p s.head.length) (.heap q s.got.length))=xsC ((hs'++[(s,V.heap p s.head.length,V.heap q s.got.length)])++List.replicate (l.length - (hs'++[(s,V.heap p s.head.length,V.heap q s.got.length)]).length) xs0):=hput
  rw [strX_eq] at hput'
  simp -implicitDefEqProofs (maxSteps:=1000000) (disch:=omega) only [push_cast,simprocAttr,h0,h3,h4,kb1,hput',↓gd]
  repeat refine And.intro (by omega) ?_
  have hS:∀(B:Blk) (j n:Nat) (cs:List V),n≠12→S1[j]?=some (.cells n cs)→(S1.set S.length B)[j]?=some (.cells n cs):=fun B j n cs hn hj=>by
   have hne:S.length≠j:=by rintro rfl; rw [kb1] at hj; cases hj; exact hn rfl
   rw [List.getElem?_set_ne hne]; exact hj
  refine ⟨l.length - (i+1),by omega,i+1,hs'++[(s,V.heap p s.head.length,V.heap q s.got.length)],rfl,by omega,by simp,by rw [List.map_append,hfs,htk]; rfl,?_,?_,?_,?_,(hu.trans hu1).set _ (.inl (Nat.le_refl _))⟩
  ·simp
  ·refine (hown1.to (fun p cs hp=>hS _ p 3 cs (by decide) hp)).app (fun x hx=>?_)
   rw [List.mem_singleton.1 hx]
   exact ⟨⟨_,rfl,hS _ _ 3 _ (by decide) hp1⟩,⟨_,rfl,hS _ _ 3 _ (by decide) hq1⟩⟩
  ·rw [fb_app]
   exact pair_snoc2 hlt (fun x hx=>by have:=hown.lt x hx; show x < p; omega) hpq
  ·intro z hz
   rw [fb_app] at hz
   have:=hu.1
   rcases List.mem_append.1 hz with hz | hz
   ·exact hlo z hz
   ·simp only [fb,xb,List.flatMap_cons,List.flatMap_nil,List.mem_append,List.mem_cons,List.not_mem_nil,or_false] at hz
    omega
 ·have:i=l.length:=by omega
  subst this
  have hil':¬((l.length:Nat):Int) < l.length:=by omega
  rw [hrl,Nat.sub_self,List.replicate_zero,List.append_nil] at kb
  rw [List.take_length] at hfs
  simp -implicitDefEqProofs (maxSteps:=1000000) (disch:=omega) only [push_cast,simprocAttr,h0,h3,h4,hil',↓gd]
  exact ⟨_,_,Wk.refl _ _ _,S.length,hs',rfl,⟨hfs,kb,hown,hlt,hlo,Nat.le_refl _,hu⟩⟩
theorem toEnd_R (e:En) (he:EnB e) (S:List Blk):VCall Tryz.prog 9 [erV e] S fun r S'=>RNew S e r S':=by
 have h1:=he.len
 have h2:=he.wait
 refine VCall.en hDe Tryz.func9 Tryz.ntmps9 Tryz.results9 ?_
 simp -implicitDefEqProofs (maxSteps:=1000000) (disch:=omega) only [push_cast,simprocAttr,↓gd]
 refine ((toTable_R e.out e.outM he.out _).as (by rfl)).to ?_
 simp -implicitDefEqProofs (maxSteps:=1000000) (disch:=omega) only [push_cast,simprocAttr,↓gd]
 refine ((toTable_R e.inn e.innM he.inn _).as (by rfl)).to ?_
 simp -implicitDefEqProofs (maxSteps:=1000000) (disch:=omega) only [push_cast,simprocAttr,↓gd]
 refine ((toStreamS_R e.strs he.sts (by omega) _).as (by rfl)).to ?_
 simp -implicitDefEqProofs (maxSteps:=1000000) (disch:=omega) only [push_cast,simprocAttr,↓gd]
 refine ((toFlow_ok e.send e.room _).as (by rfl)).to ?_
 simp -implicitDefEqProofs (maxSteps:=1000000) (disch:=omega) only [push_cast,simprocAttr,↓gd]
 refine ((toFrameS_O e.wait (by omega) _).as (by rfl)).to ?_
 simp -implicitDefEqProofs (maxSteps:=1000000) (disch:=omega) only [push_cast,simprocAttr,↓gd]
 exact ⟨_,_,Wk.refl _ _ _,S.length+3,S.length+4,rfl,⟨⟨by simp -implicitDefEqProofs (maxSteps:=1000000) (disch:=omega) only [push_cast,simprocAttr,↓gd],by simp -implicitDefEqProofs (maxSteps:=1000000) (disch:=omega) only [push_cast,simprocAttr,↓gd]⟩,by omega,by omega,(Upd.refl _ _).app _⟩⟩
theorem toEnd_O (e:En) (he:EnB e) (S:List Blk):VCall Tryz.prog 9 [erV e] S fun r S'=>ONew S e r S':=by
 have h1:=he.len
 have h2:=he.wait
 refine VCall.en hDe Tryz.func9 Tryz.ntmps9 Tryz.results9 ?_
 simp -implicitDefEqProofs (maxSteps:=1000000) (disch:=omega) only [push_cast,simprocAttr,↓gd]
 refine ((toTable_O e.out e.outM he.out _).as (by rfl)).mono ?_
 rintro r Sa ⟨po,rfl,ho1,ho2,ho3⟩
 have a0:=ho3.get (j:=S.length) (B:=.cells 0 (erC e)) (by simp -implicitDefEqProofs (maxSteps:=1000000) (disch:=omega) only [push_cast,simprocAttr,↓gd]) (by simp)
 have a1:=ho3.get (j:=S.length+1) (B:=.cells 0 zE) (by simp -implicitDefEqProofs (maxSteps:=1000000) (disch:=omega) only [push_cast,simprocAttr,↓gd]) (by simp)
 have a2:=ho3.get (j:=S.length+2) (B:=.cells 0 [V.bool e.ans,.nils,.int .i64 0,.nils,.int .i64 0,.str [],.nils,.int .i64 0,.int .i64 0,.nils,.bool false]) (by simp -implicitDefEqProofs (maxSteps:=1000000) (disch:=omega) only [push_cast,simprocAttr,↓gd]) (by simp)
 have la0:=lt_of_some a0
 have la1:=lt_of_some a1
 have la2:=lt_of_some a2
 have lpo:=lt_of_some ho1
 simp only [List.length_append,List.length_cons,List.length_nil] at ho2
 have hua:Upd [] S Sa:=((Upd.refl [] S).app _).trans ho3
 simp -implicitDefEqProofs (maxSteps:=1000000) (disch:=omega) only [push_cast,simprocAttr,a0,a2,↓gd]
 refine ((toTable_O e.inn e.innM he.inn _).as (by rfl)).mono ?_
 rintro r Sb ⟨pi,rfl,hi1,hi2,hi3⟩
 have b0:=hi3.get (j:=S.length) (B:=.cells 0 (erC e)) (by simp -implicitDefEqProofs (maxSteps:=1000000) (disch:=omega) only [push_cast,simprocAttr,a0,↓gd]) (by simp)
 have b1:=hi3.get (j:=S.length+1) (B:=.cells 0 zE) (by simp -implicitDefEqProofs (maxSteps:=1000000) (disch:=omega) only [push_cast,simprocAttr,a1,↓gd]) (by simp)
 have b2:=hi3.get (j:=S.length+2) (B:=.cells 0 [V.bool e.ans,.heap po e.out.length,.int .i64 e.outM,.nils,.int .i64 0,.str [],.nils,.int .i64 0,.int .i64 0,.nils,.bool false]) (by simp -implicitDefEqProofs (maxSteps:=1000000) (disch:=omega) only [push_cast,simprocAttr,a2,↓gd]) (by simp)
 have bo:=hi3.get (j:=po) (B:=.cells 3 (fcs e.out)) (by rw [List.getElem?_set_ne (by omega)]; exact ho1) (by simp)
 have lb0:=lt_of_some b0
 have lb1:=lt_of_some b1
 have lb2:=lt_of_some b2
 have lpi:=lt_of_some hi1
 rw [List.length_set] at hi2
 have hub:Upd [] S Sb:=(hua.set _ (.inl (by omega))).trans hi3
 simp -implicitDefEqProofs (maxSteps:=1000000) (disch:=omega) only [push_cast,simprocAttr,b0,b2,↓gd]
 refine ((toStreamS_O e.strs he.sts (by omega) _).as (by rfl)).mono ?_
 rintro r Sc ⟨b,ls,rfl,hq⟩
 have c0:=hq.upd.get (j:=S.length) (B:=.cells 0 (erC e)) (by simp -implicitDefEqProofs (maxSteps:=1000000) (disch:=omega) only [push_cast,simprocAttr,b0,↓gd]) (by simp)
 have c1:=hq.upd.get (j:=S.length+1) (B:=.cells 0 zE) (by simp -implicitDefEqProofs (maxSteps:=1000000) (disch:=omega) only [push_cast,simprocAttr,b1,↓gd]) (by simp)
 have c2:=hq.upd.get (j:=S.length+2) (B:=.cells 0 [V.bool e.ans,.heap po e.out.length,.int .i64 e.outM,.heap pi e.inn.length,.int .i64 e.innM,.str e.came,.nils,.int .i64 0,.int .i64 0,.nils,.bool false]) (by simp -implicitDefEqProofs (maxSteps:=1000000) (disch:=omega) only [push_cast,simprocAttr,b2,↓gd]) (by simp)
 have co:=hq.upd.get (j:=po) (B:=.cells 3 (fcs e.out)) (by simp only [List.getElem?_set_ne (show S.length+2≠po by omega)]; exact bo) (by simp)
 have ci:=hq.upd.get (j:=pi) (B:=.cells 3 (fcs e.inn)) (by simp only [List.getElem?_set_ne (show S.length+2≠pi by omega)]; exact hi1) (by simp)
 have lc0:=lt_of_some c0
 have lc1:=lt_of_some c1
 have lc2:=lt_of_some c2
 have hqb:=hq.hb
 have hqlo:=hq.lo
 simp only [List.length_set] at hqb hqlo
 have huc:Upd [] S Sc:=(hub.set _ (.inl (by omega))).trans hq.upd
 simp -implicitDefEqProofs (maxSteps:=1000000) (disch:=omega) only [push_cast,simprocAttr,c0,c2,↓gd]
 refine ((toFlow_ok e.send e.room _).as (by rfl)).to ?_
 simp -implicitDefEqProofs (maxSteps:=1000000) (disch:=omega) only [push_cast,simprocAttr,c0,c1,c2,↓gd]
 refine ((toFrameS_O e.wait (by omega) _).as (by rfl)).to ?_
 simp -implicitDefEqProofs (maxSteps:=1000000) (disch:=omega) only [push_cast,simprocAttr,c0,c1,c2,↓gd]
 have hk:∀(A B:Blk) (X:List Blk) (p n:Nat) (cs:List V),n≠0→Sc[p]?=some (.cells n cs)→((Sc.set (S.length+2) A).set (S.length+1) B++X)[p]?=some (.cells n cs):=fun A B X p n cs hn hp=>by
  have lp:=lt_of_some hp
  have g2:S.length+2≠p:=by rintro rfl; rw [c2] at hp; cases hp; exact hn rfl
  have g1:S.length+1≠p:=by rintro rfl; rw [c1] at hp; cases hp; exact hn rfl
  rw [List.getElem?_append_left (by simpa using lp),List.getElem?_set_ne g1,List.getElem?_set_ne g2]
  exact hp
 have hl2:=hq.upd.1
 simp only [List.length_set] at hl2
 refine ⟨_,_,Wk.refl _ _ _,po,pi,b,Sc.length,ls,rfl,⟨hq.strs,hk _ _ _ _ _ _ (by decide) hq.kb,?_,hk _ _ _ _ _ _ (by decide) co,hk _ _ _ _ _ _ (by decide) ci,hq.own.to (fun p cs hp=>hk _ _ _ p 3 cs (by decide) hp),?_,?_,by omega,by omega,((huc.set _ (.inl (by omega))).set _ (.inl (by omega))).app _⟩⟩
 ·rw [List.getElem?_append_right (by simp)]
  simp
 ·refine List.pairwise_cons.2 ⟨fun x hx=>?_,List.pairwise_cons.2 ⟨fun x hx=>?_,hq.lt⟩⟩
  ·rcases List.mem_cons.1 hx with rfl | hx
   ·omega
   ·have:=hqlo x hx; omega
  ·have:=hqlo x hx; omega
 ·intro x hx
  rcases List.mem_cons.1 hx with rfl | hx
  ·omega
  ·rcases List.mem_cons.1 hx with rfl | hx
   ·omega
   ·have:=hqlo x hx; omega
end
section
open Go
theorem splice_cons:∀(cs:List V) (o:Nat) (x:V) (xs:List V),splice cs o (x :: xs)=splice (cs.set o x) (o+1) xs
 | [],o,x,xs=>by cases o <;> cases xs <;> simp [splice]
 | c :: cs,0,x,xs=>by
  rw [List.set_cons_zero]
  cases xs with
  | nil=>cases cs <;> simp [splice]
  | cons y ys=>cases cs <;> simp [splice]
 | c :: cs,o+1,x,xs=>by
  have:=splice_cons cs o x xs
  rw [List.set_cons_succ,splice,splice,this]
theorem splice_nil:∀(cs:List V) (o:Nat),splice cs o []=cs
 | [],o=>by cases o <;> simp [splice]
 | c :: cs,0=>by simp [splice]
 | c :: cs,o+1=>by simp [splice,splice_nil cs o]
theorem set_same_blk {S:List Blk} {p:Nat} {B:Blk} (h:S[p]?=some B):S.set p B=S:=by
 apply List.ext_getElem?
 intro j
 rw [List.getElem?_set]
 split
 ·rename_i q
  subst q
  rw [if_pos (lt_of_some h),h]
 ·rfl
theorem set_same2 {cs:List V} {o:Nat} {v:V} (h:cs[o]?=some v):cs.set o v=cs:=by
 apply List.ext_getElem?
 intro j
 rw [List.getElem?_set]
 split
 ·rename_i q
  subst q
  rw [if_pos (List.getElem?_eq_some_iff.1 h).1,h]
 ·rfl
def mkFto (l:List Fd) (k i:Nat):List Fd:=mkFs i k++l.drop i
theorem mkFto_len (l:List Fd) (k:Nat) {i:Nat} (h:i≤l.length):(mkFto l k i).length=l.length:=by rw [mkFto,List.length_append,mkFs_len,List.length_drop]; omega
theorem mkFto_all (l:List Fd) (k:Nat):mkFto l k l.length=mkFs l.length k:=by simp [mkFto]
theorem mkFto_set (l:List Fd) (k:Nat) {i:Nat} (h:i < l.length):(mkFto l k i).set i (mkF (k+3 * i))=mkFto l k (i+1):=by
 unfold mkFto
 rw [List.set_append_right _ _ (by rw [mkFs_len]; exact Nat.le_refl _),mkFs_len,Nat.sub_self,List.drop_eq_getElem_cons h,List.set_cons_zero,mkFs_snoc,List.append_assoc]
 rfl
theorem tmod3 (n:Nat):Int.tmod (n:Int) 3=((n % 3:Nat):Int):=tmod_nat n 3
theorem dec3 (n:Nat):decide (Int.tmod (n:Int) 3=0)=decide (n % 3=0):=by
 rw [tmod3]
 exact decide_eq_decide.2 ⟨fun h=>by omega,fun h=>by omega⟩
theorem markFieldS_ok (l:List Fd) (k:Nat) (hl:l.length≤2000000) (hk:k+3 * l.length≤90000000) {S:List Blk} {p:Nat} (hp:S[p]?=some (.cells 3 (fcs l))) :
  VCall Tryz.prog 98 [.heap p l.length,.int .i64 k] S fun r S'=>r=.int .i64 ((k+3 * l.length:Nat):Int)∧S'=S.set p (.cells 3 (fcs (mkFto l k l.length))):=by
 have lp:=lt_of_some hp
 refine VCall.en hDf Tryz.func98 Tryz.ntmps98 Tryz.results98 ?_
 simp -implicitDefEqProofs (maxSteps:=1000000) (disch:=omega) only [push_cast,simprocAttr,↓gd]
 refine wpV_loop (fun m t S'=>∃i K:Nat,m=l.length - i∧i≤l.length∧K=k+3 * i∧t 0=.heap p l.length∧t 1=.int .i64 (K:Int)∧t 5=.int .i64 i∧S'=S.set p (.cells 3 (fcs (mkFto l k i)))) l.length ⟨0,k,by omega,by omega,by omega,rfl,rfl,rfl,by rw [show mkFto l k 0=l from rfl]; exact (set_same_blk hp).symm⟩ ?_
 rintro m t S' ⟨i,K0,rfl,hi,hK0,h0,h1,h5,rfl⟩
 refine wpV_of0 hDf ?_
 by_cases hil:i < l.length
 ·have hil':(i:Int) < l.length:=by omega
  have hCl:=fcs_len (mkFto l k i)
  rw [mkFto_len l k hi] at hCl
  have hput:=fcs_put (l:=mkFto l k i) (i:=i) (mkF (k+3 * i)) (by rw [mkFto_len l k hi]; exact hil)
  rw [mkFto_set l k hil,←hK0] at hput
  obtain ⟨K1,hK1⟩:∃n:Nat,n=K0+1:=⟨_,rfl⟩
  obtain ⟨K2,hK2⟩:∃n:Nat,n=K1+1:=⟨_,rfl⟩
  obtain ⟨K3,hK3⟩:∃n:Nat,n=K2+1:=⟨_,rfl⟩
  have hput:splice (fcs (mkFto l k i)) (i * 3) [V.str (mtext K0),V.str (mtext K1),V.bool (decide (K2 % 3=0))]=fcs (mkFto l k (i+1)):=by
   rw [←hput]
   subst hK2 hK1
   rfl
  have e0:(K0:Int)+1=(K1:Int):=by omega
  have x0:=fun T=>markText_ok K0 (by omega) T
  generalize hm0:mtext K0=m0 at *
  have e1:(K1:Int)+1=(K2:Int):=by omega
  have x1:=fun T=>markText_ok K1 (by omega) T
  generalize hm1:mtext K1=m1 at *
  have e2:(K2:Int)+1=(K3:Int):=by omega
  have d2:=dec3 K2
  generalize hb2:decide (K2 % 3=0)=bb2 at *
  generalize fcs (mkFto l k i)=C0 at *
  generalize hCn:fcs (mkFto l k (i+1))=C3 at *
  simp only [splice_cons,splice_nil,Nat.add_assoc,Nat.reduceAdd] at hput
  obtain ⟨C1,hC1⟩:∃C,C=C0.set (i * 3) (V.str m0):=⟨_,rfl⟩
  rw [←hC1] at hput
  have q0:splice C0 (i * 3) [V.str m0]=C1:=by rw [splice_one,hC1]
  have n1:C1.length=l.length * 3:=by rw [hC1,List.length_set]; exact hCl
  obtain ⟨C2,hC2⟩:∃C,C=C1.set (i * 3+1) (V.str m1):=⟨_,rfl⟩
  rw [←hC2] at hput
  have q1:splice C1 (i * 3+1) [V.str m1]=C2:=by rw [splice_one,hC2]
  have n2:C2.length=l.length * 3:=by rw [hC2,List.length_set]; exact n1
  have q2:splice C2 (i * 3+2) [V.bool bb2]=C3:=by rw [splice_one]; exact hput
  clear hC2 hC1 hput
  simp -implicitDefEqProofs (maxSteps:=1000000) (disch:=omega) only [push_cast,simprocAttr,h0,h1,h5,hil',lp,e0,e1,e2,d2,q0,q1,q2,↓gd]
  repeat refine And.intro (by omega) ?_
  refine ((x0 _).as (by rfl)).to ?_
  simp -implicitDefEqProofs (maxSteps:=1000000) (disch:=omega) only [push_cast,simprocAttr,h0,h1,h5,hil',lp,e0,e1,e2,d2,q0,q1,q2,↓gd]
  repeat refine And.intro (by omega) ?_
  refine ((x1 _).as (by rfl)).to ?_
  simp -implicitDefEqProofs (maxSteps:=1000000) (disch:=omega) only [push_cast,simprocAttr,h0,h1,h5,hil',lp,e0,e1,e2,d2,q0,q1,q2,↓gd]
  repeat refine And.intro (by omega) ?_
  exact ⟨l.length - (i+1),by omega,i+1,K3,rfl,by omega,by omega,by simp,by simp,by rw [hCn]⟩
 ·have:i=l.length:=by omega
  subst this
  have hil':¬((l.length:Nat):Int) < l.length:=by omega
  simp -implicitDefEqProofs (maxSteps:=1000000) (disch:=omega) only [push_cast,simprocAttr,h0,h1,h5,hil',↓gd]
  exact ⟨_,_,Wk.refl _ _ _,by rw [hK0]; rfl,rfl⟩
def mkFrto (l:List Fr) (k i:Nat):List Fr:=mkFrs i k++l.drop i
theorem mkFrto_len (l:List Fr) (k:Nat) {i:Nat} (h:i≤l.length):(mkFrto l k i).length=l.length:=by rw [mkFrto,List.length_append,mkFrs_len,List.length_drop]; omega
theorem mkFrto_all (l:List Fr) (k:Nat):mkFrto l k l.length=mkFrs l.length k:=by simp [mkFrto]
theorem mkFrto_set (l:List Fr) (k:Nat) {i:Nat} (h:i < l.length):(mkFrto l k i).set i (mkFr (k+4 * i))=mkFrto l k (i+1):=by
 unfold mkFrto
 rw [List.set_append_right _ _ (by rw [mkFrs_len]; exact Nat.le_refl _),mkFrs_len,Nat.sub_self,List.drop_eq_getElem_cons h,List.set_cons_zero,mkFrs_snoc,List.append_assoc]
 rfl
theorem markFrameS_ok (l:List Fr) (k:Nat) (hl:l.length≤2000000) (hk:k+4 * l.length≤90000000) {S:List Blk} {p:Nat} (hp:S[p]?=some (.cells 4 (frmsC l))) :
  VCall Tryz.prog 51 [.heap p l.length,.int .i64 k] S fun r S'=>r=.int .i64 ((k+4 * l.length:Nat):Int)∧S'=S.set p (.cells 4 (frmsC (mkFrto l k l.length))):=by
 have lp:=lt_of_some hp
 refine VCall.en hDe Tryz.func51 Tryz.ntmps51 Tryz.results51 ?_
 simp -implicitDefEqProofs (maxSteps:=1000000) (disch:=omega) only [push_cast,simprocAttr,↓gd]
 refine wpV_loop (fun m t S'=>∃i K:Nat,m=l.length - i∧i≤l.length∧K=k+4 * i∧t 0=.heap p l.length∧t 1=.int .i64 (K:Int)∧t 5=.int .i64 i∧S'=S.set p (.cells 4 (frmsC (mkFrto l k i)))) l.length ⟨0,k,by omega,by omega,by omega,rfl,rfl,rfl,by rw [show mkFrto l k 0=l from rfl]; exact (set_same_blk hp).symm⟩ ?_
 rintro m t S' ⟨i,K0,rfl,hi,hK0,h0,h1,h5,rfl⟩
 refine wpV_of0 hDe ?_
 by_cases hil:i < l.length
 ·have hil':(i:Int) < l.length:=by omega
  have hCl:=frmsC_len (mkFrto l k i)
  rw [mkFrto_len l k hi] at hCl
  have hput:=frmsC_put (l:=mkFrto l k i) (i:=i) (mkFr (k+4 * i)) (by rw [mkFrto_len l k hi]; exact hil)
  rw [mkFrto_set l k hil,←hK0] at hput
  obtain ⟨K1,hK1⟩:∃n:Nat,n=K0+1:=⟨_,rfl⟩
  obtain ⟨K2,hK2⟩:∃n:Nat,n=K1+1:=⟨_,rfl⟩
  obtain ⟨K3,hK3⟩:∃n:Nat,n=K2+1:=⟨_,rfl⟩
  obtain ⟨K4,hK4⟩:∃n:Nat,n=K3+1:=⟨_,rfl⟩
  have hput:splice (frmsC (mkFrto l k i)) (i * 4) [V.int .i64 (K0:Int),V.bool (decide (K1 % 3=0)),V.int .i64 (K2:Int),V.str (mtext K3)]=frmsC (mkFrto l k (i+1)):=by
   rw [←hput]
   subst hK3 hK2 hK1
   rfl
  have e0:(K0:Int)+1=(K1:Int):=by omega
  have e1:(K1:Int)+1=(K2:Int):=by omega
  have d1:=dec3 K1
  generalize hb1:decide (K1 % 3=0)=bb1 at *
  have e2:(K2:Int)+1=(K3:Int):=by omega
  have e3:(K3:Int)+1=(K4:Int):=by omega
  have x3:=fun T=>markText_ok K3 (by omega) T
  generalize hm3:mtext K3=m3 at *
  generalize frmsC (mkFrto l k i)=C0 at *
  generalize hCn:frmsC (mkFrto l k (i+1))=C4 at *
  simp only [splice_cons,splice_nil,Nat.add_assoc,Nat.reduceAdd] at hput
  obtain ⟨C1,hC1⟩:∃C,C=C0.set (i * 4) (V.int .i64 (K0:Int)):=⟨_,rfl⟩
  rw [←hC1] at hput
  have q0:splice C0 (i * 4) [V.int .i64 (K0:Int)]=C1:=by rw [splice_one,hC1]
  have n1:C1.length=l.length * 4:=by rw [hC1,List.length_set]; exact hCl
  obtain ⟨C2,hC2⟩:∃C,C=C1.set (i * 4+1) (V.bool bb1):=⟨_,rfl⟩
  rw [←hC2] at hput
  have q1:splice C1 (i * 4+1) [V.bool bb1]=C2:=by rw [splice_one,hC2]
  have n2:C2.length=l.length * 4:=by rw [hC2,List.length_set]; exact n1
  obtain ⟨C3,hC3⟩:∃C,C=C2.set (i * 4+2) (V.int .i64 (K2:Int)):=⟨_,rfl⟩
  rw [←hC3] at hput
  have q2:splice C2 (i * 4+2) [V.int .i64 (K2:Int)]=C3:=by rw [splice_one,hC3]
  have n3:C3.length=l.length * 4:=by rw [hC3,List.length_set]; exact n2
  have q3:splice C3 (i * 4+3) [V.str m3]=C4:=by rw [splice_one]; exact hput
  clear hC3 hC2 hC1 hput
  simp -implicitDefEqProofs (maxSteps:=1000000) (disch:=omega) only [push_cast,simprocAttr,h0,h1,h5,hil',lp,e0,e1,d1,e2,e3,q0,q1,q2,q3,↓gd]
  repeat refine And.intro (by omega) ?_
  refine ((x3 _).as (by rfl)).to ?_
  simp -implicitDefEqProofs (maxSteps:=1000000) (disch:=omega) only [push_cast,simprocAttr,h0,h1,h5,hil',lp,e0,e1,d1,e2,e3,q0,q1,q2,q3,↓gd]
  repeat refine And.intro (by omega) ?_
  exact ⟨l.length - (i+1),by omega,i+1,K4,rfl,by omega,by omega,by simp,by simp,by rw [hCn]⟩
 ·have:i=l.length:=by omega
  subst this
  have hil':¬((l.length:Nat):Int) < l.length:=by omega
  simp -implicitDefEqProofs (maxSteps:=1000000) (disch:=omega) only [push_cast,simprocAttr,h0,h1,h5,hil',↓gd]
  exact ⟨_,_,Wk.refl _ _ _,by rw [hK0]; rfl,rfl⟩
end
end Go.Proofs.YtldogccmhncnoaaGreatDoor
