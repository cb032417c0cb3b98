/- A part of the proof: contracts of functions, or plain facts on which these lean. -/
import Derived.Test.YtldogccmhncnoaaGreatDoorMh15
import Derived.Test.YtldogccmhncnoaaGreatDoorMh16
import Derived.Test.YtldogccmhncnoaaGreatDoorMh20
import Derived.Test.YtldogccmhncnoaaGreatDoorMh23
namespace Go.Proofs.YtldogccmhncnoaaGreatDoor
open Go
set_option linter.unusedVariables false
set_option linter.unusedSimpArgs false
set_option maxRecDepth 100000
set_option maxHeartbeats 16000000

section
open Go
inductive FL (S:List Blk) (l:List Fd):V→Prop
 | rows:FL S l (.rows none (l.map fV))
 | own {p:Nat}:S[p]?=some (.cells 3 (fcs l))→FL S l (.heap p l.length)
theorem FL.one {S:List Blk} {l:List Fd} {v:V} (h:FL S l v):V.one v=true:=by cases h <;> rfl
theorem FL.er {S:List Blk} {l:List Fd} {v:V} (h:FL S l v):eraseC v=v:=by cases h <;> rfl
theorem FL.er1 {S:List Blk} {l:List Fd} {v:V} (h:FL S l v):erase1 v=v:=by cases h <;> rfl
theorem FL.upd {S S':List Blk} {l:List Fd} {v:V} (h:FL S l v) (hu:Upd [] S S'):FL S' l v:=by
 cases h with
 | rows=>exact .rows
 | own hp=>exact .own (hu.get hp (by simp))
theorem FL.app {S:List Blk} {l:List Fd} {v:V} (h:FL S l v) (X:List Blk):FL (S++X) l v:=h.upd ((Upd.refl _ _).app X)
theorem fds_cells (l:List Fd):(l.map fV).flatMap V.cells=fcs l:=by
 induction l with
 | nil=>rfl
 | cons f l ih=>rw [List.map_cons,List.flatMap_cons,ih]; rfl
theorem fcs_bare (l:List Fd):∀u ∈ fcs l,Bare u:=by
 intro u hu
 obtain ⟨f,_,hf⟩:=List.mem_flatMap.1 hu
 simp only [List.mem_cons,List.not_mem_nil,or_false] at hf
 rcases hf with rfl | rfl | rfl
 ·exact .str _
 ·exact .str _
 ·exact .bool _
theorem FL.bor {S:List Blk} {l:List Fd} {v:V} (h:FL S l v):BorC S (.rows none (l.map fV)) v:=by
 cases h with
 | rows=>exact .same (cl_fds _ _)
 | own hp =>
  have:=BorC.arr (S:=S) (xs:=l.map fV) (by rw [fds_cells]; exact hp) (by rw [fds_cells]; exact fcs_bare l)
  rwa [List.length_map] at this
def strX (s:St) (vh vg:V):List V:=[.int .i64 s.id,.int .i64 s.state,vh,.str s.say,.bool s.begun,.bool s.said,.int .i64 s.sent,vg,.str s.text,.bool s.heard,.int .i64 s.send,.int .i64 s.room]
@[push_cast] theorem strX_eq (s:St) (vh vg:V):strX s vh vg=[.int .i64 s.id,.int .i64 s.state,vh,.str s.say,.bool s.begun,.bool s.said,.int .i64 s.sent,vg,.str s.text,.bool s.heard,.int .i64 s.send,.int .i64 s.room]:=rfl
abbrev XS:=St × V × V
def xs0:XS:=(st0,.nils,.nils)
def xsF (x:XS):List V:=strX x.1 x.2.1 x.2.2
def xsC (ls:List XS):List V:=ls.flatMap xsF
theorem xsF_len (x:XS):(xsF x).length=12:=rfl
theorem xsC_len (ls:List XS):(xsC ls).length=ls.length * 12:=fl_len xsF_len ls
theorem xsC_at {ls:List XS} {i:Nat} (h:i < ls.length):((xsC ls).drop (i * 12)).take 12=xsF (ls.getD i xs0):=fl_at xsF_len xs0 h
theorem xsC_get {ls:List XS} {i:Nat} (h:i < ls.length) {c:Nat} (hc:c < 12):(xsC ls)[i * 12+c]?=(xsF (ls.getD i xs0))[c]?:=by
 rw [←xsC_at h,List.getElem?_take,if_pos hc,List.getElem?_drop]
theorem xsC_id {ls:List XS} {i:Nat} (h:i < ls.length):(xsC ls)[i * 12]?=some (.int .i64 (ls.getD i xs0).1.id):=xsC_get h (c:=0) (by decide)
theorem xs_fst {ls:List XS} {l:List St} (h:ls.map Prod.fst=l) (i:Nat):(ls.getD i xs0).1=l.getD i st0:=by
 subst h
 rw [List.getD_eq_getElem?_getD,List.getD_eq_getElem?_getD,List.getElem?_map]
 cases ls[i]? <;> rfl
def enX (vo vi v w:V) (e:En):List V:=[.bool e.ans,vo,.int .i64 e.outM,vi,.int .i64 e.innM,.str e.came,v,.int .i64 e.send,.int .i64 e.room,w,.bool e.bad]
@[push_cast] theorem enX_eq (vo vi v w:V) (e:En):enX vo vi v w e=[.bool e.ans,vo,.int .i64 e.outM,vi,.int .i64 e.innM,.str e.came,v,.int .i64 e.send,.int .i64 e.room,w,.bool e.bad]:=rfl
def xV (vo vi:V) (b c:Nat) (e:En):V:=.agg (enX vo vi (.heap b e.strs.length) (.heap c e.wait.length) e)
@[push_cast] theorem xV_eq (vo vi:V) (b c:Nat) (e:En):xV vo vi b c e=.agg [.bool e.ans,vo,.int .i64 e.outM,vi,.int .i64 e.innM,.str e.came,.heap b e.strs.length,.int .i64 e.send,.int .i64 e.room,.heap c e.wait.length,.bool e.bad]:=rfl
structure EnX (S:List Blk) (vo vi:V) (b c:Nat) (ls:List XS) (e:En):Prop where
 strs:ls.map Prod.fst=e.strs
 hb:S[b]?=some (.cells 12 (xsC ls))
 hc:S[c]?=some (.cells 4 (frmsC e.wait))
 out:FL S e.out vo
 inn:FL S e.inn vi
 heads:∀x ∈ ls,FL S x.1.head x.2.1∧FL S x.1.got x.2.2
theorem EnX.upd {S S':List Blk} {vo vi:V} {b c:Nat} {ls:List XS} {e:En} (h:EnX S vo vi b c ls e) (hu:Upd [] S S'):EnX S' vo vi b c ls e :=
 ⟨h.strs,hu.get h.hb (by simp),hu.get h.hc (by simp),h.out.upd hu,h.inn.upd hu,fun x hx=>⟨(h.heads x hx).1.upd hu,(h.heads x hx).2.upd hu⟩⟩
theorem EnX.app {S:List Blk} {vo vi:V} {b c:Nat} {ls:List XS} {e:En} (h:EnX S vo vi b c ls e) (X:List Blk):EnX (S++X) vo vi b c ls e:=h.upd ((Upd.refl _ _).app X)
theorem EnX.len {S:List Blk} {vo vi:V} {b c:Nat} {ls:List XS} {e:En} (h:EnX S vo vi b c ls e):ls.length=e.strs.length:=by rw [←h.strs,List.length_map]
def rowsL (l:List St):List XS:=l.map fun s=>(s,.rows none (s.head.map fV),.rows none (s.got.map fV))
theorem rowsL_c (l:List St):xsC (rowsL l)=strsC l:=by
 unfold xsC rowsL strsC
 rw [List.flatMap_map]
 rfl
theorem EnAt.x {S:List Blk} {b c:Nat} {e:En} (h:EnAt S b c e):EnX S (.rows none (e.out.map fV)) (.rows none (e.inn.map fV)) b c (rowsL e.strs) e :=
 ⟨by unfold rowsL; rw [List.map_map]; exact List.map_id _,by rw [rowsL_c]; exact h.1,h.2,.rows,.rows,fun x hx=>by
  obtain ⟨s,_,rfl⟩:=List.mem_map.1 hx
  exact ⟨.rows,.rows⟩⟩
theorem borL_one {S:List Blk} {a b:V} (h:Bor S a b):BorL S [a] [b]:=⟨rfl,fun i x y hx hy=>by
 cases i with
 | zero=>cases hx; cases hy; exact h
 | succ i=>simp at hx⟩
theorem TableOk_X (l:List Fd) (max:Int) (hl:FdsB l) {S:List Blk} {v:V} (h:FL S l v):VCall Tryz.prog 87 [.agg [v,.int .i64 max]] S fun r S'=>r=.bool (tableOk l max)∧S'=S:=by
 refine VCall.borrow ⟨_,Tryz.func87,rfl,rfl⟩ (fun S=>TableOk_ok l max hl S) (.bool _) (borL_one (.agg rfl fun i a b ha hb=>?_))
 match i with
 | 0=>cases ha; cases hb; exact h.bor
 | 1=>cases ha; cases hb; exact .same (.int _ _)
 | i+2=>simp at ha
theorem streamOk_X (s:St) (hs:StB s) (hid:strmOk s.id=true) {S:List Blk} {vh vg:V} (h:FL S s.head vh) (g:FL S s.got vg):VCall Tryz.prog 83 [.agg (strX s vh vg)] S fun r S'=>r=.bool (stOk s)∧S'=S:=by
 refine VCall.borrow ⟨_,Tryz.func83,rfl,rfl⟩ (fun S=>streamOk_ok s hs hid S) (.bool _) (borL_one (.agg (cs:=strC s) rfl fun i a b ha hb=>?_))
 match i with
 | 0=>cases ha; cases hb; exact .same (.int _ _)
 | 1=>cases ha; cases hb; exact .same (.int _ _)
 | 2=>cases ha; cases hb; exact h.bor
 | 3=>cases ha; cases hb; exact .same (.str _)
 | 4=>cases ha; cases hb; exact .same (.bool _)
 | 5=>cases ha; cases hb; exact .same (.bool _)
 | 6=>cases ha; cases hb; exact .same (.int _ _)
 | 7=>cases ha; cases hb; exact g.bor
 | 8=>cases ha; cases hb; exact .same (.str _)
 | 9=>cases ha; cases hb; exact .same (.bool _)
 | 10=>cases ha; cases hb; exact .same (.int _ _)
 | 11=>cases ha; cases hb; exact .same (.int _ _)
 | i+12=>simp [strC] at ha
theorem EndOk_X {e:En} (he:EnB e) {S:List Blk} {vo vi:V} {b c:Nat} {ls:List XS} (h:EnX S vo vi b c ls e):VCall Tryz.prog 41 [xV vo vi b c e] S fun r S'=>r=.bool (endOk e)∧S'=S:=by
 have hln:=h.len
 have hfst:=xs_fst h.strs
 obtain ⟨hls,hb,hc,hvo,hvi,hh⟩:=h
 have vo1:=hvo.one
 have vi1:=hvi.one
 have voe:=hvo.er
 have vie:=hvi.er
 have hbl:=lt_of_some hb
 have hcl:=lt_of_some hc
 have hlen:=xsC_len ls
 have hel:=he.len
 have hwn:=he.wait
 refine VCall.ex hDe (fun _=>false) (fun id=>if id=4 then [2,2,35,35,35,35,35,35,35,35,35,35,35,35,35,35,35,35,35,35,35,35,35,35,35,35,35,35,35,35,35,35,35,35,35,38,38,38] else []) Tryz.func41 Tryz.ntmps41 Tryz.results41 ?_
 simp -implicitDefEqProofs (disch:=omega) only [push_cast,simprocAttr,vo1,vi1,↓gd]
 refine wpV_loop (fun m t S1=>∃(i:Nat) (X:List Blk),m=e.strs.length - i∧i≤e.strs.length∧(∀j,j < i→okAt e.ans e.strs j=true)∧t 1=.ptr S.length 0∧t 6=.heap b e.strs.length∧t 7=.int .i64 e.strs.length∧t 8=.int .i64 i ∧
  S1=S++([.cells 0 (enX vo vi (.heap b e.strs.length) (.heap c e.wait.length) e)]++X)) e.strs.length
  ⟨0,[],by omega,by omega,by omega,rfl,rfl,rfl,rfl,rfl⟩ ?_
 rintro m t S1 ⟨i,X,rfl,hi,hok,h1,h6,h7,h8,rfl⟩
 refine wpV_of hDe (fun _=>false) (fun id=>if id=4 then [2,2,35,35,35,35,35,35,35,35,35,35,35,35,35,35,35,35,35,35,35,35,35,35,35,35,35,35,35,35,35,35,35,35,35,38,38,38] else []) (by kernel_rfl) ?_
 simp -implicitDefEqProofs (disch:=omega) only [push_cast,simprocAttr,h1,h6,h7,h8,↓gd]
 refine ⟨fun h=>?_,fun h=>?_⟩
 ·have hil:i < e.strs.length:=by omega
  have hil0:i < ls.length:=by omega
  have hat:=xsC_at hil0
  have hid:=xsC_id hil0
  have hxm:=hh (ls.getD i xs0) (by rw [List.getD_eq_getElem?_getD,List.getElem?_eq_getElem hil0]; exact List.getElem_mem hil0)
  have hfi:=hfst i
  have hsb:=he.sts _ (getD_memS hil)
  have bad:okAt e.ans e.strs i=false→endOk e=false:=fun q=>endOk_bad hil q
  have hx:okAt e.ans e.strs i=(stOk (e.strs.getD i st0) && (decide (i=0) || decide ((e.strs.getD (i - 1) st0).id < (e.strs.getD i st0).id)) && (e.ans || decide ((e.strs.getD i st0).id=2 * i+1))):=rfl
  have hid':∀_:0 < i,(xsC ls)[(i - 1) * 12]?=some (.int .i64 (e.strs.getD (i - 1) st0).id):=fun q=>by rw [←hfst]; exact xsC_id (ls:=ls) (i:=i - 1) (by omega)
  rw [←hfi] at hsb hx
  generalize ls.getD i xs0=xx at hat hid hsb hx hxm
  obtain ⟨s,vh,vg⟩:=xx
  obtain ⟨hvh,hvg⟩:=hxm
  have vh1:=hvh.one
  have vg1:=hvg.one
  have vhe:=hvh.er
  have vge:=hvg.er
  simp only [xsF] at hat hid hsb hx hvh hvg vh1 vg1 vhe vge
  generalize e.strs.getD (i - 1) st0=p at hid' hx
  simp -implicitDefEqProofs (disch:=omega) only [push_cast,simprocAttr,h1,h6,h7,h8,hb,hat,hid,vh1,vg1,vhe,vge,↓gd]
  repeat refine And.intro (by omega) ?_
  refine (isStream_ok s.id _).to ?_
  cases hs:strmOk s.id
  ·simp -implicitDefEqProofs (disch:=omega) only [push_cast,simprocAttr,h1,h6,h7,h8,hb,hat,hid,vh1,vg1,vhe,vge,↓gd]
   exact fin1 (.bool _) (by rw [bad (by rw [hx,stOk,hs]; rfl)])
  have okf:stOk s=true→(i=0∨p.id < s.id)→(e.ans=true∨s.id=2 * (i:Int)+1)→okAt e.ans e.strs i=true:=fun q1 q2 q3=>by
   have a2:(decide (i=0) || decide (p.id < s.id))=true:=by rcases q2 with q | q <;> simp [q]
   have a3:(e.ans || decide (s.id=2 * (i:Int)+1))=true:=by
    rcases q3 with q | q
    ·simp [q]
    ·rw [decide_eq_true q]; simp
   rw [hx,q1,a2,a3]; rfl
  have next:∀(a:Bool) (B:Blk) (Y:List Blk),e.ans=a→okAt e.ans e.strs i=true→∃m',m' < e.strs.length - i∧∃(i':Nat) (X':List Blk),m'=e.strs.length - i'∧i'≤e.strs.length∧(∀j,j < i'→okAt a e.strs j=true) ∧
    V.int .i64 ((i:Int)+1)=.int .i64 (i':Nat)∧S++B :: (X++Y)=S++B :: X':=fun a B Y ea q =>
   ⟨e.strs.length - (i+1),by omega,i+1,X++Y,rfl,by omega,fun j hj=>by
    subst ea
    by_cases ej:j=i
    ·rw [ej]; exact q
    ·exact hok j (by omega),by simp,rfl⟩
  have fstrm:=fun X=>streamOk_X s hsb hs (hvh.app X) (hvg.app X)
  by_cases h0:i=0
  ·have hip:¬(i:Int) > 0:=by omega
   rcases Bool.eq_false_or_eq_true e.ans with ha | ha
   ·simp -implicitDefEqProofs (disch:=omega) only [push_cast,simprocAttr,h1,h6,h7,h8,hb,hat,hid,vh1,vg1,vhe,vge,hip,ha,↓gd]
    refine ((fstrm _).as rfl).to ?_
    cases hso:stOk s
    ·simp -implicitDefEqProofs (disch:=omega) only [push_cast,simprocAttr,h1,h6,h7,h8,↓gd]
     exact fin1 (.bool _) (by rw [bad (by rw [hx,hso]; rfl)])
    ·simp -implicitDefEqProofs (disch:=omega) only [push_cast,simprocAttr,h1,h6,h7,h8,↓gd]
     exact next _ _ _ ha (okf hso (.inl h0) (.inl ha))
   ·by_cases h1d:s.id=2 * (i:Int)+1
    ·have hd:=eq_true h1d
     simp -implicitDefEqProofs (disch:=omega) only [push_cast,simprocAttr,h1,h6,h7,h8,hb,hat,hid,vh1,vg1,vhe,vge,hip,ha,hd,↓gd]
     repeat refine And.intro (by omega) ?_
     refine ((fstrm _).as rfl).to ?_
     cases hso:stOk s
     ·simp -implicitDefEqProofs (disch:=omega) only [push_cast,simprocAttr,h1,h6,h7,h8,↓gd]
      exact fin1 (.bool _) (by rw [bad (by rw [hx,hso]; rfl)])
     ·simp -implicitDefEqProofs (disch:=omega) only [push_cast,simprocAttr,h1,h6,h7,h8,↓gd]
      exact next _ _ _ ha (okf hso (.inl h0) (.inr h1d))
    ·simp -implicitDefEqProofs (disch:=omega) only [push_cast,simprocAttr,h1,h6,h7,h8,hb,hat,hid,vh1,vg1,vhe,vge,hip,ha,h1d,↓gd]
     repeat refine And.intro (by omega) ?_
     exact fin1 (.bool _) (by rw [bad (by rw [hx,ha,decide_eq_false h1d]; simp)])
  ·have hip:(i:Int) > 0:=by omega
   have hi0:((i:Int) - 1).toNat=i - 1:=by omega
   have hid':=hid' (by omega)
   by_cases hlt:s.id≤p.id
   ·simp -implicitDefEqProofs (disch:=omega) only [push_cast,simprocAttr,h1,h6,h7,h8,hb,hat,hid,vh1,vg1,vhe,vge,hip,hid',hi0,hlt,↓gd]
    repeat refine And.intro (by omega) ?_
    exact fin1 (.bool _) (by rw [bad (by rw [hx,decide_eq_false h0,decide_eq_false (by omega:¬p.id < s.id)]; simp)])
   ·rcases Bool.eq_false_or_eq_true e.ans with ha | ha
    ·simp -implicitDefEqProofs (disch:=omega) only [push_cast,simprocAttr,h1,h6,h7,h8,hb,hat,hid,vh1,vg1,vhe,vge,hip,hid',hi0,hlt,ha,↓gd]
     repeat refine And.intro (by omega) ?_
     refine ((fstrm _).as rfl).to ?_
     cases hso:stOk s
     ·simp -implicitDefEqProofs (disch:=omega) only [push_cast,simprocAttr,h1,h6,h7,h8,↓gd]
      exact fin1 (.bool _) (by rw [bad (by rw [hx,hso]; rfl)])
     ·simp -implicitDefEqProofs (disch:=omega) only [push_cast,simprocAttr,h1,h6,h7,h8,↓gd]
      exact next _ _ _ ha (okf hso (.inr (by omega)) (.inl ha))
    ·by_cases h1d:s.id=2 * (i:Int)+1
     ·have hd:=eq_true h1d
      simp -implicitDefEqProofs (disch:=omega) only [push_cast,simprocAttr,h1,h6,h7,h8,hb,hat,hid,vh1,vg1,vhe,vge,hip,hid',hi0,hlt,ha,hd,↓gd]
      repeat refine And.intro (by omega) ?_
      refine ((fstrm _).as rfl).to ?_
      cases hso:stOk s
      ·simp -implicitDefEqProofs (disch:=omega) only [push_cast,simprocAttr,h1,h6,h7,h8,↓gd]
       exact fin1 (.bool _) (by rw [bad (by rw [hx,hso]; rfl)])
      ·simp -implicitDefEqProofs (disch:=omega) only [push_cast,simprocAttr,h1,h6,h7,h8,↓gd]
       exact next _ _ _ ha (okf hso (.inr (by omega)) (.inr h1d))
     ·simp -implicitDefEqProofs (disch:=omega) only [push_cast,simprocAttr,h1,h6,h7,h8,hb,hat,hid,vh1,vg1,vhe,vge,hip,hid',hi0,hlt,ha,h1d,↓gd]
      repeat refine And.intro (by omega) ?_
      exact fin1 (.bool _) (by rw [bad (by rw [hx,ha,decide_eq_false h1d]; simp)])
 ·have:i=e.strs.length:=by omega
  subst this
  have hsts:stsOk e.ans e.strs=true:=by rw [stsOk,List.all_eq_true]; exact fun j hj=>hok j (List.mem_range.1 hj)
  have hE:endOk e=(e.wait.all frameOk && tableOk e.out e.outM && tableOk e.inn e.innM && flowOk e.send e.room && decide (e.came.length≤600) && decide (e.wait.length≤60)):=by
   simp only [endOk,hsts,Bool.true_and]
  by_cases hw:(e.wait.length:Int)≤60
  ·simp -implicitDefEqProofs (disch:=omega) only [push_cast,simprocAttr,h1,hc,hw,↓gd]
   have hcf:=fun X=>ContainsFuncF_ok e.wait 85 [] (fun f=>!frameOk f) (by omega) (c:=c) (S++X) (frmsC_in hc X) (fun g hg=>(endOk1_ok g _).as rfl)
   refine ((hcf _).as rfl).to ?_
   have hany:e.wait.any (fun f=>!frameOk f)=!e.wait.all frameOk:=by
    rw [List.all_eq_not_any_not,Bool.not_not]
   rw [hany]
   cases hall:e.wait.all frameOk
   ·simp -implicitDefEqProofs (disch:=omega) only [push_cast,simprocAttr,h1,↓gd]
    exact fin1 (.bool _) (by rw [hE,hall]; rfl)
   by_cases hcm:(e.came.length:Int)≤600
   ·simp -implicitDefEqProofs (disch:=omega) only [push_cast,simprocAttr,h1,hcm,↓gd]
    refine ((TableOk_X e.out e.outM he.out (hvo.app _)).as (by simp [voe])).to ?_
    cases ht1:tableOk e.out e.outM
    ·simp -implicitDefEqProofs (disch:=omega) only [push_cast,simprocAttr,h1,↓gd]
     exact fin1 (.bool _) (by rw [hE,ht1]; simp)
    simp -implicitDefEqProofs (disch:=omega) only [push_cast,simprocAttr,h1,↓gd]
    refine ((TableOk_X e.inn e.innM he.inn (hvi.app _)).as (by simp [vie])).to ?_
    cases ht2:tableOk e.inn e.innM
    ·simp -implicitDefEqProofs (disch:=omega) only [push_cast,simprocAttr,h1,↓gd]
     exact fin1 (.bool _) (by rw [hE,ht2]; simp)
    simp -implicitDefEqProofs (disch:=omega) only [push_cast,simprocAttr,h1,↓gd]
    refine ((FlowOk_ok e.send e.room _).as rfl).to ?_
    simp -implicitDefEqProofs (disch:=omega) only [push_cast,simprocAttr,h1,↓gd]
    exact fin1 (.bool _) (by rw [hE,hall,ht1,ht2,decide_eq_true (by omega:e.came.length≤600),decide_eq_true (by omega:e.wait.length≤60)]; simp)
   ·simp -implicitDefEqProofs (disch:=omega) only [push_cast,simprocAttr,h1,hcm,↓gd]
    exact fin1 (.bool _) (by rw [hE]; simp; omega)
  ·simp -implicitDefEqProofs (disch:=omega) only [push_cast,simprocAttr,h1,hw,↓gd]
   exact fin1 (.bool _) (by rw [hE]; simp; omega)
end
section
open Go
theorem fcs_all (l:List Fd):(fcs l).take (l.length * 3)=fcs l:=by rw [←fcs_len,List.take_length]
theorem fcs_erase (l:List Fd):(fcs l).map eraseC=fcs l:=by
 induction l with
 | nil=>rfl
 | cons f l ih=>simp only [fcs,List.flatMap_cons,List.map_append] at ih ⊢; rw [ih]; rfl
def FNew (S:List Blk) (l:List Fd) (p:Nat) (S':List Blk):Prop:=S'[p]?=some (.cells 3 (fcs l))∧S.length≤p∧Upd [] S S'
theorem cloneFields_O (l:List Fd) (hl:l.length≤4000000) {S:List Blk} {v:V} (h:FL S l v):VCall Tryz.prog 90 [v] S fun r S'=>r=.heap S.length l.length∧S'=S++[.cells 3 (fcs l)]:=by
 have h3:=fcs_len l
 have hfa:=fcs_all l
 have hfe:=fcs_erase l
 have hfc:=fds_cells l
 cases h with
 | rows =>
  refine VCall.en hDf Tryz.func90 Tryz.ntmps90 Tryz.results90 ?_
  simp -implicitDefEqProofs (disch:=omega) only [push_cast,simprocAttr,hfc,hfe,List.length_map,↓gd]
  repeat refine And.intro (by omega) ?_
  exact ⟨_,_,Wk.refl _ _ _,rfl,rfl⟩
 | @own p hp =>
  have lp:=lt_of_some hp
  refine VCall.en hDf Tryz.func90 Tryz.ntmps90 Tryz.results90 ?_
  simp -implicitDefEqProofs (disch:=omega) only [push_cast,simprocAttr,hp,hfa,hfe,↓gd]
  repeat refine And.intro (by omega) ?_
  exact ⟨_,_,Wk.refl _ _ _,rfl,rfl⟩
theorem cloneFields_X (l:List Fd) (hl:l.length≤4000000) {S:List Blk} {v:V} (h:FL S l v):VCall Tryz.prog 90 [v] S fun r S'=>r=.rows none (l.map fV)∧S'=S:=by
 have h3:=fcs_len l
 have hfa:=fcs_all l
 have hfe:=fcs_erase l
 have hfc:=fds_cells l
 cases h with
 | rows=>exact cloneFields_ok l hl S
 | @own p hp =>
  have lp:=lt_of_some hp
  refine VCall.en hDf Tryz.func90 Tryz.ntmps90 Tryz.results90 ?_
  simp -implicitDefEqProofs (disch:=omega) only [push_cast,simprocAttr,hp,hfa,hfe,↓gd]
  repeat refine And.intro (by omega) ?_
  exact fin_freeze rfl rfl (by omega) (by simp) (by rw [hfc,hfa]) (cl_fds _ _) rfl
theorem tclone_X (l:List Fd) (max:Int) (hl:FdsB l) {S:List Blk} {v:V} (h:FL S l v):VCall Tryz.prog 89 [.agg [v,.int .i64 max]] S fun r S'=>r=tV l max∧S'=S:=by
 have v1:=h.one
 have ve:=h.er
 have ve1:=h.er1
 refine VCall.ex hD (fun _=>false) (fun id=>if id=1 then [2,2,6,6,6,6,7] else []) Tryz.func89 Tryz.ntmps89 Tryz.results89 ?_
 simp -implicitDefEqProofs (disch:=omega) only [push_cast,simprocAttr,v1,ve,↓gd]
 refine ((cloneFields_X l (by have:=hl.1; omega) (h.app _)).as (by simp [ve,ve1])).to ?_
 simp -implicitDefEqProofs (disch:=omega) only [push_cast,simprocAttr,↓gd]
 exact fin1 (cl_tab _ _ _) rfl
theorem tclone_O (l:List Fd) (max:Int) (hl:FdsB l) {S:List Blk} {v:V} (h:FL S l v):VCall Tryz.prog 89 [.agg [v,.int .i64 max]] S fun r S'=>∃p,r=.agg [.heap p l.length,.int .i64 max]∧FNew S l p S':=by
 have v1:=h.one
 have ve:=h.er
 have ve1:=h.er1
 refine VCall.ex hD (fun _=>false) (fun id=>if id=1 then [2,2,6,6,6,6,7] else []) Tryz.func89 Tryz.ntmps89 Tryz.results89 ?_
 simp -implicitDefEqProofs (disch:=omega) only [push_cast,simprocAttr,v1,ve,↓gd]
 refine ((cloneFields_O l (by have:=hl.1; omega) (h.app _)).as (by simp [ve,ve1])).to ?_
 simp -implicitDefEqProofs (disch:=omega) only [push_cast,simprocAttr,↓gd]
 exact ⟨_,_,Wk.refl _ _ _,S.length+2,rfl,by simp -implicitDefEqProofs (disch:=omega) only [push_cast,simprocAttr,↓gd],by omega,(Upd.refl _ _).app _⟩
theorem eclone_X {e:En} (he:EnB e) {S:List Blk} {vo vi:V} {b c:Nat} {ls:List XS} (h:EnX S vo vi b c ls e):VCall Tryz.prog 42 [xV vo vi b c e] S fun r S'=>RNew S e r S':=by
 have hln:=h.len
 have hfst:=xs_fst h.strs
 obtain ⟨hls,hb,hc,hvo,hvi,hh⟩:=h
 have vo1:=hvo.one
 have vi1:=hvi.one
 have voe:=hvo.er
 have vie:=hvi.er
 have voe1:=hvo.er1
 have vie1:=hvi.er1
 have hbl:=lt_of_some hb
 have hcl:=lt_of_some hc
 have hlen:=xsC_len ls
 have hlw:=frmsC_len e.wait
 have hwn:=he.wait
 have hel:=he.len
 refine VCall.ex hDe (fun _=>false) (fun id=>if id=1 then [2,2,5,5,5,8,8,8,10,10,12,12,14,14,15] else if id=6 then [2,2,5,5,5,7,7,9,9,10] else []) Tryz.func42 Tryz.ntmps42 Tryz.results42 ?_
 simp -implicitDefEqProofs (disch:=omega) only [push_cast,simprocAttr,vo1,vi1,voe,vie,↓gd]
 refine ((tclone_X e.out e.outM he.out (hvo.app _)).as (by simp [voe,voe1])).to ?_
 simp -implicitDefEqProofs (disch:=omega) only [push_cast,simprocAttr,↓gd]
 refine ((tclone_X e.inn e.innM he.inn (hvi.app _)).as (by simp [vie,vie1])).to ?_
 simp -implicitDefEqProofs (disch:=omega) only [push_cast,simprocAttr,hc,↓gd]
 repeat refine And.intro (by omega) ?_
 rw [frmsC_all,frmsC_erase]
 refine wpV_loop (fun m t S1=>∃i L:Nat,m=e.strs.length - i∧i≤e.strs.length∧t 1=.ptr S.length 0∧t 2=.ptr (S.length+1) 0∧t 19=.heap b e.strs.length∧t 20=.int .i64 e.strs.length∧t 21=.int .i64 i∧S.length+3≤L ∧
  (i=0∧t 3=.nils∨t 3=.heap L i∧S1[L]?=some (.cells 12 (strsC (e.strs.take i))))∧Upd [] S S1∧S1[S.length]?=some (.cells 0 (enC (.heap b e.strs.length) (.heap (S.length+2) e.wait.length) e)) ∧
  S1[S.length+1]?=some (.cells 0 [V.bool false,V.nils,V.int IntKind.i64 0,V.nils,V.int IntKind.i64 0,V.str [],V.nils,V.int IntKind.i64 0,V.int IntKind.i64 0,V.nils,V.bool false]) ∧
  S1[S.length+2]?=some (.cells 4 (frmsC e.wait))) e.strs.length
  ⟨0,S.length+3,by omega,by omega,rfl,rfl,rfl,rfl,rfl,by omega,.inl ⟨rfl,rfl⟩,(Upd.refl _ _).app _,by simp [enC],by simp,by simp⟩ ?_
 rintro m t S1 ⟨i,L,rfl,hi,h1,h2,h19,h20,h21,hL,h3,hu,k0,k1,k2⟩
 have l0:=lt_of_some k0
 have l1:=lt_of_some k1
 have l2:=lt_of_some k2
 have kb:=hu.get hb (by simp)
 have lb:=lt_of_some kb
 refine wpV_of hDe (fun _=>false) (fun id=>if id=6 then [2,2,5,5,5,7,7,9,9,10] else []) (by kernel_rfl) ?_
 simp -implicitDefEqProofs (disch:=omega) only [push_cast,simprocAttr,h1,h19,h20,h21,k0,↓gd]
 refine ⟨fun h=>?_,fun h=>?_⟩
 ·have hil:i < e.strs.length:=by omega
  have hil0:i < ls.length:=by omega
  have hat:=xsC_at hil0
  have hxm:=hh (ls.getD i xs0) (by rw [List.getD_eq_getElem?_getD,List.getElem?_eq_getElem hil0]; exact List.getElem_mem hil0)
  have hsb:=he.sts _ (getD_memS hil)
  have hfi:=hfst i
  have hlL:=strsC_len (e.strs.take i)
  have hti:(e.strs.take i).length=i:=by simp; omega
  have htk:=take_st hil
  rw [←hfi] at hsb htk
  generalize ls.getD i xs0=xx at hat hsb htk hxm
  obtain ⟨s,vh,vg⟩:=xx
  obtain ⟨hvh,hvg⟩:=hxm
  simp only [xsF] at hat hsb htk hvh hvg
  have vh1:=hvh.one
  have vg1:=hvg.one
  have vhe:=hvh.er
  have vge:=hvg.er
  have vhe1:=hvh.er1
  have vge1:=hvg.er1
  simp -implicitDefEqProofs (disch:=omega) only [push_cast,simprocAttr,h1,h2,h19,h21,k0,k1,k2,kb,hat,vh1,vg1,vhe,vge,↓gd]
  repeat refine And.intro (by omega) ?_
  refine ((cloneFields_X s.head (by have:=hsb.head.1; omega) ((hvh.upd hu).app _)).as (by simp [vhe,vhe1])).to ?_
  simp -implicitDefEqProofs (disch:=omega) only [push_cast,simprocAttr,k0,k1,k2,↓gd]
  refine ((cloneFields_X s.got (by have:=hsb.got.1; omega) ((hvg.upd hu).app _)).as (by simp [vge,vge1])).to ?_
  rcases h3 with ⟨rfl,h3⟩ | ⟨h3,kL⟩
  ·simp -implicitDefEqProofs (disch:=omega) only [push_cast,simprocAttr,h3,h21,k0,k1,k2,↓gd]
   refine ⟨e.strs.length - 1,by omega,1,S1.length+2,rfl,by omega,h1,h2,h19,h20,rfl,by omega,⟨rfl,?_⟩,hu.app _⟩
   ·rw [app_get,htk,strsC_app,strsC_one]
    rfl
  ·have lL:=lt_of_some kL
   simp -implicitDefEqProofs (disch:=omega) only [push_cast,simprocAttr,h3,h21,k0,k1,k2,kL,↓gd]
   repeat refine And.intro (by omega) ?_
   refine ⟨e.strs.length - (i+1),by omega,i+1,S1.length+2,rfl,by omega,h1,h2,h19,h20,rfl,by omega,⟨rfl,?_⟩,(hu.set _ (.inl (by omega))).app _⟩
   ·rw [s1_get,htk,strsC_app,strsC_one]
    rfl
 ·have:i=e.strs.length:=by omega
  subst this
  have kc:=hu.get hc (by simp)
  have lc:=lt_of_some kc
  rcases h3 with ⟨hz,h3⟩ | ⟨h3,kL⟩
  ·have hz':e.strs=[]:=List.length_eq_zero_iff.1 hz
   simp -implicitDefEqProofs (disch:=omega) only [push_cast,simprocAttr,h1,h2,h3,k0,k1,k2,↓gd]
   refine ⟨_,_,nh_strs (e:=e) hz',_,S.length+2,rfl,⟨⟨?_,?_⟩,by simp; omega,by omega,((hu.set _ (.inl (by omega))).set _ (.inl (by omega))).app _⟩⟩
   ·rw [hz',List.length_set,List.length_set,s2_get0]; rfl
   ·simp -implicitDefEqProofs (disch:=omega) only [push_cast,simprocAttr,k2,↓gd]
  ·simp -implicitDefEqProofs (disch:=omega) only [push_cast,simprocAttr,h1,h2,h3,k0,k1,k2,kL,↓gd]
   refine ⟨_,_,Wk.refl _ _ _,L,S.length+2,rfl,⟨⟨?_,?_⟩,by omega,by omega,(hu.set _ (.inl (by omega))).set _ (.inl (by omega))⟩⟩
   ·rw [List.take_length] at kL
    simp -implicitDefEqProofs (disch:=omega) only [push_cast,simprocAttr,kL,↓gd]
   ·simp -implicitDefEqProofs (disch:=omega) only [push_cast,simprocAttr,k2,↓gd]
end
section
open Go
def xb:V→Nat
 | .heap p _=>p
 | _=>0
def fb (ls:List XS):List Nat:=ls.flatMap fun x=>[xb x.2.1,xb x.2.2]
theorem fb_app (l k:List XS):fb (l++k)=fb l++fb k:=by simp [fb]
def OwnL (S:List Blk) (ls:List XS):Prop:=∀x ∈ ls,(∃p,x.2.1=.heap p x.1.head.length∧S[p]?=some (.cells 3 (fcs x.1.head)))∧(∃p,x.2.2=.heap p x.1.got.length∧S[p]?=some (.cells 3 (fcs x.1.got)))
theorem OwnL.fl {S:List Blk} {ls:List XS} (h:OwnL S ls):∀x ∈ ls,FL S x.1.head x.2.1∧FL S x.1.got x.2.2:=fun x hx=>by
 obtain ⟨⟨p,h1,h2⟩,⟨q,h3,h4⟩⟩:=h x hx
 rw [h1,h3]
 exact ⟨.own h2,.own h4⟩
theorem OwnL.to {S S':List Blk} {ls:List XS} (h:OwnL S ls) (hk:∀(p:Nat) (cs:List V),S[p]?=some (.cells 3 cs)→S'[p]?=some (.cells 3 cs)):OwnL S' ls:=fun x hx=>by
 obtain ⟨⟨p,h1,h2⟩,⟨q,h3,h4⟩⟩:=h x hx
 exact ⟨⟨p,h1,hk _ _ h2⟩,⟨q,h3,hk _ _ h4⟩⟩
theorem OwnL.app {S:List Blk} {l k:List XS} (h:OwnL S l) (g:OwnL S k):OwnL S (l++k):=fun x hx=>(List.mem_append.1 hx).elim (h x) (g x)
theorem OwnL.lt {S:List Blk} {ls:List XS} (h:OwnL S ls):∀p ∈ fb ls,p < S.length:=fun p hp=>by
 obtain ⟨x,hx,hp⟩:=List.mem_flatMap.1 hp
 obtain ⟨⟨p1,h1,h2⟩,⟨q1,h3,h4⟩⟩:=h x hx
 simp only [List.mem_cons,List.not_mem_nil,or_false] at hp
 rcases hp with rfl | rfl
 ·rw [h1]; exact lt_of_some h2
 ·rw [h3]; exact lt_of_some h4
structure EnO (S:List Blk) (po pi b c:Nat) (ls:List XS) (e:En) (S':List Blk):Prop where
 strs:ls.map Prod.fst=e.strs
 kb:S'[b]?=some (.cells 12 (xsC ls))
 kc:S'[c]?=some (.cells 4 (frmsC e.wait))
 out:S'[po]?=some (.cells 3 (fcs e.out))
 inn:S'[pi]?=some (.cells 3 (fcs e.inn))
 own:OwnL S' ls
 lt:(po :: pi :: fb ls).Pairwise (· < ·)
 lo:∀p ∈ po :: pi :: fb ls,S.length≤p
 hb:S.length≤b
 hc:S.length≤c
 upd:Upd [] S S'
theorem EnO.x {S:List Blk} {po pi b c:Nat} {ls:List XS} {e:En} {S':List Blk} (h:EnO S po pi b c ls e S'):EnX S' (.heap po e.out.length) (.heap pi e.inn.length) b c ls e :=
 ⟨h.strs,h.kb,h.kc,.own h.out,.own h.inn,h.own.fl⟩
def ONew (S:List Blk) (e:En) (v:V) (S':List Blk):Prop:=∃po pi b c ls,v=xV (.heap po e.out.length) (.heap pi e.inn.length) b c e∧EnO S po pi b c ls e S'
theorem set_get {S X:List Blk} {L p n:Nat} {B:Blk} {cs ds:List V} (hL:S[L]?=some (.cells 12 ds)) (hp:S[p]?=some (.cells n cs)) (hn:n≠12):(S.set L B++X)[p]?=some (.cells n cs):=by
 have hne:L≠p:=by rintro rfl; rw [hL] at hp; cases hp; exact hn rfl
 rw [List.getElem?_append_left (by rw [List.length_set]; exact lt_of_some hp),List.getElem?_set_ne hne]
 exact hp
theorem getD_memX {ls:List XS} {i:Nat} (h:i < ls.length):ls.getD i xs0 ∈ ls:=by rw [List.getD_eq_getElem?_getD,List.getElem?_eq_getElem h]; exact List.getElem_mem h
theorem pair_snoc2 {l:List Nat} {p q:Nat} (h:l.Pairwise (· < ·)) (hp:∀x ∈ l,x < p) (hq:p < q):(l++[p,q]).Pairwise (· < ·):=by
 rw [List.pairwise_append]
 refine ⟨h,by simp [hq],fun a ha b hb=>?_⟩
 simp only [List.mem_cons,List.not_mem_nil,or_false] at hb
 have:=hp a ha
 rcases hb with rfl | rfl <;> omega
theorem eclone_O {e:En} (he:EnB e) {S:List Blk} {vo vi:V} {b c:Nat} {ls:List XS} (h:EnX S vo vi b c ls e):VCall Tryz.prog 42 [xV vo vi b c e] S fun r S'=>ONew S e r S':=by
 have hln:=h.len
 have hfst:=xs_fst h.strs
 obtain ⟨hls,hb,hc,hvo,hvi,hh⟩:=h
 have vo1:=hvo.one
 have vi1:=hvi.one
 have voe:=hvo.er
 have vie:=hvi.er
 have voe1:=hvo.er1
 have vie1:=hvi.er1
 have hbl:=lt_of_some hb
 have hcl:=lt_of_some hc
 have hlen:=xsC_len ls
 have hlw:=frmsC_len e.wait
 have hwn:=he.wait
 have hel:=he.len
 refine VCall.ex hDe (fun _=>false) (fun id=>if id=1 then [2,2,5,5,5,8,8,8,10,10,12,12,14,14,15] else if id=6 then [2,2,5,5,5,7,7,9,9,10] else []) Tryz.func42 Tryz.ntmps42 Tryz.results42 ?_
 simp -implicitDefEqProofs (disch:=omega) only [push_cast,simprocAttr,vo1,vi1,voe,vie,↓gd]
 refine ((tclone_O e.out e.outM he.out (hvo.app _)).as (by simp [voe,voe1])).mono ?_
 rintro r Sa ⟨po,rfl,ho1,ho2,ho3⟩
 have a0:=ho3.get (j:=S.length) (B:=.cells 0 (enX vo vi (.heap b e.strs.length) (.heap c e.wait.length) e)) (by simp -implicitDefEqProofs (disch:=omega) only [push_cast,simprocAttr,↓gd]) (by simp)
 have a1:=ho3.get (j:=S.length+1) (B:=.cells 0 zE) (by simp -implicitDefEqProofs (disch:=omega) only [push_cast,simprocAttr,↓gd]) (by simp)
 have la0:=lt_of_some a0
 have la1:=lt_of_some a1
 simp only [List.length_append,List.length_cons,List.length_nil] at ho2
 have hua:Upd [] S Sa:=((Upd.refl [] S).app _).trans ho3
 simp -implicitDefEqProofs (disch:=omega) only [push_cast,simprocAttr,a0,vo1,vi1,voe,vie,↓gd]
 refine ((tclone_O e.inn e.innM he.inn (hvi.upd hua)).as (by simp [vie,vie1])).mono ?_
 rintro r Sb ⟨pi,rfl,hi1,hi2,hi3⟩
 have b0:=hi3.get a0 (by simp)
 have b1:=hi3.get a1 (by simp)
 have lb0:=lt_of_some b0
 have lb1:=lt_of_some b1
 have hub:=hua.trans hi3
 have hcb:=hub.get hc (by simp)
 have lcb:=lt_of_some hcb
 simp -implicitDefEqProofs (disch:=omega) only [push_cast,simprocAttr,a0,b0,hcb,vo1,vi1,voe,vie,↓gd]
 repeat refine And.intro (by omega) ?_
 rw [frmsC_all,frmsC_erase]
 have c2:=hi3.get ho1 (by simp)
 have lpo:=lt_of_some ho1
 have lpi:=lt_of_some hi1
 refine wpV_loop (fun m t S1=>∃(i L:Nat) (hs:List XS),m=e.strs.length - i∧i≤e.strs.length∧t 1=.ptr S.length 0∧t 2=.ptr (S.length+1) 0∧t 19=.heap b e.strs.length∧t 20=.int .i64 e.strs.length∧t 21=.int .i64 i∧S.length≤L ∧
  (i=0∧t 3=.nils∨t 3=.heap L i∧S1[L]?=some (.cells 12 (xsC hs)))∧hs.map Prod.fst=e.strs.take i∧Upd [] S S1 ∧
  S1[S.length]?=some (.cells 0 (enX (.heap po e.out.length) (.heap pi e.inn.length) (.heap b e.strs.length) (.heap Sb.length e.wait.length) e)) ∧
  S1[S.length+1]?=some (.cells 0 zE)∧S1[Sb.length]?=some (.cells 4 (frmsC e.wait))∧S1[po]?=some (.cells 3 (fcs e.out))∧S1[pi]?=some (.cells 3 (fcs e.inn))∧OwnL S1 hs ∧
  (po :: pi :: fb hs).Pairwise (· < ·)∧(∀p ∈ po :: pi :: fb hs,S.length≤p)) e.strs.length
  ⟨0,S.length,[],by omega,by omega,rfl,rfl,rfl,rfl,rfl,Nat.le_refl _,.inl ⟨rfl,rfl⟩,by simp,(hub.set _ (.inl (Nat.le_refl _))).app _,?_,?_,?_,?_,?_,fun x hx=>(by cases hx),?_,?_⟩ ?_
 ·simp -implicitDefEqProofs (disch:=omega) only [push_cast,simprocAttr,↓gd]
 ·simp -implicitDefEqProofs (disch:=omega) only [push_cast,simprocAttr,b1,↓gd]
 ·simp -implicitDefEqProofs (disch:=omega) only [push_cast,simprocAttr,↓gd]
 ·have hne:S.length≠po:=by omega
  simp -implicitDefEqProofs (disch:=omega) only [push_cast,simprocAttr,c2,↓gd]
 ·have hne:S.length≠pi:=by have:=ho3.1; simp at this; omega
  simp -implicitDefEqProofs (disch:=omega) only [push_cast,simprocAttr,hi1,↓gd]
 ·simp [fb]; omega
 ·intro p hp
  have:=hua.1
  simp [fb] at hp
  omega
 rintro m t S1 ⟨i,L,hs,rfl,hi,h1,h2,h19,h20,h21,hL,h3,hfs,hu,k0,k1,kw,ko,ki,hown,hlt,hlo⟩
 have l0:=lt_of_some k0
 have l1:=lt_of_some k1
 have kb:=hu.get hb (by simp)
 have lb:=lt_of_some kb
 refine wpV_of hDe (fun _=>false) (fun id=>if id=6 then [2,2,5,5,5,7,7,9,9,10] else []) (by kernel_rfl) ?_
 simp -implicitDefEqProofs (disch:=omega) only [push_cast,simprocAttr,h1,h19,h20,h21,k0,↓gd]
 refine ⟨fun h=>?_,fun h=>?_⟩
 ·have hil:i < e.strs.length:=by omega
  have hil0:i < ls.length:=by omega
  have hat:=xsC_at hil0
  have hxm:=hh (ls.getD i xs0) (getD_memX hil0)
  have hsb:=he.sts _ (getD_memS hil)
  have hfi:=hfst i
  have htk:=take_st hil
  rw [←hfi] at hsb htk
  generalize ls.getD i xs0=xx at hat hsb htk hxm
  obtain ⟨s,vh,vg⟩:=xx
  obtain ⟨hvh,hvg⟩:=hxm
  simp only [xsF] at hat hsb htk hvh hvg
  have vh1:=hvh.one
  have vg1:=hvg.one
  have vhe:=hvh.er
  have vge:=hvg.er
  have vhe1:=hvh.er1
  have vge1:=hvg.er1
  have hlh:=xsC_len hs
  have hfl:hs.length=i:=by have:=congrArg List.length hfs; rw [List.length_map,List.length_take] at this; omega
  simp -implicitDefEqProofs (disch:=omega) only [push_cast,simprocAttr,h1,h2,h19,h21,k0,k1,kb,hat,vh1,vg1,vhe,vge,↓gd]
  repeat refine And.intro (by omega) ?_
  refine ((cloneFields_O s.head (by have:=hsb.head.1; omega) ((hvh.upd hu).app _)).as (by first | rfl | simp [vhe,vhe1])).to ?_
  simp -implicitDefEqProofs (disch:=omega) only [push_cast,simprocAttr,k0,k1,vh1,vg1,vhe,vge,↓gd]
  refine ((cloneFields_O s.got (by have:=hsb.got.1; omega) ((hvg.upd hu).app _)).as (by first | rfl | simp [vge,vge1])).to ?_
  have q1:(hs++[(s,V.heap (S1.length+1) s.head.length,V.heap (S1.length+2) s.got.length)]).map Prod.fst=e.strs.take (i+1):=by rw [List.map_append,hfs,htk]; rfl
  have q2:∀(Z:List Blk),(∀(p n:Nat) (cs:List V),n≠12→S1[p]?=some (.cells n cs)→Z[p]?=some (.cells n cs))→Z[S1.length+1]?=some (.cells 3 (fcs s.head))→Z[S1.length+2]?=some (.cells 3 (fcs s.got))→OwnL Z (hs++[(s,V.heap (S1.length+1) s.head.length,V.heap (S1.length+2) s.got.length)]):=fun Z hZ hZ1 hZ2 =>
   (hown.to (fun p cs=>hZ p 3 cs (by decide))).app (fun x hx=>by rw [List.mem_singleton.1 hx]; exact ⟨⟨_,rfl,hZ1⟩,⟨_,rfl,hZ2⟩⟩)
  have q3:(po :: pi :: fb (hs++[(s,V.heap (S1.length+1) s.head.length,V.heap (S1.length+2) s.got.length)])).Pairwise (· < ·):=by
   rw [fb_app]
   show ((po :: pi :: fb hs)++[S1.length+1,S1.length+2]).Pairwise (· < ·)
   refine pair_snoc2 hlt (fun x hx=>?_) (by omega)
   have h4:=lt_of_some ko
   have h5:=lt_of_some ki
   simp only [List.mem_cons] at hx
   rcases hx with rfl | rfl | hx
   ·omega
   ·omega
   ·have:=hown.lt x hx; omega
  have q4:∀p ∈ fb (hs++[(s,V.heap (S1.length+1) s.head.length,V.heap (S1.length+2) s.got.length)]),S.length≤p:=by
   intro p hp
   rw [fb_app] at hp
   have:=hu.1
   rcases List.mem_append.1 hp with hp | hp
   ·exact hlo p (by simp [hp])
   ·simp only [fb,xb,List.flatMap_cons,List.flatMap_nil,List.mem_append,List.mem_cons,List.not_mem_nil,or_false] at hp
    omega
  have q5:=hlo po (by simp)
  have q6:=hlo pi (by simp)
  have hZ:∀(X:List Blk) (p n:Nat) (cs:List V),n≠12→S1[p]?=some (.cells n cs)→(S1++X)[p]?=some (.cells n cs):=fun X p n cs _ hp=>by rw [List.getElem?_append_left (lt_of_some hp)]; exact hp
  rcases h3 with ⟨rfl,h3⟩ | ⟨h3,kL⟩
  ·have hs0:hs=[]:=List.length_eq_zero_iff.1 hfl
   subst hs0
   simp -implicitDefEqProofs (disch:=omega) only [push_cast,simprocAttr,h3,h21,k0,k1,vh1,vg1,vhe,vge,↓gd]
   refine ⟨e.strs.length - 1,by omega,1,S1.length+4,[]++[(s,V.heap (S1.length+1) s.head.length,V.heap (S1.length+2) s.got.length)],rfl,by omega,h1,h2,h19,h20,rfl,by have:=hu.1; omega,⟨rfl,by simp -implicitDefEqProofs (disch:=omega) only [push_cast,simprocAttr,↓gd]; rfl⟩,q1,hu.app _,?_⟩
   first
    | exact ⟨q2 _ (hZ _) (by simp -implicitDefEqProofs (disch:=omega) only [push_cast,simprocAttr,↓gd]) (by simp -implicitDefEqProofs (disch:=omega) only [push_cast,simprocAttr,↓gd]),q3,q5,q6,q4⟩
    | exact ⟨k0,k1,hZ _ _ _ _ (by decide) kw,hZ _ _ _ _ (by decide) ko,hZ _ _ _ _ (by decide) ki,q2 _ (hZ _) (by simp -implicitDefEqProofs (disch:=omega) only [push_cast,simprocAttr,↓gd]) (by simp -implicitDefEqProofs (disch:=omega) only [push_cast,simprocAttr,↓gd]),q3,q5,q6,q4⟩
    | exact ⟨hZ _ _ _ _ (by decide) kw,hZ _ _ _ _ (by decide) ko,hZ _ _ _ _ (by decide) ki,q2 _ (hZ _) (by simp -implicitDefEqProofs (disch:=omega) only [push_cast,simprocAttr,↓gd]) (by simp -implicitDefEqProofs (disch:=omega) only [push_cast,simprocAttr,↓gd]),q3,q5,q6,q4⟩
  ·have lL:=lt_of_some kL
   simp -implicitDefEqProofs (disch:=omega) only [push_cast,simprocAttr,h3,h21,k0,k1,kL,vh1,vg1,vhe,vge,↓gd]
   repeat refine And.intro (by omega) ?_
   refine ⟨e.strs.length - (i+1),by omega,i+1,S1.length+4,hs++[(s,V.heap (S1.length+1) s.head.length,V.heap (S1.length+2) s.got.length)],rfl,by omega,h1,h2,h19,h20,by simp,by have:=hu.1; omega,⟨rfl,?_⟩,q1,(hu.set _ (.inl hL)).app _,?_⟩
   ·simp -implicitDefEqProofs (disch:=omega) only [push_cast,simprocAttr,↓gd]
    unfold xsC
    rw [List.flatMap_append]
    rfl
   have hne:S.length≠L:=by rintro rfl; rw [kL] at k0; cases k0
   have hne1:S.length+1≠L:=by rintro rfl; rw [kL] at k1; cases k1
   have hS:∀(X:List Blk) (p n:Nat) (cs:List V),n≠12→S1[p]?=some (.cells n cs)→(S1.set L .dead++X)[p]?=some (.cells n cs):=fun X p n cs hn hp=>set_get kL hp hn
   exact ⟨by rw [List.getElem?_set_ne (Ne.symm hne)]; exact k0,by rw [List.getElem?_set_ne (Ne.symm hne1)]; exact k1,hS _ _ _ _ (by decide) kw,hS _ _ _ _ (by decide) ko,hS _ _ _ _ (by decide) ki,q2 _ (hS _) (by simp -implicitDefEqProofs (disch:=omega) only [push_cast,simprocAttr,↓gd]) (by simp -implicitDefEqProofs (disch:=omega) only [push_cast,simprocAttr,↓gd]),q3,q5,q6,q4⟩
 ·have:i=e.strs.length:=by omega
  subst this
  rw [List.take_length] at hfs
  rcases h3 with ⟨hz,h3⟩ | ⟨h3,kL⟩
  ·simp -implicitDefEqProofs (disch:=omega) only [push_cast,simprocAttr,h1,h2,h3,k0,k1,↓gd]
   have hz':hs=[]:=by
    have:=congrArg List.length hfs
    rw [List.length_map] at this
    exact List.length_eq_zero_iff.1 (by omega)
   subst hz'
   have hz0:e.strs=[]:=List.length_eq_zero_iff.1 hz
   have hnew:∀(A B:Blk),EnO S po pi S1.length Sb.length [] e ((S1.set S.length A).set (S.length+1) B++[.cells 12 []]):=fun A B=>by
    have e0:∀(p n:Nat) (cs:List V),n≠0→S1[p]?=some (.cells n cs)→((S1.set S.length A).set (S.length+1) B++[.cells 12 []])[p]?=some (.cells n cs):=fun p n cs hn hp=>by
     have g0:S.length≠p:=by rintro rfl; rw [k0] at hp; cases hp; exact hn rfl
     have g1:S.length+1≠p:=by rintro rfl; rw [k1] at hp; cases hp; exact hn rfl
     rw [List.getElem?_append_left (by simp; exact lt_of_some hp),List.getElem?_set_ne g1,List.getElem?_set_ne g0]
     exact hp
    refine ⟨by rw [hz0]; rfl,?_,e0 _ _ _ (by decide) kw,e0 _ _ _ (by decide) ko,e0 _ _ _ (by decide) ki,(fun x hx=>by cases hx),hlt,hlo,by have:=hu.1; omega,by have:=hub.1; omega,((hu.set _ (.inl (Nat.le_refl _))).set _ (.inl (by omega))).app _⟩
    rw [s2_get0]; rfl
   refine ⟨_,_,Wk.nh (r':=xV (.heap po e.out.length) (.heap pi e.inn.length) S1.length Sb.length e) 12 ?_,po,pi,S1.length,Sb.length,[],rfl,hnew _ _⟩
   have hlz:e.strs.length=0:=hz
   rw [xV_eq,hlz]
   have:=NH.aggAt (n:=S1.length) (i:=6) (cs:=[V.bool e.ans,.heap po e.out.length,.int .i64 e.outM,.heap pi e.inn.length,.int .i64 e.innM,.str e.came,.nils,.int .i64 e.send,.int .i64 e.room,.heap Sb.length e.wait.length,.bool e.bad]) rfl
   simpa using this
  ·simp -implicitDefEqProofs (disch:=omega) only [push_cast,simprocAttr,h1,h2,h3,k0,k1,kL,↓gd]
   have e0:∀(A B:Blk) (p n:Nat) (cs:List V),n≠0→S1[p]?=some (.cells n cs)→((S1.set S.length A).set (S.length+1) B)[p]?=some (.cells n cs):=fun A B p n cs hn hp=>by
    have g0:S.length≠p:=by rintro rfl; rw [k0] at hp; cases hp; exact hn rfl
    have g1:S.length+1≠p:=by rintro rfl; rw [k1] at hp; cases hp; exact hn rfl
    rw [List.getElem?_set_ne g1,List.getElem?_set_ne g0]
    exact hp
   exact ⟨_,_,Wk.refl _ _ _,po,pi,L,Sb.length,hs,rfl,⟨hfs,e0 _ _ _ _ _ (by decide) kL,e0 _ _ _ _ _ (by decide) kw,e0 _ _ _ _ _ (by decide) ko,e0 _ _ _ _ _ (by decide) ki,hown.to (fun p cs=>e0 _ _ p 3 cs (by decide)),hlt,hlo,hL,by have:=hub.1; omega,(hu.set _ (.inl (Nat.le_refl _))).set _ (.inl (by omega))⟩⟩
end
end Go.Proofs.YtldogccmhncnoaaGreatDoor
