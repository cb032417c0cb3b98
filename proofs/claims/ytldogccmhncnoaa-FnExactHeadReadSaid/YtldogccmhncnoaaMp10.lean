/- A part of the proof: contracts of functions, or plain facts on which these lean. -/
import Derived.Test.YtldogccmhncnoaaMp9
namespace Go.Proofs.Ytldogccmhncnoaa
open Go
set_option linter.unusedVariables false
set_option linter.unusedSimpArgs false
set_option maxRecDepth 100000
set_option maxHeartbeats 16000000

section
open Go
def codeOk (N:Nat):Code→Bool
 | .region _ ops _=>opsOk N ops.toList
 | .seq a b=>codeOk N a && codeOk N b
 | .cond _ a b=>codeOk N a && codeOk N b
 | .block _ b=>codeOk N b
 | .loop b=>codeOk N b
 | _=>true
def DRun (P:Program) (N:Nat) (c:Code) (t:Nat→V) (S:List Blk) (e:Exit) (t':Nat→V) (S':List Blk):Prop :=
 ∀(G:Gh) (a:Act) (w:World) (Q:Exit→Act→World→Prop),ActR N G w t a→Rel G w S →
  (∀a' w' G',ActR N G' w' t' a'→Rel G' w' S'→Evol G w S G' w' S'→Q e a' w')→c.wp P Q a w
def wpV (P:Program) (D:Nat→TD) (N:Nat) (c:Code) (k:Exit→(Nat→V)→List Blk→Prop) (t:Nat→V) (S:List Blk):Prop :=
 codeOk N c=true→∃e t' S',k e t' S'∧DRun P N c t S e t' S'
def thenK (K:(Nat→V)→List Blk→Prop) (k:Exit→(Nat→V)→List Blk→Prop):Exit→(Nat→V)→List Blk→Prop
 | .normal,t,S=>K t S
 | e,t,S=>k e t S
def blockK (id:Nat) (k:Exit→(Nat→V)→List Blk→Prop):Exit→(Nat→V)→List Blk→Prop
 | .exit id',t,S=>if id'=id then k .normal t S else k (.exit id') t S
 | e,t,S=>k e t S
section
variable {P:Program} {D:Nat→TD} {N:Nat} {k:Exit→(Nat→V)→List Blk→Prop} {t:Nat→V} {S:List Blk}
theorem wpV_mono {c:Code} {k':Exit→(Nat→V)→List Blk→Prop} (h:wpV P D N c k t S) (hk:∀e t S,k e t S→k' e t S):wpV P D N c k' t S :=
 fun hok=>let ⟨e,t',S',h1,h2⟩:=h hok; ⟨e,t',S',hk _ _ _ h1,h2⟩
theorem wpV_skip (h:k .normal t S):wpV P D N .skip k t S :=
 fun _=>⟨.normal,t,S,h,fun G a w Q ha hR hQ=>wp_skip (hQ a w G ha hR (Evol.refl _ _ _))⟩
theorem wpV_ret (h:k .ret t S):wpV P D N .ret k t S :=
 fun _=>⟨.ret,t,S,h,fun G a w Q ha hR hQ=>wp_ret (hQ a w G ha hR (Evol.refl _ _ _))⟩
theorem wpV_exit {id:Nat} (h:k (.exit id) t S):wpV P D N (.exit id) k t S :=
 fun _=>⟨.exit id,t,S,h,fun G a w Q ha hR hQ=>wp_exit (hQ a w G ha hR (Evol.refl _ _ _))⟩
theorem wpV_seq {x y:Code} (h:wpV P D N x (thenK (wpV P D N y k) k) t S):wpV P D N (.seq x y) k t S:=by
 intro hok
 simp only [codeOk,Bool.and_eq_true] at hok
 obtain ⟨e,t1,S1,hk,hd⟩:=h hok.1
 by_cases he:e=.normal
 ·subst he
  obtain ⟨e2,t2,S2,hk2,hd2⟩:=hk hok.2
  refine ⟨e2,t2,S2,hk2,fun G a w Q ha hR hQ=>wp_seq (hd G a w _ ha hR (fun a' w' G' ha' hR' hE=>?_))⟩
  exact hd2 G' a' w' Q ha' hR' (fun a2 w2 G2 ha2 hR2 hE2=>hQ a2 w2 G2 ha2 hR2 (hE.trans hE2))
 ·refine ⟨e,t1,S1,?_,fun G a w Q ha hR hQ=>wp_seq (hd G a w _ ha hR (fun a' w' G' ha' hR' hE=>?_))⟩
  ·cases e <;> first | exact absurd rfl he | exact hk
  ·have:=hQ a' w' G' ha' hR' hE
   cases e <;> first | exact absurd rfl he | exact this
def condK (v:V) (p q:Prop):Prop :=
 match v with
 | .bool b=>(b=true→p)∧(b=false→q)
 | _=>False
theorem wpV_cond {c:Operand} {x y:Code} (h:condK (evalT t c) (wpV P D N x k t S) (wpV P D N y k t S)):wpV P D N (.cond c x y) k t S:=by
 intro hok
 simp only [codeOk,Bool.and_eq_true] at hok
 unfold condK at h
 split at h
 ·rename_i b hb
  have hev:∀(G:Gh) (a:Act) (w:World),ActR N G w t a→a.eval c=.bool b:=by
   intro G a w ha
   have:=evalT_ok ha c
   rw [hb] at this
   generalize a.eval c=v at this
   cases this
   rfl
  cases b with
  | true =>
   obtain ⟨e,t',S',hk,hd⟩:=h.1 rfl hok.1
   exact ⟨e,t',S',hk,fun G a w Q ha hR hQ=>wp_cond_true (hev G a w ha) (hd G a w Q ha hR hQ)⟩
  | false =>
   obtain ⟨e,t',S',hk,hd⟩:=h.2 rfl hok.2
   exact ⟨e,t',S',hk,fun G a w Q ha hR hQ=>wp_cond_false (hev G a w ha) (hd G a w Q ha hR hQ)⟩
 ·exact h.elim
theorem wpV_block {id:Nat} {c:Code} (h:wpV P D N c (blockK id k) t S):wpV P D N (.block id c) k t S:=by
 intro hok
 obtain ⟨e,t',S',hk,hd⟩:=h hok
 by_cases he:∃j,e=.exit j
 ·obtain ⟨j,rfl⟩:=he
  by_cases hj:j=id
  ·subst hj
   simp only [blockK,if_true] at hk
   refine ⟨.normal,t',S',hk,fun G a w Q ha hR hQ=>wp_block (hd G a w _ ha hR (fun a' w' G' ha' hR' hE=>?_))⟩
   simp only [Exit.inBlock,if_true]
   exact hQ a' w' G' ha' hR' hE
  ·simp only [blockK,hj,if_false] at hk
   refine ⟨.exit j,t',S',hk,fun G a w Q ha hR hQ=>wp_block (hd G a w _ ha hR (fun a' w' G' ha' hR' hE=>?_))⟩
   simp only [Exit.inBlock,hj,if_false]
   exact hQ a' w' G' ha' hR' hE
 ·refine ⟨e,t',S',?_,fun G a w Q ha hR hQ=>wp_block (hd G a w _ ha hR (fun a' w' G' ha' hR' hE=>?_))⟩
  ·cases e <;> first | exact absurd ⟨_,rfl⟩ he | exact hk
  ·have:=hQ a' w' G' ha' hR' hE
   cases e <;> first | exact absurd ⟨_,rfl⟩ he | exact this
theorem wpV_region (hD:TypesOk P D) {id:Nat} {ops:Array Oper} (h:evOps P D ops.toList ops.toList t S (k .normal)):wpV P D N (.region id ops false) k t S:=by
 intro hok
 obtain ⟨t',S',hk,hr⟩:=ev_ops hD ops hok ops.toList 0 (fun j=>by simp) t S _ h
 refine ⟨.normal,t',S',hk,fun G a w Q ha hR hQ=>wp_region ?_⟩
 have:=hr G a w Q ha hR hQ
 rw [List.range_eq_range']
 simpa using this
theorem wpV_draw (hD:TypesOk P D) (pf:Option FuncId→Bool) {id:Nat} {ops:Array Oper} (js:List Nat) (hjs:drawOk pf ops.toList js=true) (h:evDraw P D pf ops.toList ops.toList 0 js t S [] [] (k .normal)):wpV P D N (.region id ops true) k t S:=by
 intro hok
 obtain ⟨t',S',hk,hr⟩:=draw_sound hD pf ops js hjs hok h
 refine ⟨.normal,t',S',hk,fun G a w Q ha hR hQ=>wp_region_draw (fun tt=>?_)⟩
 have hd:=drawOk_of hjs
 have hR1:Rel G { w with drawn:=w.drawn+1 } S∧Evol G w S G { w with drawn:=w.drawn+1 } S:=hR.drew
 exact hr G a _ Q (ha.ext hR1.2.ext) hR1.1 (fun a' w' G' ha' hR' hE=>hQ a' w' G' ha' hR' (hR1.2.trans hE)) _ (schedule_sched _ hD.mix ops tt hd.lt)
inductive LRun (P:Program) (N:Nat) (c:Code):(Nat→V)→List Blk→Exit→(Nat→V)→List Blk→Prop where
 | stop {t S e t' S'}:DRun P N c t S e t' S'→e≠.normal→LRun P N c t S e t' S'
 | go {t S t1 S1 e t' S'}:DRun P N c t S .normal t1 S1→LRun P N c t1 S1 e t' S'→LRun P N c t S e t' S'
theorem LRun.run {c:Code} {e:Exit} {t':Nat→V} {S':List Blk} (h:LRun P N c t S e t' S'):DRun P N (.loop c) t S e t' S':=by
 have key:∀(G:Gh) (a:Act) (w:World) (Q:Exit→Act→World→Prop),ActR N G w t a→Rel G w S →
   (∀a' w' G',ActR N G' w' t' a'→Rel G' w' S'→Evol G w S G' w' S'→Q e a' w')→∀(b:Frame) (kk:List Item) (cs:List Frame),
   ∃e a' w',Q e a' w'∧Arrives P (lone (b.at a (.code c :: .inLoop c :: kk)) cs w) b kk cs e a' w':=by
  induction h with
  | @stop t S e t' S' hd hne =>
   intro G a w Q ha hR hQ b kk cs
   obtain ⟨e1,a1,w1,hq,harr⟩:=hd G a w (fun e1 a1 w1=>e1≠.normal∧Q e1 a1 w1) ha hR (fun a' w' G' ha' hR' hE=>⟨hne,hQ a' w' G' ha' hR' hE⟩) b (.inLoop c :: kk) cs
   refine ⟨e1,a1,w1,hq.2,.pass (x:=.inLoop c) rfl (fun _ _=>.inl hq.1) harr⟩
  | @go t S t1 S1 e t' S' hd _ ih =>
   intro G a w Q ha hR hQ b kk cs
   obtain ⟨e1,a1,w1,hq,harr⟩:=hd G a w (fun e1 a1 w1=>e1=.normal∧∃G1,ActR N G1 w1 t1 a1∧Rel G1 w1 S1∧Evol G w S G1 w1 S1) ha hR (fun a' w' G' ha' hR' hE=>⟨rfl,G',ha',hR',hE⟩) b (.inLoop c :: kk) cs
   obtain ⟨rfl,G1,ha1,hR1,hE1⟩:=hq
   obtain ⟨e2,a2,w2,hq2,harr2⟩:=ih G1 a1 w1 Q ha1 hR1 (fun a' w' G' ha' hR' hE=>hQ a' w' G' ha' hR' (hE1.trans hE)) b kk cs
   exact ⟨e2,a2,w2,hq2,.of_steps (Steps.trans harr (.one step_inLoop)) harr2⟩
 intro G a w Q ha hR hQ b kk cs
 obtain ⟨e1,a1,w1,hq,harr⟩:=key G a w Q ha hR hQ b kk cs
 exact ⟨e1,a1,w1,hq,.of_steps (.one step_loop) harr⟩
theorem wpV_loop {c:Code} (I:Nat→(Nat→V)→List Blk→Prop) (n:Nat) (h0:I n t S)
  (round:∀m t S,I m t S→wpV P D N c (thenK (fun t' S'=>∃m',m' < m∧I m' t' S') k) t S):wpV P D N (.loop c) k t S:=by
 intro hok
 have key:∀m t S,I m t S→∃e t' S',k e t' S'∧LRun P N c t S e t' S':=by
  intro m
  induction m using Nat.strongRecOn with
  | _ m ih =>
   intro t S hI
   obtain ⟨e,t1,S1,hk,hd⟩:=round m t S hI hok
   by_cases he:e=.normal
   ·subst he
    obtain ⟨m',hlt,hI'⟩:=hk
    obtain ⟨e2,t2,S2,hk2,hl⟩:=ih m' hlt t1 S1 hI'
    exact ⟨e2,t2,S2,hk2,.go hd hl⟩
   ·refine ⟨e,t1,S1,?_,.stop hd he⟩
    cases e <;> first | exact absurd rfl he | exact hk
 obtain ⟨e,t',S',hk,hl⟩:=key n t S h0
 exact ⟨e,t',S',hk,hl.run⟩
def evRes (D:Nat→TD):List ResultVar→(Nat→V)→List Blk→(List V→Prop)→Prop
 | [],_,_,k=>k []
 | .tmp i :: rs,t,S,k=>evRes D rs t S fun vs=>k (t i :: vs)
 | .cell a ty :: rs,t,S,k=>evLoad D ty (t a) S fun v=>evRes D rs t S fun vs=>k (v :: vs)
def consK (k:List V→Prop) (v:V) (vs:List V):Prop:=k (v :: vs)
def resK (D:Nat→TD) (rs:List ResultVar) (t:Nat→V) (S:List Blk) (k:List V→Prop) (v:V):Prop:=evRes D rs t S (consK k v)
section
variable {D:Nat→TD} (rs:List ResultVar) (t:Nat→V) (S:List Blk) (k:List V→Prop)
theorem evRes_nil:evRes D [] t S k=k []:=by simp only [evRes]
theorem evRes_tmp (i:Nat):evRes D (.tmp i :: rs) t S k=evRes D rs t S (consK k (t i)):=by simp only [evRes]; rfl
theorem evRes_cell (a:Nat) (ty:TypeId):evRes D (.cell a ty :: rs) t S k=evLoad D ty (t a) S (resK D rs t S k):=by simp only [evRes]; rfl
end
def oneOf:List V→V
 | [v]=>v
 | vs=>.tup vs
theorem load_ok (hD:TypesOk P D) {ty:TypeId} {x:V} {S:List Blk} {q:V→Prop} (h:evLoad D ty x S q):∃v,q v∧∀(G:Gh) (w:World) (c:Value),VR G w x c→Rel G w S→∃r,(Instr.loadAt ty c).run P w=.ok r w∧VR G w v r:=by
 unfold evLoad at h
 cases x <;> simp only at h
 case ptr b off =>
  split at h
  ·rename_i sz cs hS
   obtain ⟨v,hkv,hv⟩:=load_of_part hD h
   refine ⟨v,hkv,fun G w c hc hR=>?_⟩
   cases hc with
   | ptr hb hk =>
    obtain ⟨u,hr,hvr⟩:=hv G w (G.blk b) 0 (cells_of_blk hR hS hk)
    rw [Nat.zero_add] at hr
    exact ⟨u,hr,hvr⟩
  ·exact h.elim
 case eptr e off =>
  obtain ⟨v,hkv,hv⟩:=load_of_part hD h.2
  refine ⟨v,hkv,fun G w c hc hR=>?_⟩
  cases hc with
  | eptr vs hl hv' ho' hh hp =>
   obtain ⟨u,hr,hvr⟩:=hv G w _ _ (cells_of_eptr hl hv' ho' hh)
   exact ⟨u,hr,hvr⟩
 all_goals exact h.elim
theorem loadVar_ptr (ty:TypeId) (w:World) (c:Value) (h:∃a,c=.pointer (some a)):((asAddr c) >>= loadVar ty).run P w=(Instr.loadAt ty c).run P w:=by
 obtain ⟨a,rfl⟩:=h
 simp [asAddr,Instr.loadAt,Instr.sureAddr]
theorem res_ok (hD:TypesOk P D) {N:Nat}:∀(rs:List ResultVar) (t:Nat→V) (S:List Blk) (q:List V→Prop),evRes D rs t S q→∃vs,q vs∧∀(G:Gh) (a:Act) (w:World),ActR N G w t a→Rel G w S →
  ∃us:List Value,(rs.mapM fun (r:ResultVar)=>match r with | .tmp i=>(pure (a.tmps.getD i undef):Sem Value) | .cell b ty=>do loadVar ty (←asAddr (a.tmps.getD b undef))).run P w=.ok us w∧AllR G w vs us
 | [],t,S,q,h=>⟨[],h,fun G a w ha hR=>⟨[],by simp,rfl,by simp⟩⟩
 | .tmp i :: rs,t,S,q,h=>by
  obtain ⟨vs,hq,hr⟩:=res_ok hD rs t S _ h
  refine ⟨t i :: vs,hq,fun G a w ha hR=>?_⟩
  obtain ⟨us,h1,h2⟩:=hr G a w ha hR
  refine ⟨a.tmps.getD i undef :: us,by simp only [List.mapM_cons,Sem.run_bind,Sem.run_pure,Result.andThen_ok,h1],by simp [h2.1],?_⟩
  intro j v u hv hu
  cases j with
  | zero=>cases hv; cases hu; exact ha.rel i
  | succ j=>exact h2.2 j v u (by simpa using hv) (by simpa using hu)
 | .cell b ty :: rs,t,S,q,h=>by
  simp only [evRes] at h
  obtain ⟨v,h,hload⟩:=load_ok (P:=P) hD h
  obtain ⟨vs,hq,hr⟩:=res_ok hD rs t S _ h
  refine ⟨v :: vs,hq,fun G a w ha hR=>?_⟩
  obtain ⟨us,h1,h2⟩:=hr G a w ha hR
  obtain ⟨r,hr1,hr2⟩:=hload G w _ (ha.rel b) hR
  have hp:∃ad,a.tmps.getD b undef=.pointer (some ad):=by
   generalize a.tmps.getD b undef=c at hr1
   cases c with
   | pointer o =>
    cases o with
    | some ad=>exact ⟨ad,rfl⟩
    | none=>simp [Instr.loadAt,Instr.sureAddr] at hr1
   | _=>simp [Instr.loadAt,Instr.sureAddr] at hr1
  have hl:=loadVar_ptr (P:=P) ty w _ hp
  rw [hr1] at hl
  refine ⟨r :: us,?_,by simp [h2.1],?_⟩
  ·simp only [List.mapM_cons]
   rw [Sem.run_bind,hl]
   simp only [Sem.run_bind,Sem.run_pure,Result.andThen_ok,h1]
  ·intro j v' u hv hu
   cases j with
   | zero=>cases hv; cases hu; exact hr2
   | succ j=>exact h2.2 j v' u (by simpa using hv) (by simpa using hu)
theorem results_ok (hD:TypesOk P D) {N:Nat} {fn:Func} {t:Nat→V} {S:List Blk} {q:V→Prop} (h:evRes D fn.results.toList t S fun vs=>q (oneOf vs)):∃v,q v∧∀(G:Gh) (a:Act) (w:World),ActR N G w t a→Rel G w S →
  ∃u,(results fn a.tmps).run P w=.ok u w∧VR G w v u:=by
 obtain ⟨vs,hq,hr⟩:=res_ok (P:=P) (N:=N) hD fn.results.toList t S _ h
 refine ⟨oneOf vs,hq,fun G a w ha hR=>?_⟩
 obtain ⟨us,h1,h2⟩:=hr G a w ha hR
 have hrun:(results fn a.tmps).run P w=.ok (if h:us.toArray.size=1 then us.toArray[0] else .tuple us.toArray) w:=by
  unfold results
  rw [Array.mapM_eq_mapM_toList]
  simp only [Sem.run_bind,Sem.run_map,Sem.run_pure]
  have key:∀f:ResultVar→Sem Value,(∀r,f r=match r with | .tmp i=>(pure (a.tmps.getD i undef):Sem Value) | .cell b ty=>do loadVar ty (←asAddr (a.tmps.getD b undef)))→(List.mapM f fn.results.toList).run P w=.ok us w:=by
   intro f hf
   rw [funext hf]
   exact h1
  rw [key _ (fun r=>by cases r <;> rfl)]
  simp only [Result.andThen_ok]
 refine ⟨_,hrun,?_⟩
 have hl:=h2.1
 match vs,us,hl,h2 with
 | [],[],_,_=>exact .tup (by simp) (by simp)
 | [v],[u],_,h2=>exact h2.2 0 v u rfl rfl
 | v1 :: v2 :: vs,u1 :: u2 :: us,hl,h2 =>
  refine .tup (by simpa using hl) ?_
  intro i v u hv hu
  exact h2.2 i v u hv (by simpa using hu)
def argT (args:List V):Nat→V:=fun i=>args.getD i .junk
theorem VCall.of_body (hD:TypesOk P D) {f:FuncId} {fn:Func} {c:Code} (hf:P.funcs[f]?=some fn) (hb:fn.body=some c) (hname:(fn.name == "runtime.NumGoroutine")=false) {n:Nat} (hn:fn.ntmps=n) (hok:codeOk n c=true)
  {rs:List ResultVar} (hrs:fn.results.toList=rs) {args:List V} (hargs:args.length≤n) {S:List Blk} {q:V→List Blk→Prop}
  (h:wpV P D n c (fun e t' S'=>(e=.normal∨e=.ret)∧evRes D rs t' S' fun vs=>∃r S2,Wk S (oneOf vs) S' r S2∧q r S2) (argT args) S):VCallE P f args S q:=by
 subst hn hrs
 refine ⟨⟨fn,hf,by rw [hb]; rfl,hname⟩,?_⟩
 obtain ⟨e,t',S',⟨he,hres⟩,hd⟩:=h hok
 obtain ⟨v,⟨r,S2,hwk,hq⟩,hr⟩:=results_ok (P:=P) (N:=fn.ntmps) hD (q:=fun v=>∃r S2,Wk S v S' r S2∧q r S2) hres
 refine ⟨r,S2,hq,fun G w cargs hall hR=>?_⟩
 have hsz:cargs.size=args.length:=by have:=hall.1; simpa using this.symm
 have hact:ActR fn.ntmps G w (argT args) { tmps:=cargs++Array.replicate (fn.ntmps - cargs.size) undef,defers:=[] }:=by
  refine ⟨by simp; omega,rfl,fun i=>?_⟩
  unfold argT
  rw [Array.getD_eq_getD_getElem?,List.getD]
  rcases Nat.lt_or_ge i args.length with g | g
  ·rw [Array.getElem?_append_left (by omega),Array.getElem?_eq_getElem (by omega),List.getElem?_eq_getElem g]
   exact hall.2 i _ _ (List.getElem?_eq_getElem g) (by simp [hsz,g])
  ·rw [List.getElem?_eq_none g]
   exact .junk _
 refine calls_of_wp hf hb (hd G _ w _ hact hR (fun a' w' G' ha' hR' hE=>?_))
 obtain ⟨u,hu,hvu⟩:=hr G' a' w' ha' hR'
 obtain ⟨G2,h1,h2,h3⟩:=hwk G w G' w' u hR hE hvu hR'
 rcases he with rfl | rfl
 ·exact ⟨ha'.defers,u,hu,u,G2,rfl,h1,h2,h3⟩
 ·exact ⟨ha'.defers,u,hu,u,G2,rfl,h1,h2,h3⟩
end
end
section
open Go
theorem Wk.erase (S0:List Blk) (r:V) (S:List Blk):Wk S0 r S (erase1 r) S:=fun _ _ G _ _ _ hE hv hR=>⟨G,erase1_ok hv,hR,hE⟩
def eraseT:V→V
 | .tup vs=>.tup (vs.map erase1)
 | v=>erase1 v
theorem Wk.eraseT (S0:List Blk) (r:V) (S:List Blk):Wk S0 r S (eraseT r) S:=by
 intro _ _ G _ _ _ hE hv hR
 refine ⟨G,?_,hR,hE⟩
 cases hv with
 | tup hl hr =>
  refine .tup (by simpa using hl) ?_
  intro i v u hv hu
  simp at hv
  obtain ⟨x,hx,rfl⟩:=hv
  exact erase1_ok (hr i x u hx hu)
 | agg a b c=>exact erase1_ok (.agg a b c)
 | rows vs a1 a2 a3 a4 a5 a6 a7=>exact erase1_ok (.rows vs a1 a2 a3 a4 a5 a6 a7)
 | rowsNil a=>exact erase1_ok (.rowsNil a)
 | rowsE=>exact erase1_ok .rowsE
 | nils=>exact erase1_ok .nils
 | int=>exact .int _ _
 | bool=>exact .bool _
 | str=>exact .str _
 | heapNil a=>exact .heapNil a
 | heap a b c d=>exact .heap a b c d
 | ptr a b=>exact .ptr a b
 | eptr vs a b c d e=>exact .eptr vs a b c d e
 | nilp=>exact .nilp
 | fn a b=>exact .fn a b
 | junk=>exact .junk _
end
section
open Go
def beq0:V→V→Bool
 | .int a m,.int b n=>a == b && m == n
 | .bool a,.bool b=>a == b
 | .str a,.str b=>a == b
 | .nils,.nils=>true
 | .nilp,.nilp=>true
 | .junk,.junk=>true
 | _,_=>false
theorem beq0_eq {a b:V} (h:beq0 a b=true):a=b:=by
 cases a <;> cases b <;> simp [beq0] at h <;> simp_all
def beqs0:List V→List V→Bool
 | [],[]=>true
 | a :: asV,b :: bs=>beq0 a b && beqs0 asV bs
 | _,_=>false
theorem beqs0_eq:∀{a b:List V},beqs0 a b=true→a=b
 | [],[],_=>rfl
 | a :: asV,b :: bs,h=>by
  simp only [beqs0,Bool.and_eq_true] at h
  rw [beq0_eq h.1,beqs0_eq h.2]
 | [],_ :: _,h=>by simp [beqs0] at h
 | _ :: _,[],h=>by simp [beqs0] at h
def kindChk (P:Program) (t:TypeId):TK→Bool
 | .none=>true
 | .int q=>match P.underlying t with | some (.int q')=>q == q' | _=>false
 | .bool=>match P.underlying t with | some .bool=>true | _=>false
 | .str=>match P.underlying t with | some .string=>true | _=>false
 | .ptr=>match P.underlying t with | some (.pointer _)=>true | _=>false
 | .slc e=>match P.underlying t with | some (.slice e')=>e == e' | _=>false
 | .fn=>match P.underlying t with | some (.func _ _ _)=>true | _=>false
 | .strct fs=>match P.underlying t with
  | some (.struct fields)=>(fields.toList.map (fun f=>(f.offset,f.type)) == fs.map (fun x=>(x.1,x.2.2))) && (fs.all fun x=>match P.info? x.2.2 with | some i=>i.size == x.2.1 | none=>false) &&
    (fields.toList.all fun f=>f.name != "_") && !P.stoodInHeld t && !P.eqGuardType P.depth t
  | _=>false
def infoChk (P:Program) (t:TypeId) (d:TD):Bool :=
 match P.info? t with
 | some i=>match i.zero with
  | some z=>i.size == d.size && i.bytes == d.bytes && beqs0 (z.cells.toList.map constC) d.zero && z.cells.toList.all Value.oneCell' && z.cells.size == d.size
  | none=>false
 | none=>false
def tyChk (P:Program) (t:TypeId) (d:TD):Bool :=
 match d.k with
 | .none=>true
 | k=>infoChk P t d && kindChk P t k
theorem tyChk_ok {P:Program} {t:TypeId} {d:TD} (h:tyChk P t d=true):TyOk P t d:=by
 unfold TyOk
 by_cases hn:d.k=.none
 ·exact .inl hn
 ·refine .inr ?_
  have h2:(infoChk P t d && kindChk P t d.k)=true:=by
   unfold tyChk at h
   cases hk:d.k <;> first | exact absurd hk hn | (rw [hk] at h; exact h)
  rw [Bool.and_eq_true] at h2
  obtain ⟨hi,hk⟩:=h2
  refine ⟨?_,?_⟩
  ·unfold infoChk at hi
   split at hi
   ·rename_i i hinf
    split at hi
    ·rename_i z hz
     simp only [Bool.and_eq_true,beq_iff_eq] at hi
     obtain ⟨⟨⟨⟨a1,a2⟩,a3⟩,a4⟩,a5⟩:=hi
     exact ⟨i,z,hinf,a1,a2,hz,beqs0_eq a3,a4,a5⟩
    ·cases hi
   ·cases hi
  ·generalize d.k=k at hk hn
   cases k with
   | none=>trivial
   | int q =>
    simp only [kindChk] at hk
    split at hk
    ·rename_i q' hu; rw [hu,(by simpa using hk:q=q')]
    ·cases hk
   | bool =>
    simp only [kindChk] at hk
    split at hk
    ·rename_i hu; exact hu
    ·cases hk
   | str =>
    simp only [kindChk] at hk
    split at hk
    ·rename_i hu; exact hu
    ·cases hk
   | ptr =>
    simp only [kindChk] at hk
    split at hk
    ·rename_i e hu; exact ⟨e,hu⟩
    ·cases hk
   | slc e =>
    simp only [kindChk] at hk
    split at hk
    ·rename_i e' hu; rw [hu,(by simpa using hk:e=e')]
    ·cases hk
   | fn =>
    simp only [kindChk] at hk
    split at hk
    ·rename_i a b c hu; exact ⟨a,b,c,hu⟩
    ·cases hk
   | strct fs =>
    simp only [kindChk] at hk
    split at hk
    ·rename_i fields hu
     simp only [Bool.and_eq_true,beq_iff_eq,Bool.not_eq_true'] at hk
     obtain ⟨⟨⟨⟨a1,a2⟩,a3⟩,a4⟩,a5⟩:=hk
     refine ⟨fields,hu,a1,fun x hx=>?_,fun f hf=>by simpa using List.all_eq_true.1 a3 f hf,a4,a5⟩
     have h3:=List.all_eq_true.1 a2 x hx
     split at h3
     ·rename_i i hi'; exact ⟨i,hi',by simpa using h3⟩
     ·cases h3
    ·cases hk
theorem typesOk_of {P:Program} (Dl:List TD) (D:Nat→TD) (hDl:∀t,D t=(Dl[t]?).getD ⟨.none,0,0,[],false,false⟩) (h:(List.range Dl.length).all (fun t=>tyChk P t (D t) && decide ((D t).size < 1000000) && !(D t).bld)=true) (hm:P.follows .mixedOrders=true):TypesOk P D:=by
 have key:∀t,TyOk P t (D t)∧(D t).size < 1000000∧(D t).bld=false:=by
  intro t
  rcases Nat.lt_or_ge t Dl.length with g | g
  ·have h1:=List.all_eq_true.1 h t (List.mem_range.2 g)
   simp only [Bool.and_eq_true,decide_eq_true_eq,Bool.not_eq_true'] at h1
   exact ⟨tyChk_ok h1.1.1,h1.1.2,h1.2⟩
  ·rw [hDl,List.getElem?_eq_none g]
   exact ⟨.inl rfl,by decide,rfl⟩
 refine ⟨fun t=>(key t).1,hm,fun t=>(key t).2.1,fun t hb=>?_⟩
 rw [(key t).2.2] at hb
 cases hb
end
end Go.Proofs.Ytldogccmhncnoaa
