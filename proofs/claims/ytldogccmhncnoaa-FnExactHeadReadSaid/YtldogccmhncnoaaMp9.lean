/- A part of the proof: contracts of functions, or plain facts on which these lean. -/
import Derived.Test.YtldogccmhncnoaaMp8
namespace Go.Proofs.Ytldogccmhncnoaa
open Go
set_option linter.unusedVariables false
set_option linter.unusedSimpArgs false
set_option maxRecDepth 100000
set_option maxHeartbeats 16000000

section
open Go
theorem preAll_old:∀(os:List Oper) (acc:List (List Nat)) (i:Nat),i < acc.length→(preAll os acc).getD i []=acc.getD i []
 | [],acc,i,_=>rfl
 | o :: os,acc,i,h=>by
  rw [preAll,preAll_old os _ i (by simp; omega)]
  simp [List.getD,List.getElem?_append_left h]
theorem preAll_mem:∀(os:List Oper) (acc:List (List Nat)) (i j:Nat),acc.length≤i→j ∈ (preAll os acc).getD i [] →
  ∃o,os[i - acc.length]?=some o∧∃e ∈ o.after,Region.binds .any e=true∧(j=e.on∨j ∈ (preAll os acc).getD e.on [])
 | [],acc,i,j,h,hj=>by simp [preAll,List.getD,List.getElem?_eq_none h] at hj
 | o :: os,acc,i,j,h,hj=>by
  rw [preAll] at hj ⊢
  rcases Nat.lt_or_ge i (acc.length+1) with g | g
  ·have hi:i=acc.length:=by omega
   subst hi
   rw [preAll_old os _ _ (by simp)] at hj
   simp only [List.getD,List.getElem?_append_right (Nat.le_refl _),Nat.sub_self,List.getElem?_cons_zero,Option.getD_some] at hj
   rw [List.mem_eraseDups,List.mem_flatten] at hj
   obtain ⟨l,hl,hjl⟩:=hj
   obtain ⟨e,he,rfl⟩:=List.mem_map.1 hl
   obtain ⟨he1,he2⟩:=List.mem_filter.1 he
   refine ⟨o,by simp,e,by simpa using he1,he2,?_⟩
   rcases List.mem_cons.1 hjl with h1 | h1
   ·exact .inl h1
   ·refine .inr ?_
    have hlt:e.on < acc.length:=by
     rcases Nat.lt_or_ge e.on acc.length with g' | g'
     ·exact g'
     ·simp [List.getElem?_eq_none g'] at h1
    rw [preAll_old os _ _ (by simp; omega)]
    simpa [List.getD,List.getElem?_append_left hlt] using h1
  ·obtain ⟨o',h1,h2⟩:=preAll_mem os _ i j (by simpa using g) hj
   refine ⟨o',?_,h2⟩
   simp only [List.length_append,List.length_cons,List.length_nil] at h1
   rw [show i - acc.length=(i - (acc.length+1))+1 by omega,List.getElem?_cons_succ]
   simpa using h1
structure DrawOk (pf:Option FuncId→Bool) (ops:Array Oper) (js:List Nat) (pre:Nat→List Nat):Prop where
 lt:∀(i:Nat) (o:Oper),ops[i]?=some o→∀e ∈ o.after,Region.binds .any e=true→e.on < i
 guard:∀(i:Nat) (o:Oper) (g:Nat) (want:Bool),ops[i]?=some o→o.guard=some (g,want)→g < i
 closed:∀i j,j ∈ pre i→∃e ∈ edgesOf ops i,j=e∨j ∈ pre e
 dst:∀(i j:Nat) (o q:Oper) (x:Nat),ops[i]?=some o→ops[j]?=some q→o.dst=some x→q.dst=some x→i=j
 fix:∀(i j:Nat) (o q:Oper),ops[i]?=some o→ops[j]?=some q→isFixed pf o.op=true→isFixed pf q.op=true→j < i→j ∈ pre i∨(i=js.getD ops.size ops.size∧isFn q.op=true∧999999 < js.getD j 0)
 al:∀(i:Nat) (o:Oper),ops[i]?=some o→i=js.getD ops.size ops.size→isAlloc o.op=true∧o.guard=none∧999999 < js.getD i 0
 rd:∀(i j:Nat) (o q:Oper) (x:Nat),ops[i]?=some o→ops[j]?=some q→j≠i→q.dst=some x→(x ∈ slotsOf o∨∃g want,o.guard=some (g,want)∧dstAt ops.toList g=some x)→j ∈ pre i∨i ∈ pre j
 rdal:∀(i:Nat) (o:Oper) (x:Nat),ops[i]?=some o→dstAt ops.toList (js.getD ops.size ops.size)=some x→i≠js.getD ops.size ops.size→(x ∈ slotsOf o∨∃g want,o.guard=some (g,want)∧dstAt ops.toList g=some x) →
  ∀(f:Nat) (q:Oper),f < js.getD ops.size ops.size→ops[f]?=some q→isFixed pf q.op=true→f ∈ pre i
 js:∀(i j:Nat) (o q:Oper),ops[i]?=some o→ops[j]?=some q→isFixed pf q.op=true→js.getD i 0≤j→i ∈ pre j
theorem drawOk_of {ops:Array Oper} {pf:Option FuncId→Bool} {js:List Nat} (h:drawOk pf ops.toList js=true):DrawOk pf ops js (fun i=>(preAll ops.toList []).getD i []):=by
 have key:∀(i:Nat) (o:Oper),ops[i]?=some o→((∀e ∈ o.after,Region.binds .any e=true→e.on < i)∧(∀g want,o.guard=some (g,want)→g < i)∧(i=js.getD ops.size ops.size→isAlloc o.op=true∧o.guard=none∧999999 < js.getD i 0)∧(∀x,dstAt ops.toList (js.getD ops.size ops.size)=some x→i≠js.getD ops.size ops.size→(x ∈ slotsOf o∨∃g want,o.guard=some (g,want)∧dstAt ops.toList g=some x)→∀(f:Nat) (q:Oper),f < js.getD ops.size ops.size→ops[f]?=some q→isFixed pf q.op=true→f ∈ (preAll ops.toList []).getD i []))∧∀(j:Nat) (q:Oper),ops[j]?=some q →
   ((j=i∨o.dst=none∨q.dst≠o.dst)∧((j < i∧isFixed pf o.op=true∧isFixed pf q.op=true)→j ∈ (preAll ops.toList []).getD i []∨(i=js.getD ops.size ops.size∧isFn q.op=true∧999999 < js.getD j 0)) ∧
    (j≠i→∀x,q.dst=some x→(x ∈ slotsOf o∨∃g want,o.guard=some (g,want)∧dstAt ops.toList g=some x)→j ∈ (preAll ops.toList []).getD i []∨i ∈ (preAll ops.toList []).getD j []) ∧
    ((isFixed pf q.op=true∧js.getD i 0≤j)→i ∈ (preAll ops.toList []).getD j [])):=by
  intro i o ho
  have hi:i < ops.toList.length:=by
   have:=Array.getElem?_eq_some_iff.1 ho
   simpa using this.1
  have h1:=List.all_eq_true.1 h i (List.mem_range.2 hi)
  simp only [show ops.toList[i]?=some o by simpa using ho,Bool.and_eq_true] at h1
  obtain ⟨⟨⟨⟨ha,hgd⟩,hal⟩,hb⟩,hrd⟩:=h1
  refine ⟨⟨fun e he hbe=>by have h3:=List.all_eq_true.1 ha e (by simpa using he); rw [hbe] at h3; simpa using h3,fun g want hg=>by rw [hg] at hgd; simpa using hgd,fun e=>by
   simp only [show ops.toList.length=ops.size by simp] at hal
   rw [←e] at hal
   simpa [and_assoc] using hal,fun x hx hne hr f q hf hq hqf=>by
   simp only [show ops.toList.length=ops.size by simp] at hrd
   rw [hx] at hrd
   simp only [Bool.or_eq_true,beq_iff_eq,Bool.not_eq_true',Bool.or_eq_false_iff] at hrd
   rcases hrd with (c | ⟨c5,c6⟩) | c
   ·exact absurd c hne
   ·exfalso
    rcases hr with hr | ⟨g,want,hg,hd⟩
    ·rw [List.contains_iff_mem.2 hr] at c5; cases c5
    ·rw [hg] at c6; simp [hd] at c6
   ·have h3:=List.all_eq_true.1 c f (List.mem_range.2 hf)
    simp only [show ops.toList[f]?=some q by simpa using hq,hqf] at h3
    simpa using h3⟩,fun j q hq=>?_⟩
  have hj:j < ops.toList.length:=by
   have:=Array.getElem?_eq_some_iff.1 hq
   simpa using this.1
  have h2:=List.all_eq_true.1 hb j (List.mem_range.2 hj)
  simp only [show ops.toList[j]?=some q by simpa using hq,Bool.and_eq_true,Bool.or_eq_true,Bool.not_eq_true',beq_iff_eq,List.contains_iff_mem,decide_eq_true_eq,show ops.toList.length=ops.size by simp] at h2
  obtain ⟨⟨⟨c1,c2⟩,c3⟩,c4⟩:=h2
  refine ⟨?_,?_,?_,?_⟩
  ·rcases c1 with (c | c) | c
   ·exact .inl c
   ·exact .inr (.inl (by simpa using c))
   ·exact .inr (.inr (by simpa using c))
  ·rintro ⟨d1,d2,d3⟩
   rcases c2 with (c | c) | c
   ·simp [d1,d2,d3] at c
   ·exact .inl c
   ·exact .inr ⟨c.1.1,c.1.2,c.2⟩
  ·intro hne x hx hr
   rcases c3 with c | c
   ·exact absurd c hne
   ·rw [hx] at c
    simp only [Bool.or_eq_true,Bool.not_eq_true',Bool.or_eq_false_iff,List.contains_iff_mem] at c
    rcases c with (⟨c5,c6⟩ | c) | c
    ·exfalso
     rcases hr with hr | ⟨g,want,hg,hd⟩
     ·rw [List.contains_iff_mem.2 hr] at c5; cases c5
     ·rw [hg] at c6; simp [hd] at c6
    ·exact .inl c
    ·exact .inr c
  ·rintro ⟨d1,d2⟩
   rcases c4 with c | c
   ·rw [d1] at c
    simp only [Bool.true_and,decide_eq_false_iff_not] at c
    exact absurd d2 c
   ·exact c
 refine ⟨fun i o ho=>(key i o ho).1.1,fun i o g want ho hg=>(key i o ho).1.2.1 g want hg,?_,?_,?_,fun i o ho=>(key i o ho).1.2.2.1,?_,fun i o x ho=>(key i o ho).1.2.2.2 x,?_⟩
 ·intro i j hj
  obtain ⟨o,ho,e,he,hb,hr⟩:=preAll_mem ops.toList [] i j (Nat.zero_le _) hj
  refine ⟨e.on,?_,hr⟩
  unfold edgesOf
  simp only [List.length_nil,Nat.sub_zero] at ho
  have ho':ops[i]?=some o:=by simpa using ho
  rw [ho']
  exact List.mem_map.2 ⟨e,List.mem_filter.2 ⟨by simpa using he,hb⟩,rfl⟩
 ·intro i j o q x ho hq hx hy
  rcases ((key i o ho).2 j q hq).1 with c | c | c
  ·exact c.symm
  ·rw [hx] at c; cases c
  ·exact absurd (hy.trans hx.symm) c
 ·intro i j o q ho hq h1 h2 h3
  exact ((key i o ho).2 j q hq).2.1 ⟨h3,h1,h2⟩
 ·intro i j o q x ho hq hne hx hr
  exact ((key i o ho).2 j q hq).2.2.1 hne x hx hr
 ·intro i j o q ho hq h1 h2
  exact ((key i o ho).2 j q hq).2.2.2 ⟨h1,h2⟩
theorem DrawOk.pre_lt {ops:Array Oper} {pf:Option FuncId→Bool} {js:List Nat} {pre:Nat→List Nat} (hd:DrawOk pf ops js pre):∀(n:Nat) (i j:Nat),i≤n→j ∈ pre i→j < i:=by
 have he:∀i e,e ∈ edgesOf ops i→e < i:=by
  intro i e he
  unfold edgesOf at he
  cases hoi:ops[i]? with
  | none=>rw [hoi] at he; cases he
  | some oi =>
   rw [hoi] at he
   obtain ⟨ed,hed,rfl⟩:=List.mem_map.1 he
   exact hd.lt i oi hoi ed (by simpa using (List.mem_filter.1 hed).1) (List.mem_filter.1 hed).2
 intro n
 induction n with
 | zero =>
  intro i j hin hj
  obtain ⟨e,h1,_⟩:=hd.closed i j hj
  have:=he i e h1
  omega
 | succ n ih =>
  intro i j hin hj
  obtain ⟨e,h1,h2⟩:=hd.closed i j hj
  have hei:=he i e h1
  rcases h2 with rfl | h2
  ·exact hei
  ·have:=ih e j (by omega) h2; omega
def wrAt (ops:List Oper) (x:Nat):Option Nat:=(List.range ops.length).find? fun i=>dstAt ops i == some x
theorem wrAt_some {ops:List Oper} {x i:Nat} (h:wrAt ops x=some i):dstAt ops i=some x:=by
 have:=List.find?_some h
 simpa using this
theorem wrAt_none {ops:List Oper} {x:Nat} (h:wrAt ops x=none) (i:Nat):dstAt ops i≠some x:=by
 intro hd
 have hlt:i < ops.length:=by
  rcases Nat.lt_or_ge i ops.length with g | g
  ·exact g
  ·simp [dstAt,List.getElem?_eq_none g] at hd
 have:=List.find?_eq_none.1 h i (List.mem_range.2 hlt)
 simp [hd] at this
section
variable {P:Program} {D:Nat→TD}
def slotsAt (ops:List Oper) (t:Nat→V) (val:Nat→V) (done:Nat→Prop) (x:Nat) (v:V):Prop :=
 match wrAt ops x with
 | some i=>(done i→v=val i)∧(¬done i→v=t x)
 | none=>v=t x
def Pend (pf:Option FuncId→Bool) (ops:Array Oper) (al:Nat) (dn:List Nat):Prop:=al ∈ dn∧∃f q,f < al∧ops[f]?=some q∧isFixed pf q.op=true∧f ∉ dn
theorem draw_sound (hD:TypesOk P D) {N:Nat} (pf:Option FuncId→Bool) (ops:Array Oper) (js:List Nat) (hok:drawOk pf ops.toList js=true) (hN:opsOk N ops.toList=true) {t:Nat→V} {S:List Blk} {k:(Nat→V)→List Blk→Prop}
  (h:evDraw P D pf ops.toList ops.toList 0 js t S [] [] k):∃t' S',k t' S'∧∀(G:Gh) (a:Act) (w:World) (Q:Exit→Act→World→Prop),ActR N G w t a→Rel G w S →
   (∀a' w' G',ActR N G' w' t' a'→Rel G' w' S'→Evol G w S G' w' S'→Q .normal a' w')→∀l,Sched ops.size (edgesOf ops) [] l→wpOps P ops Q l a w:=by
 have hd:=drawOk_of hok
 generalize hpre:(fun i=>(preAll ops.toList []).getD i [])=pre at hd
 clear hpre hok
 obtain ⟨t',S',val,st,T,hk,hT0,hs0,hTn,hsn,hall,_⟩:=draw_data hD ops.toList ops.toList 0 js (fun j=>by simp) t S [] [] k h
 have hn:ops.toList.length=ops.size:=by simp
 simp only [Nat.zero_add,hn] at hTn hsn hall
 refine ⟨t',S',hk,?_⟩
 have hget:∀(i:Nat) (o:Oper),ops.toList[i]?=some o↔ops[i]?=some o:=fun i o=>by simp
 have hdst:∀(i:Nat) (x:Nat),dstAt ops.toList i=some x↔∃o,ops[i]?=some o∧o.dst=some x:=by
  intro i x
  simp only [dstAt,Option.bind_eq_some_iff,hget]
 have hTx:∀i,i≤ops.size→∀x,slotsAt ops.toList t val (fun j=>j < i) x (T i x):=by
  intro i
  induction i with
  | zero =>
   intro _ x
   rw [hT0]
   unfold slotsAt
   split
   ·exact ⟨fun h=>by omega,fun _=>by trivial⟩
   ·trivial
  | succ i ih =>
   intro hi x
   obtain ⟨o,ho,hT,_⟩:=hall i (Nat.zero_le _) (by omega)
   have ho':=(hget i o).1 ho
   have ih':=ih (by omega) x
   rw [hT]
   unfold slotsAt at ih' ⊢
   cases hw:wrAt ops.toList x with
   | none =>
    rw [hw] at ih'
    simp only at ih' ⊢
    cases hod:o.dst with
    | none=>simpa [putT] using ih'
    | some d =>
     have hne:x≠d:=by
      intro e
      subst e
      exact wrAt_none hw i ((hdst i x).2 ⟨o,ho',hod⟩)
     simpa [putT,hne] using ih'
   | some j =>
    rw [hw] at ih'
    simp only at ih' ⊢
    obtain ⟨q,hq,hqx⟩:=(hdst j x).1 (wrAt_some hw)
    cases hod:o.dst with
    | none =>
     have hji:j≠i:=by
      intro e; subst e
      rw [ho'] at hq; cases hq
      rw [hod] at hqx; cases hqx
     simp only [putT]
     exact ⟨fun h=>ih'.1 (by omega),fun h=>ih'.2 (by omega)⟩
    | some d =>
     by_cases e:x=d
     ·subst e
      have hji:=hd.dst i j o q x ho' hq hod hqx
      subst hji
      simp only [putT,if_true]
      exact ⟨fun _=>by trivial,fun h=>absurd (Nat.lt_succ_self _) h⟩
     ·have hji:j≠i:=by
       intro e'; subst e'
       rw [ho'] at hq; cases hq
       rw [hod] at hqx; cases hqx
       exact e rfl
      simp only [putT,e,if_false]
      exact ⟨fun h=>ih'.1 (by omega),fun h=>ih'.2 (by omega)⟩
 have hstill:∀(i:Nat) (o:Oper),ops[i]?=some o→i < ops.size→isFixed pf o.op=false→st (i+1)=st i:=by
  intro i o ho hi hf
  obtain ⟨o',ho',_,hc⟩:=hall i (Nat.zero_le _) hi
  rw [(hget i o').1 ho'] at ho; cases ho
  rcases hc with ⟨_,⟨_,h1,_⟩ | ⟨b,_,h1,_⟩ | ⟨h1,_⟩⟩ | ⟨_,_,h1⟩
  ·exact h1
  ·exact h1
  ·rw [hf] at h1; cases h1
  ·exact h1
 have hspan0:∀(d s:Nat),s+d≤ops.size→(∀i o,s≤i→i < s+d→ops[i]?=some o→isFixed pf o.op=false)→st (s+d)=st s:=by
  intro d
  induction d with
  | zero=>intro s _ _; rfl
  | succ d ih =>
   intro s hs hf
   have hlt:s+d < ops.size:=by omega
   rw [←Nat.add_assoc,hstill (s+d) ops[s+d] (Array.getElem?_eq_getElem hlt) hlt (hf (s+d) _ (by omega) (by omega) (Array.getElem?_eq_getElem hlt))]
   exact ih s (by omega) (fun i o h1 h2 h3=>hf i o h1 (by omega) h3)
 obtain ⟨al,hal⟩:∃al,al=js.getD ops.size ops.size:=⟨_,rfl⟩
 have hfixd:=hd.fix
 have hald:=hd.al
 have hrdal:=hd.rdal
 rw [←hal] at hfixd hald hrdal
 obtain ⟨cz,hcz⟩:∃cz:List V,al < ops.size→cz≠[]∧(∀v ∈ cz,Cl 0 v)∧val al=.ptr (st al).length 0∧st (al+1)=st al++[.cells 0 cz] ∧
   ∃o,ops[al]?=some o∧isFixed pf o.op=true∧o.guard=none∧∀S2,OpStep P o (evalT (T al)) S2 (.ptr S2.length 0) (S2++[.cells 0 cz]):=by
  by_cases hlt:al < ops.size
  ·obtain ⟨o,ho,_,hc⟩:=hall al (Nat.zero_le _) hlt
   have ho':=(hget al o).1 ho
   obtain ⟨h1,h2,h3⟩:=hald al o ho' rfl
   have hfx:isFixed pf o.op=true:=by
    cases hop:o.op with
    | alloc t=>rfl
    | _=>rw [hop] at h1; cases h1
   rcases hc with ⟨_,⟨_,_,h4⟩ | ⟨b,h4,_⟩ | ⟨_,_,h4⟩⟩ | ⟨h4,_⟩
   ·rw [hfx] at h4; cases h4
   ·rw [hfx] at h4; cases h4
   ·obtain ⟨cs,g1,g2,g3,g4,g5⟩:=h4.alloc h1 (by rw [Nat.sub_zero]; exact h3)
    exact ⟨cs,fun _=>⟨g1,g2,g3,g4,o,ho',hfx,h2,g5⟩⟩
   ·rcases h4 with ⟨_,h5⟩ | ⟨g,want,d,h5,_⟩
    ·cases h5
    ·rw [h2] at h5; cases h5
  ·exact ⟨[],fun h=>absurd h hlt⟩
 have hspan:∀(s e:Nat),s≤e→e≤ops.size→(∀i o,s≤i→i < e→i≠al→ops[i]?=some o→isFixed pf o.op=false)→(¬(s≤al∧al < e)→st e=st s)∧(s≤al→al < e→st e=st s++[.cells 0 cz]):=by
  intro s e hse he hf
  refine ⟨fun hno=>?_,fun h1 h2=>?_⟩
  ·have:=hspan0 (e - s) s (by omega) (fun i o h1 h2 h3=>hf i o h1 (by omega) (by omega) h3)
   rwa [show s+(e - s)=e by omega] at this
  ·have e1:=hspan0 (al - s) s (by omega) (fun i o h3 h4 h5=>hf i o h3 (by omega) (by omega) h5)
   have e2:=hspan0 (e - (al+1)) (al+1) (by omega) (fun i o h3 h4 h5=>hf i o (by omega) (by omega) (by omega) h5)
   rw [show s+(al - s)=al by omega] at e1
   rw [show al+1+(e - (al+1))=e by omega] at e2
   rw [e2,(hcz (by omega)).2.2.2.1,e1]
 intro G a w Q ha hR hQ l hl
 have hwal:∀x,dstAt ops.toList al=some x→wrAt ops.toList x=some al:=by
  intro x hx
  obtain ⟨o,ho,hox⟩:=(hdst al x).1 hx
  cases hw:wrAt ops.toList x with
  | none=>exact absurd hx (wrAt_none hw al)
  | some j =>
   obtain ⟨q,hq,hqx⟩:=(hdst j x).1 (wrAt_some hw)
   rw [hd.dst al j o q x ho hq hox hqx]
 have hplace:∀(s:Nat) (dn:List Nat),al < ops.size→s≤al→(∀(f:Nat) (q:Oper),f < al→ops[f]?=some q→isFixed pf q.op=true→f ∈ dn)→(∀(f:Nat) (o:Oper),ops[f]?=some o→isFixed pf o.op=true→f≠al→(f ∈ dn↔f < s))→st al=st s:=by
  intro s dn hlt hs hall' hfix
  have:=hspan0 (al - s) s (by omega) (fun i o h1 h2 h3=>by
   cases hq:isFixed pf o.op with
   | false=>rfl
   | true =>
    have:=(hfix i o h3 hq (by omega)).1 (hall' i o (by omega) h3 hq)
    omega)
  rwa [show s+(al - s)=al by omega] at this
 have main:∀(dn l:List Nat),Sched ops.size (edgesOf ops) dn l→∀(s:Nat) (G1:Gh) (a1:Act) (w1:World),s≤ops.size→a1.tmps.size=N→a1.defers=[] →
   (¬Pend pf ops al dn→∀x,∃v,slotsAt ops.toList t val (fun j=>j ∈ dn) x v∧VR G1 w1 v (a1.tmps.getD x undef)) →
   (Pend pf ops al dn→∀x,(dstAt ops.toList al=some x→VR G1 w1 (.ptr (st s).length 0) (a1.tmps.getD x undef)) ∧
    (dstAt ops.toList al≠some x→∃v,slotsAt ops.toList t val (fun j=>j ∈ dn) x v∧VR G1 w1 v (a1.tmps.getD x undef)∧Cl (st s).length v)) →
   ∀A:List Blk,Rel G1 w1 A→Evol G w S G1 w1 A→(al ∈ dn→s≤al→A=st s++[.cells 0 cz]∧ClS (st s))→(¬(al ∈ dn∧s≤al)→A=st s)→S.length≤(st s).length →
   (∀i ∈ dn,i < ops.size)→(∀i ∈ dn,∀j ∈ pre i,j ∈ dn)→(∀(f:Nat) (o:Oper),ops[f]?=some o→isFixed pf o.op=true→f≠al→(f ∈ dn↔f < s))→(s=0∨∃f q,s=f+1∧ops[f]?=some q∧isFixed pf q.op=true∧f≠al∧f ∈ dn)→wpOps P ops Q l a1 w1:=by
  intro dn l hsch
  induction hsch with
  | @done dn hdone =>
   intro s G1 a1 w1 hs hsz hdf hslots _ A hR1 hE hA1 hA2 _ hlt hcl hfix hlast
   have hslots:=hslots (fun ⟨_,f,q,h1,h2,h3,h4⟩=>h4 (hdone f (Array.getElem?_eq_some_iff.1 h2).1))
   simp only [wpOps]
   have hst:st ops.size=A:=by
    have:=hspan s ops.size hs (Nat.le_refl _) (fun i o h1 h2 hne h3=>by
     cases hf:isFixed pf o.op with
     | false=>rfl
     | true =>
      have:=(hfix i o h3 hf hne).1 (hdone i h2)
      omega)
    by_cases hc:s≤al∧al < ops.size
    ·rw [this.2 hc.1 hc.2,(hA1 (hdone al hc.2) hc.1).1]
    ·rw [this.1 hc,hA2 (fun h=>hc ⟨h.2,hlt al h.1⟩)]
   rw [←hst] at hR1 hE
   rw [hsn] at hR1 hE
   refine hQ a1 w1 G1 ⟨hsz,hdf,fun x=>?_⟩ hR1 hE
   obtain ⟨v,hv,hr⟩:=hslots x
   have h2:=hTx ops.size (Nat.le_refl _) x
   rw [hTn] at h2
   have:v=t' x:=by
    unfold slotsAt at hv h2
    cases hw:wrAt ops.toList x with
    | none=>rw [hw] at hv h2; simp only at hv h2; rw [hv,h2]
    | some j =>
     rw [hw] at hv h2
     simp only at hv h2
     obtain ⟨q,hq,_⟩:=(hdst j x).1 (wrAt_some hw)
     have hj:j < ops.size:=(Array.getElem?_eq_some_iff.1 hq).1
     rw [hv.1 (hdone j hj),h2.1 hj]
   rw [←this]; exact hr
  | @step dn l i hi hnot hedges hrest ih =>
   intro s G1 a1 w1 hs hsz hdf hslots hspec A hR1 hE hA1 hA2 hlen0 hlt hcl hfix hlast
   obtain ⟨o,ho0,hT,hcls⟩:=hall i (Nat.zero_le _) hi
   have ho:=(hget i o).1 ho0
   have hmem:o ∈ ops.toList:=List.mem_of_getElem? ho0
   have hpre_i:∀j ∈ pre i,j ∈ dn:=by
    intro j hj
    obtain ⟨e,he,h1⟩:=hd.closed i j hj
    have hed:=hedges e he
    rcases h1 with rfl | h1
    ·exact hed
    ·exact hcl e hed j h1
   have hcl':∀i' ∈ i :: dn,∀j ∈ pre i',j ∈ i :: dn:=by
    intro i' hi' j hj
    rcases List.mem_cons.1 hi' with rfl | h1
    ·exact List.mem_cons_of_mem _ (hpre_i j hj)
    ·exact List.mem_cons_of_mem _ (hcl i' h1 j hj)
   have hlt':∀j ∈ i :: dn,j < ops.size:=fun j hj=>by
    rcases List.mem_cons.1 hj with rfl | hj
    ·exact hi
    ·exact hlt j hj
   have hval:∀x v,(x ∈ slotsOf o∨∃g want,o.guard=some (g,want)∧dstAt ops.toList g=some x)→slotsAt ops.toList t val (fun j=>j ∈ dn) x v→v=T i x:=by
    intro x v hx hv
    have h2:=hTx i (by omega) x
    unfold slotsAt at hv h2
    cases hw:wrAt ops.toList x with
    | none=>rw [hw] at hv h2; simp only at hv h2; rw [hv,h2]
    | some j =>
     rw [hw] at hv h2
     simp only at hv h2
     obtain ⟨q,hq,hqx⟩:=(hdst j x).1 (wrAt_some hw)
     by_cases hne:j=i
     ·subst hne
      rw [hv.2 hnot,h2.2 (Nat.lt_irrefl _)]
     ·rcases hd.rd i j o q x ho hq hne hqx hx with h3 | h3
      ·have hji:=hd.pre_lt i i j (Nat.le_refl _) h3
       rw [hv.1 (hpre_i j h3),h2.1 hji]
      ·have hjn:j ∉ dn:=fun hj=>hnot (hcl j hj i h3)
       have hij:=hd.pre_lt j j i (Nat.le_refl _) h3
       rw [hv.2 hjn,h2.2 (by omega)]
   have hdN:=opsOk_dst hN hmem
   have hold:∀x v,o.dst≠some x→slotsAt ops.toList t val (fun j=>j ∈ dn) x v→slotsAt ops.toList t val (fun j=>j ∈ i :: dn) x v:=by
    intro x v hx hv
    unfold slotsAt at hv ⊢
    cases hw:wrAt ops.toList x with
    | none=>rw [hw] at hv; exact hv
    | some j =>
     rw [hw] at hv
     simp only at hv ⊢
     obtain ⟨q,hq,hqx⟩:=(hdst j x).1 (wrAt_some hw)
     have hne:j≠i:=by
      intro e; subst e
      rw [ho] at hq; cases hq
      exact hx hqx
     exact ⟨fun h=>hv.1 (by simpa [hne] using h),fun h=>hv.2 (fun h'=>h (List.mem_cons_of_mem _ h'))⟩
   have hnew:∀d,o.dst=some d→slotsAt ops.toList t val (fun j=>j ∈ i :: dn) d (val i):=by
    intro d hod
    unfold slotsAt
    cases hw:wrAt ops.toList d with
    | none=>exact absurd ((hdst i d).2 ⟨o,ho,hod⟩) (wrAt_none hw i)
    | some j =>
     simp only
     obtain ⟨q,hq,hqx⟩:=(hdst j d).1 (wrAt_some hw)
     have:=hd.dst i j o q d ho hq hod hqx
     subst this
     exact ⟨fun _=>rfl,fun h=>absurd List.mem_cons_self h⟩
   have hslot:∀(c:Value) (R:Nat→Value→Prop),(∀x,o.dst≠some x→R x (a1.tmps.getD x undef))→(∀d,o.dst=some d→R d c) →
     (a1.put o.dst c).tmps.size=N∧(a1.put o.dst c).defers=[]∧∀x,R x ((a1.put o.dst c).tmps.getD x undef):=by
    intro c R h1 h2
    cases hod:o.dst with
    | none=>exact ⟨hsz,hdf,fun x=>by simpa [Act.put] using h1 x (by rw [hod]; simp)⟩
    | some d =>
     have hlt:=hdN d hod
     refine ⟨by simp [Act.put,hsz],hdf,fun x=>?_⟩
     simp only [Act.put]
     rw [Array.getD_eq_getD_getElem?,Array.getElem?_setIfInBounds]
     by_cases e:d=x
     ·subst e
      rw [if_pos rfl,if_pos (by omega)]
      exact h2 d hod
     ·rw [if_neg e,←Array.getD_eq_getD_getElem?]
      exact h1 x (by rw [hod]; simpa using e)
   have hwantT:(∀x,(x ∈ slotsOf o∨∃g want,o.guard=some (g,want)∧dstAt ops.toList g=some x)→VR G1 w1 (T i x) (a1.tmps.getD x undef))→WantedV ops.toList o (T i) true→Region.wanted o (yielded ops a1.tmps)=true:=by
    intro hread hw
    rcases hw with ⟨hg,_⟩ | ⟨g,want,d,hg,hdg,hb | ⟨hb,_⟩⟩
    ·simp [Region.wanted,hg]
    ·have hr:=hread d (.inr ⟨g,want,hg,hdg⟩)
     simp only [if_true] at hb
     rw [hb] at hr
     obtain ⟨og,hog,hogd⟩:=(hdst g d).1 hdg
     have hlt:=opsOk_dst hN (List.mem_of_getElem? ((hget g og).2 hog)) d hogd
     have hy:yielded ops a1.tmps g=some want:=by
      rw [Array.getD_eq_getD_getElem?,Array.getElem?_eq_getElem (by omega)] at hr
      simp only [Option.getD_some] at hr
      unfold yielded
      rw [hog]
      simp only [Option.bind_some,hogd]
      rw [Array.getElem?_eq_getElem (by omega)]
      generalize a1.tmps[d]=c at hr
      cases hr
      rfl
     simp [Region.wanted,hg,hy]
    ·cases hb
   have hwantF:(∀x,(x ∈ slotsOf o∨∃g want,o.guard=some (g,want)∧dstAt ops.toList g=some x)→VR G1 w1 (T i x) (a1.tmps.getD x undef))→WantedV ops.toList o (T i) false→Region.wanted o (yielded ops a1.tmps)=false:=by
    intro hread hw
    rcases hw with ⟨_,hg⟩ | ⟨g,want,d,hg,hdg,hb | ⟨_,hb⟩⟩
    ·cases hg
    ·have hr:=hread d (.inr ⟨g,want,hg,hdg⟩)
     simp only [Bool.false_eq_true,if_false] at hb
     rw [hb] at hr
     obtain ⟨og,hog,hogd⟩:=(hdst g d).1 hdg
     have hlt:=opsOk_dst hN (List.mem_of_getElem? ((hget g og).2 hog)) d hogd
     have hy:yielded ops a1.tmps g=some (!want):=by
      rw [Array.getD_eq_getD_getElem?,Array.getElem?_eq_getElem (by omega)] at hr
      simp only [Option.getD_some] at hr
      unfold yielded
      rw [hog]
      simp only [Option.bind_some,hogd]
      rw [Array.getElem?_eq_getElem (by omega)]
      generalize a1.tmps[d]=c at hr
      cases hr
      rfl
     simp [Region.wanted,hg,hy]
    ·have hr:=vr_undef_inv (by rw [←hb]; exact hread d (.inr ⟨g,want,hg,hdg⟩))
     obtain ⟨og,hog,hogd⟩:=(hdst g d).1 hdg
     have hlt:=opsOk_dst hN (List.mem_of_getElem? ((hget g og).2 hog)) d hogd
     have hy:yielded ops a1.tmps g=none:=by
      rw [Array.getD_eq_getD_getElem?,Array.getElem?_eq_getElem (by omega)] at hr
      simp only [Option.getD_some] at hr
      unfold yielded
      rw [hog]
      simp only [Option.bind_some,hogd]
      rw [Array.getElem?_eq_getElem (by omega),hr]
      rfl
     simp [Region.wanted,hg,hy]
   have hals:al < ops.size→al < s→al ∈ dn:=by
    intro hlt hg
    obtain ⟨o',h1,h2,_⟩:=(hcz hlt).2.2.2.2
    rcases hlast with h0 | ⟨f,q,rfl,hq,hqf,hne,hfd⟩
    ·omega
    ·rcases hfixd f al q o' hq h1 hqf h2 (by omega) with h3 | ⟨h3,_⟩
     ·exact hcl f hfd al h3
     ·exact absurd h3 hne
   have hia:isFixed pf o.op=false→i≠al:=by
    intro hf e
    subst e
    obtain ⟨o',h1,h2,_⟩:=(hcz hi).2.2.2.2
    rw [ho] at h1; cases h1
    rw [hf] at h2; cases h2
   have hloose:isFixed pf o.op=false→∀(f:Nat) (q:Oper),ops[f]?=some q→isFixed pf q.op=true→f≠al→(f ∈ i :: dn↔f < s):=by
    intro hf f q hq hqf hfa
    rw [←hfix f q hq hqf hfa]
    constructor
    ·intro h
     rcases List.mem_cons.1 h with rfl | h
     ·rw [ho] at hq; cases hq; rw [hf] at hqf; cases hqf
     ·exact h
    ·exact fun h=>List.mem_cons_of_mem _ h
   have hmem':∀{j:Nat},i≠j→(j ∈ i :: dn↔j ∈ dn):=by
    intro j hne
    constructor
    ·intro h
     rcases List.mem_cons.1 h with h | h
     ·exact absurd h.symm hne
     ·exact h
    ·exact List.mem_cons_of_mem _
   have hlast':isFixed pf o.op=false→(s=0∨∃f q,s=f+1∧ops[f]?=some q∧isFixed pf q.op=true∧f≠al∧f ∈ i :: dn) :=
    fun _=>hlast.imp id fun ⟨f,q,e1,e2,e3,e5,e4⟩=>⟨f,q,e1,e2,e3,e5,List.mem_cons_of_mem _ e4⟩
   have hpre':isFixed pf o.op=true→i≠al→∀f q,ops[f]?=some q→isFixed pf q.op=true→f < i→f ∈ dn:=by
    intro hf hne f q h1 h2 h3
    rcases hfixd i f o q ho h1 hf h2 h3 with h4 | ⟨h4,_⟩
    ·exact hpre_i f h4
    ·exact absurd h4 hne
   have hsi':isFixed pf o.op=true→i≠al→s≤i:=by
    intro hf hne
    rcases Nat.lt_or_ge i s with g | g
    ·exact absurd ((hfix i o ho hf hne).2 g) hnot
    ·exact g
   have hspn:isFixed pf o.op=true→i≠al→(¬(s≤al∧al < i)→st i=st s)∧(s≤al→al < i→st i=st s++[.cells 0 cz]):=by
    intro hf hne
    refine hspan s i (hsi' hf hne) (by omega) (fun f q h1 h2 hfa h3=>?_)
    cases hq:isFixed pf q.op with
    | false=>rfl
    | true =>
     have:=(hfix f q h3 hq hfa).1 (hpre' hf hne f q h3 hq h2)
     omega
   have hfxn:isFixed pf o.op=true→i≠al→∀(f:Nat) (q:Oper),ops[f]?=some q→isFixed pf q.op=true→f≠al→(f ∈ i :: dn↔f < i+1):=by
    intro hf hne f q hq hqf hfa
    have hsi:=hsi' hf hne
    constructor
    ·intro h
     rcases List.mem_cons.1 h with rfl | h
     ·omega
     ·have:=(hfix f q hq hqf hfa).1 h; omega
    ·intro h
     by_cases e:f=i
     ·rw [e]; exact List.mem_cons_self
     ·exact List.mem_cons_of_mem _ (hpre' hf hne f q hq hqf (by omega))
   have hl3:isFixed pf o.op=true→i≠al→(i+1=0∨∃f q,i+1=f+1∧ops[f]?=some q∧isFixed pf q.op=true∧f≠al∧f ∈ i :: dn) :=
    fun hf hne=>.inr ⟨i,o,rfl,ho,hf,hne,List.mem_cons_self⟩
   have hsb:∀b:Nat,(∀m,0≤m→m≤i→(st m)[b]?=(st i)[b]?)→st (i+1)=st i→(∀m,i < m→m < js.getD (i - 0) 0→m < ops.size→(st (m+1))[b]?=(st m)[b]?)→(st s)[b]?=(st i)[b]?:=by
    intro b hback hst1 hfwd
    rcases Nat.lt_or_ge i s with g | g
    ·have hJ:∃f q,s=f+1∧ops[f]?=some q∧isFixed pf q.op=true∧f≠al∧f ∈ dn:=by
      rcases hlast with h0 | h0
      ·omega
      ·exact h0
     obtain ⟨f,q,rfl,hq,hqf,_,hfd⟩:=hJ
     have hfJ:f < js.getD i 0:=by
      rcases Nat.lt_or_ge f (js.getD i 0) with g' | g'
      ·exact g'
      ·exact absurd (hcl f hfd i (hd.js i f o q ho hq hqf g')) hnot
     have hwalk:∀d,i+1+d≤f+1→(st (i+1+d))[b]?=(st i)[b]?:=by
      intro d
      induction d with
      | zero=>intro _; rw [Nat.add_zero,hst1]
      | succ d ihd =>
       intro hd'
       rw [←Nat.add_assoc,hfwd (i+1+d) (by omega) (by rw [Nat.sub_zero]; omega) (by omega)]
       exact ihd (by omega)
     have:=hwalk (f - i) (by omega)
     rwa [show i+1+(f - i)=f+1 by omega] at this
    ·exact hback s (Nat.zero_le _) g
   by_cases hP:Pend pf ops al dn
   ·
    obtain ⟨hald',f0,q0,hf0,hq0,hqf0,hf0n⟩:=id hP
    have hsal:s≤al:=by
     rcases Nat.lt_or_ge f0 s with g | g
     ·exact absurd ((hfix f0 q0 hq0 hqf0 (by omega)).2 g) hf0n
     ·omega
    obtain ⟨hAe,hAc⟩:=hA1 hald' hsal
    subst hAe
    obtain ⟨z1,z2,z3,z4,_⟩:=hcz (hlt al hald')
    have hspec:=hspec hP
    have hial:i≠al:=fun e=>hnot (e ▸ hald')
    have hread:∀x,(x ∈ slotsOf o∨∃g want,o.guard=some (g,want)∧dstAt ops.toList g=some x)→VR G1 w1 (T i x) (a1.tmps.getD x undef)∧Cl (st s).length (T i x):=by
     intro x hx
     have hnx:dstAt ops.toList al≠some x:=fun e=>hf0n (hpre_i f0 (hrdal i o x ho e hial hx f0 q0 hf0 hq0 hqf0))
     obtain ⟨v,hv,hr,hc⟩:=(hspec x).2 hnx
     rw [←hval x v hx hv]
     exact ⟨hr,hc⟩
    have hops:∀x ∈ o.op.operands,VR G1 w1 (evalT (T i) x) (a1.eval x)∧Cl (st s).length (evalT (T i) x):=by
     intro x hx
     cases x with
     | tmp y=>exact hread y (.inl (by unfold slotsOf; exact List.mem_filterMap.2 ⟨_,by simpa using hx,rfl⟩))
     | const v=>exact ⟨constV_ok G1 w1 v,(constV_ok (G1.cut (st s).length) w1 v).cl⟩
     | global g=>exact ⟨.junk _,.junk⟩
     | func f=>exact ⟨.fn (by simp) (by simp),.fn (by simp)⟩
    have hdal:∀d,o.dst=some d→dstAt ops.toList al≠some d:=fun d h1 h2=>by
     obtain ⟨o',ho',hox⟩:=(hdst al d).1 h2
     exact hial (hd.dst i al o o' d ho ho' h1 hox)
    have hputF:∀(G2:Gh) (w2:World) (c:Value) (n2:Nat),(∀u c,Cl (st s).length u→VR G1 w1 u c→VR G2 w2 u c)→(∀c,VR G1 w1 (.ptr (st s).length 0) c→VR G2 w2 (.ptr n2 0) c)→(st s).length≤n2→VR G2 w2 (val i) c→Cl n2 (val i) →
      (a1.put o.dst c).tmps.size=N∧(a1.put o.dst c).defers=[]∧∀x,(dstAt ops.toList al=some x→VR G2 w2 (.ptr n2 0) ((a1.put o.dst c).tmps.getD x undef)) ∧
       (dstAt ops.toList al≠some x→∃v,slotsAt ops.toList t val (fun j=>j ∈ i :: dn) x v∧VR G2 w2 v ((a1.put o.dst c).tmps.getD x undef)∧Cl n2 v):=by
     intro G2 w2 c n2 htr hptr hle hc hcc
     refine hslot c (fun x u=>(dstAt ops.toList al=some x→VR G2 w2 (.ptr n2 0) u)∧(dstAt ops.toList al≠some x→∃v,slotsAt ops.toList t val (fun j=>j ∈ i :: dn) x v∧VR G2 w2 v u∧Cl n2 v)) (fun x hx=>⟨fun h=>hptr _ ((hspec x).1 h),fun h=>?_⟩) (fun d hd'=>⟨fun h=>absurd h (hdal d hd'),fun _=>⟨val i,hnew d hd',hc,hcc⟩⟩)
     obtain ⟨v,hv,hr,hvc⟩:=(hspec x).2 h
     exact ⟨v,hold x v hx hv,htr v _ hvc hr,hvc.mono hle⟩
    have next:∀(s2:Nat) (G2:Gh) (w2:World) (a2:Act),s2≤ops.size→a2.tmps.size=N→a2.defers=[]→(∀x,(dstAt ops.toList al=some x→VR G2 w2 (.ptr (st s2).length 0) (a2.tmps.getD x undef)) ∧
       (dstAt ops.toList al≠some x→∃v,slotsAt ops.toList t val (fun j=>j ∈ i :: dn) x v∧VR G2 w2 v (a2.tmps.getD x undef)∧Cl (st s2).length v)) →
      Rel G2 w2 (st s2++[.cells 0 cz])→Evol G w S G2 w2 (st s2++[.cells 0 cz])→ClS (st s2)→s2≤al→S.length≤(st s2).length →
      (∀(f:Nat) (o:Oper),ops[f]?=some o→isFixed pf o.op=true→f≠al→(f ∈ i :: dn↔f < s2))→(s2=0∨∃f q,s2=f+1∧ops[f]?=some q∧isFixed pf q.op=true∧f≠al∧f ∈ i :: dn)→wpOps P ops Q l a2 w2:=by
     intro s2 G2 w2 a2 h1 h2 h3 h4 h5 h6 h7 h8 h9 h10 h11
     refine ih s2 G2 a2 w2 h1 h2 h3 (fun hnp x=>?_) (fun _=>h4) _ h5 h6 (fun _ _=>⟨rfl,h7⟩) (fun h=>absurd ⟨List.mem_cons_of_mem _ hald',h8⟩ h) h9 hlt' hcl' h10 h11
     have hpl:=hplace s2 (i :: dn) (hlt al hald') h8 (fun f q g1 g2 g3=>by
      by_cases hm:f ∈ i :: dn
      ·exact hm
      ·exact absurd ⟨List.mem_cons_of_mem _ hald',f,q,g1,g2,g3,hm⟩ hnp) h10
     by_cases hx:dstAt ops.toList al=some x
     ·refine ⟨val al,?_,?_⟩
      ·unfold slotsAt
       rw [hwal x hx]
       exact ⟨fun _=>rfl,fun h=>absurd (List.mem_cons_of_mem _ hald') h⟩
      ·rw [z3,hpl]; exact (h4 x).1 hx
     ·obtain ⟨v,hv,hr,_⟩:=(h4 x).2 hx
      exact ⟨v,hv,hr⟩
    simp only [wpOps,ho]
    rcases hcls with ⟨hw,hc⟩ | ⟨hw,hvj,hst1⟩
    ·rw [if_pos (hwantT (fun x hx=>(hread x hx).1) hw)]
     refine .inl ?_
     have loose:isFixed pf o.op=false→OpStep P o (evalT (T i)) (st s) (val i) (st s)→o.wp P a1 w1 (fun a' w'=>wpOps P ops Q l a' w') Q:=by
      intro hf hstep
      refine float_step hstep z1 z2 (fun x hx=>(hops x hx).2) hAc G1 a1 w1 _ Q (fun x hx=>(hops x hx).1) hR1 (fun c G2 w2 hv hvc hR2 hcs hm=>?_)
      obtain ⟨p1,p2,p3⟩:=hputF G2 w2 c _ hm.tr hm.ptr (Nat.le_refl _) hv hvc
      exact next s G2 w2 _ hs p1 p2 p3 hR2 (hm.evo G w S (by rw [hR.n]; exact hlen0) hE) hcs hsal hlen0 (hloose hf) (hlast' hf)
     rcases hc with ⟨hp,hst1,hf⟩ | ⟨b,hf,hst1,hrun,hsome,_,hback,hfwd⟩ | ⟨hf,hstep,hx⟩
     ·exact loose hf (hp (st s))
     ·exact loose hf ((hrun (st s) (hsb b hback hst1 hfwd)).step)
     ·have hil:i < al:=by
       rcases Nat.lt_or_ge i al with g | g
       ·exact g
       ·exact absurd (hpre' hf hial f0 q0 hq0 hqf0 (by omega)) hf0n
      have hsi:=hsi' hf hial
      have hse:=(hspn hf hial).1 (by omega)
      rw [hse] at hstep
      refine float_step hstep z1 z2 (fun x hx=>(hops x hx).2) hAc G1 a1 w1 _ Q (fun x hx=>(hops x hx).1) hR1 (fun c G2 w2 hv hvc hR2 hcs hm=>?_)
      obtain ⟨p1,p2,p3⟩:=hputF G2 w2 c _ hm.tr hm.ptr hm.len hv hvc
      exact next (i+1) G2 w2 _ hi p1 p2 p3 hR2 (hm.evo G w S (by rw [hR.n]; exact hlen0) hE) hcs (by omega) (Nat.le_trans hlen0 hm.len) (hfxn hf hial) (hl3 hf hial)
    ·rw [if_neg (by rw [hwantF (fun x hx=>(hread x hx).1) hw]; simp)]
     obtain ⟨p1,p2,p3⟩:=hputF G1 w1 undef _ (fun _ _ _ h=>h) (fun _ h=>h) (Nat.le_refl _) (by rw [hvj]; exact vr_undef) (by rw [hvj]; exact .tup (by simp))
     cases hf:isFixed pf o.op with
     | false=>exact next s G1 w1 _ hs p1 p2 p3 hR1 hE hAc hsal hlen0 (hloose hf) (hlast' hf)
     | true =>
      have hil:i < al:=by
       rcases Nat.lt_or_ge i al with g | g
       ·exact g
       ·exact absurd (hpre' hf hial f0 q0 hq0 hqf0 (by omega)) hf0n
      have hsi:=hsi' hf hial
      have hse:st (i+1)=st s:=hst1.trans ((hspn hf hial).1 (by omega))
      rw [←hse] at p3 hR1 hE hAc hlen0
      exact next (i+1) G1 w1 _ hi p1 p2 p3 hR1 hE hAc (by omega) hlen0 (hfxn hf hial) (hl3 hf hial)
   ·have hsl:=hslots hP
    have hread:∀x,(x ∈ slotsOf o∨∃g want,o.guard=some (g,want)∧dstAt ops.toList g=some x)→VR G1 w1 (T i x) (a1.tmps.getD x undef):=by
     intro x hx
     obtain ⟨v,hv,hr⟩:=hsl x
     rw [←hval x v hx hv]
     exact hr
    have hops:∀x ∈ o.op.operands,VR G1 w1 (evalT (T i) x) (a1.eval x):=by
     intro x hx
     cases x with
     | tmp y=>exact hread y (.inl (by unfold slotsOf; exact List.mem_filterMap.2 ⟨_,by simpa using hx,rfl⟩))
     | const v=>exact constV_ok G1 w1 v
     | global g=>exact .junk _
     | func f=>exact .fn (by simp) (by simp)
    have hput:∀(G2:Gh) (w2:World) (c:Value),Ext G1 w1 G2 w2→VR G2 w2 (val i) c →
      (a1.put o.dst c).tmps.size=N∧(a1.put o.dst c).defers=[]∧∀x,∃v,slotsAt ops.toList t val (fun j=>j ∈ i :: dn) x v∧VR G2 w2 v ((a1.put o.dst c).tmps.getD x undef):=by
     intro G2 w2 c hext hc
     refine hslot c (fun x u=>∃v,slotsAt ops.toList t val (fun j=>j ∈ i :: dn) x v∧VR G2 w2 v u) (fun x hx=>?_) (fun d hd'=>⟨val i,hnew d hd',hc⟩)
     obtain ⟨v,hv,hr⟩:=hsl x
     exact ⟨v,hold x v hx hv,hr.ext hext⟩
    have hnp:i≠al→¬Pend pf ops al (i :: dn):=fun hne ⟨h1,f,q,h2,h3,h4,h5⟩=>hP ⟨(hmem' hne).1 h1,f,q,h2,h3,h4,fun h=>h5 (List.mem_cons_of_mem _ h)⟩
    have hfixs:isFixed pf o.op=true→i≠al→A=st i∧¬(al ∈ i :: dn∧i+1≤al):=by
     intro hf hne
     have hsi:=hsi' hf hne
     have hsp:=hspn hf hne
     by_cases c1:s≤al∧al < i
     ·obtain ⟨o',h1,h2,_⟩:=(hcz (by omega)).2.2.2.2
      have hm:=hpre' hf hne al o' h1 h2 c1.2
      exact ⟨by rw [(hA1 hm c1.1).1,hsp.2 c1.1 c1.2],fun h=>by omega⟩
     ·have e1:=hsp.1 c1
      have c2:¬(al ∈ dn∧i < al):=fun h=>hP ⟨h.1,i,o,h.2,ho,hf,hnot⟩
      refine ⟨?_,fun h=>?_⟩
      ·rw [e1]
       exact hA2 (fun h=>by
        rcases Nat.lt_or_ge i al with g | g
        ·exact c2 ⟨h.1,g⟩
        ·rcases Nat.lt_or_ge al i with g' | g'
         ·exact c1 ⟨h.2,g'⟩
         ·exact hne (by omega))
      ·rcases List.mem_cons.1 h.1 with h' | h'
       ·exact hne h'.symm
       ·exact c2 ⟨h',by omega⟩
    simp only [wpOps,ho]
    rcases hcls with ⟨hw,hc⟩ | ⟨hw,hvj,hst1⟩
    ·rw [if_pos (hwantT hread hw)]
     refine .inl ?_
     rcases hc with ⟨hp,hst1,hf⟩ | ⟨b,hf,hst1,hrun,hsome,_,hback,hfwd⟩ | ⟨hf,hstep,hx⟩
     ·refine (hp A) G1 a1 w1 _ Q hops hR1 (fun c G2 w2 hv hR2 hE2=>?_)
      obtain ⟨p1,p2,p3⟩:=hput G2 w2 c hE2.ext hv
      exact ih s G2 _ w2 hs p1 p2 (fun _=>p3) (fun h=>absurd h (hnp (hia hf))) A hR2 (hE.trans hE2) (fun h=>hA1 ((hmem' (hia hf)).1 h)) (fun h=>hA2 (fun h'=>h ⟨(hmem' (hia hf)).2 h'.1,h'.2⟩)) hlen0 hlt' hcl' (hloose hf) (hlast' hf)
     ·have hsbb:=hsb b hback hst1 hfwd
      have hsA:A[b]?=(st i)[b]?:=by
       by_cases hc:al ∈ dn∧s≤al
       ·rw [(hA1 hc.1 hc.2).1,←hsbb]
        have hlt:b < (st s).length:=by
         rcases Nat.lt_or_ge b (st s).length with g | g
         ·exact g
         ·rw [←hsbb,List.getElem?_eq_none g] at hsome; cases hsome
        exact List.getElem?_append_left hlt
       ·rw [hA2 hc]; exact hsbb
      refine (hrun A hsA).step G1 a1 w1 _ Q hops hR1 (fun c G2 w2 hv hR2 hE2=>?_)
      obtain ⟨p1,p2,p3⟩:=hput G2 w2 c hE2.ext hv
      exact ih s G2 _ w2 hs p1 p2 (fun _=>p3) (fun h=>absurd h (hnp (hia hf))) A hR2 (hE.trans hE2) (fun h=>hA1 ((hmem' (hia hf)).1 h)) (fun h=>hA2 (fun h'=>h ⟨(hmem' (hia hf)).2 h'.1,h'.2⟩)) hlen0 hlt' hcl' (hloose hf) (hlast' hf)
     ·by_cases hne:i=al
      ·subst hne
       obtain ⟨z1,z2,z3,z4,o',z5,_,z6,z7⟩:=hcz hi
       rw [ho] at z5; cases z5
       have hsa:s≤i:=by
        rcases Nat.lt_or_ge i s with g | g
        ·exact absurd (hals hi g) hnot
        ·exact g
       have hAs:=hA2 (fun h=>hnot h.1)
       subst hAs
       refine z7 (st s) G1 a1 w1 _ Q hops hR1 (fun c G2 w2 hv hR2 hE2=>?_)
       have hfxa:∀(f:Nat) (q:Oper),ops[f]?=some q→isFixed pf q.op=true→f≠i→(f ∈ i :: dn↔f < s):=fun f q hq hqf hfa=>by rw [hmem' (fun e=>hfa e.symm)]; exact hfix f q hq hqf hfa
       have hlx:s=0∨∃f q,s=f+1∧ops[f]?=some q∧isFixed pf q.op=true∧f≠i∧f ∈ i :: dn:=hlast.imp id fun ⟨f,q,e1,e2,e3,e5,e4⟩=>⟨f,q,e1,e2,e3,e5,List.mem_cons_of_mem _ e4⟩
       by_cases hP2:Pend pf ops i (i :: dn)
       ·obtain ⟨p1,p2,p3⟩:=hslot c (fun x u=>(dstAt ops.toList i=some x→VR G2 w2 (.ptr (st s).length 0) u)∧(dstAt ops.toList i≠some x→∃v,slotsAt ops.toList t val (fun j=>j ∈ i :: dn) x v∧VR G2 w2 v u∧Cl (st s).length v))
         (fun x hx=>⟨fun h=>absurd (show o.dst=some x by obtain ⟨o',ho',hox⟩:=(hdst i x).1 h; rw [ho] at ho'; cases ho'; exact hox) hx,fun h=>by
          obtain ⟨v,hv',hr⟩:=hsl x
          exact ⟨v,hold x v hx hv',hr.ext hE2.ext,by have:=hr.cl; rw [hR1.n] at this; exact this⟩⟩)
         (fun d hd'=>⟨fun _=>hv,fun h=>absurd ((hdst i d).2 ⟨o,ho,hd'⟩) h⟩)
        exact ih s G2 _ w2 hs p1 p2 (fun h=>absurd hP2 h) (fun _=>p3) _ hR2 (hE.trans hE2) (fun _ _=>⟨rfl,hR1.clS⟩) (fun h=>absurd ⟨List.mem_cons_self,hsa⟩ h) hlen0 hlt' hcl' hfxa hlx
       ·have hpl:=hplace s (i :: dn) hi hsa (fun f q g1 g2 g3=>by
         by_cases hm:f ∈ i :: dn
         ·exact hm
         ·exact absurd ⟨List.mem_cons_self,f,q,g1,g2,g3,hm⟩ hP2) hfxa
        obtain ⟨p1,p2,p3⟩:=hput G2 w2 c hE2.ext (by rw [z3,hpl]; exact hv)
        exact ih s G2 _ w2 hs p1 p2 (fun _=>p3) (fun h=>absurd h hP2) _ hR2 (hE.trans hE2) (fun _ _=>⟨rfl,hR1.clS⟩) (fun h=>absurd ⟨List.mem_cons_self,hsa⟩ h) hlen0 hlt' hcl' hfxa hlx
      ·obtain ⟨g1,g2⟩:=hfixs hf hne
       subst g1
       refine hstep G1 a1 w1 _ Q hops hR1 (fun c G2 w2 hv hR2 hE2=>?_)
       obtain ⟨p1,p2,p3⟩:=hput G2 w2 c hE2.ext hv
       exact ih (i+1) G2 _ w2 hi p1 p2 (fun _=>p3) (fun h=>absurd h (hnp hne)) _ hR2 (hE.trans hE2) (fun h1 h2=>absurd ⟨h1,h2⟩ g2) (fun _=>rfl)
        (by have h1:=(hE.trans hE2).ext.n; rw [hR.n,hR2.n] at h1; exact h1) hlt' hcl' (hfxn hf hne) (hl3 hf hne)
    ·rw [if_neg (by rw [hwantF hread hw]; simp)]
     obtain ⟨p1,p2,p3⟩:=hput G1 w1 undef (Ext.refl _ _) (by rw [hvj]; exact vr_undef)
     cases hf:isFixed pf o.op with
     | false=>exact ih s G1 _ w1 hs p1 p2 (fun _=>p3) (fun h=>absurd h (hnp (hia hf))) A hR1 hE (fun h=>hA1 ((hmem' (hia hf)).1 h)) (fun h=>hA2 (fun h'=>h ⟨(hmem' (hia hf)).2 h'.1,h'.2⟩)) hlen0 hlt' hcl' (hloose hf) (hlast' hf)
     | true =>
      have hne:i≠al:=by
       intro e
       subst e
       obtain ⟨_,_,_,_,o',z5,_,z6,_⟩:=hcz hi
       rw [ho] at z5; cases z5
       rcases hw with ⟨_,h5⟩ | ⟨g,want,d,h5,_⟩
       ·cases h5
       ·rw [z6] at h5; cases h5
      obtain ⟨g1,g2⟩:=hfixs hf hne
      refine ih (i+1) G1 _ w1 hi p1 p2 (fun _=>p3) (fun h=>absurd h (hnp hne)) A hR1 hE (fun h1 h2=>absurd ⟨h1,h2⟩ g2) (fun _=>by rw [hst1]; exact g1)
       (by have h1:=hE.ext.n; rw [hR.n,hR1.n,g1,←hst1] at h1; exact h1) hlt' hcl' (hfxn hf hne) (hl3 hf hne)
 have hnp0:¬Pend pf ops al []:=fun h=>by cases h.1
 refine main [] l hl 0 G a w (Nat.zero_le _) ha.size ha.defers (fun _ x=>⟨t x,?_,ha.rel x⟩) (fun h=>absurd h hnp0) S hR (Evol.refl _ _ _) (fun h=>by simp at h) (fun _=>hs0.symm) (by rw [hs0]; exact Nat.le_refl _) (by simp) (by simp) (fun f o _ _ _=>by simp) (.inl rfl)
 unfold slotsAt
 split
 ·exact ⟨fun h=>by simp at h,fun _=>rfl⟩
 ·rfl
end
end
end Go.Proofs.Ytldogccmhncnoaa
