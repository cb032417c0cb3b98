/- A part of the proof: contracts of functions, or plain facts on which these lean. -/
import Derived.Test.YtldogccmhncnoaaMp6
namespace Go.Proofs.Ytldogccmhncnoaa
open Go
set_option linter.unusedVariables false
set_option linter.unusedSimpArgs false
set_option maxRecDepth 100000
set_option maxHeartbeats 16000000

section
open Go
inductive Cl (n:Nat):V→Prop where
 | int (k:IntKind) (m:Int):Cl n (.int k m)
 | bool (b:Bool):Cl n (.bool b)
 | str (s:List UInt8):Cl n (.str s)
 | agg {cs:List V}:(∀v ∈ cs,Cl n v)→Cl n (.agg cs)
 | tup {cs:List V}:(∀v ∈ cs,Cl n v)→Cl n (.tup cs)
 | nils:Cl n .nils
 | rows {tok:Option Nat} {xs:List V}:(∀τ,tok=some τ→τ < n)→(∀v ∈ xs.flatMap V.cells,Cl n v)→Cl n (.rows tok xs)
 | heap {b l:Nat}:b < n→Cl n (.heap b l)
 | ptr {b o:Nat}:b < n→Cl n (.ptr b o)
 | eptr {x:V} {o:Nat}:(∀v ∈ x.cells,Cl n v)→Cl n (.eptr x o)
 | nilp:Cl n .nilp
 | fn {f:FuncId} {cap:List V}:(∀v ∈ cap,Cl n v)→Cl n (.fn f cap)
 | junk:Cl n .junk
theorem Cl.cells {n:Nat} {v:V} (h:Cl n v):∀u ∈ v.cells,Cl n u:=by
 intro u hu
 cases h with
 | agg hc=>exact hc u hu
 | _=>simp only [V.cells,List.mem_singleton] at hu; subst hu; constructor <;> assumption
theorem Cl.rows' {n:Nat} {xs:List V} (h:∀x ∈ xs,Cl n x):Cl n (.rows none xs):=by
 refine .rows (fun τ hτ=>by cases hτ) (fun v hv=>?_)
 obtain ⟨x,hx,hvx⟩:=List.mem_flatMap.1 hv
 exact (h x hx).cells v hvx
theorem VR.cl {G:Gh} {w:World} {v:V} {c:Value} (h:VR G w v c):Cl G.n v:=by
 induction h with
 | int k n=>exact .int k n
 | bool b=>exact .bool b
 | str s=>exact .str s
 | agg hl _ ho ih =>
  refine .agg (fun v hv=>?_)
  obtain ⟨i,hi,rfl⟩:=List.getElem_of_mem hv
  exact ih i _ _ (List.getElem?_eq_getElem hi) (Array.getElem?_eq_getElem (by omega))
 | tup hl _ ih =>
  refine .tup (fun v hv=>?_)
  obtain ⟨i,hi,rfl⟩:=List.getElem_of_mem hv
  exact ih i _ _ (List.getElem?_eq_getElem hi) (Array.getElem?_eq_getElem (by omega))
 | nils=>exact .nils
 | rowsNil ht=>exact .rows ht (by simp)
 | rowsE=>exact .rows (fun τ hτ=>by cases hτ) (by simp)
 | rows vs hl _ ho hh hp hc ht ih =>
  refine .rows (fun τ hτ=>(ht τ hτ).1) (fun v hv=>?_)
  obtain ⟨i,hi,rfl⟩:=List.getElem_of_mem hv
  exact ih i _ _ (List.getElem?_eq_getElem hi) (List.getElem?_eq_getElem (by omega))
 | heapNil hb=>exact .heap hb
 | heap hb hk hc hl=>exact .heap hb
 | ptr hb hk=>exact .ptr hb
 | eptr vs hl _ ho hh hp ih =>
  refine .eptr (fun v hv=>?_)
  obtain ⟨i,hi,rfl⟩:=List.getElem_of_mem hv
  exact ih i _ _ (List.getElem?_eq_getElem hi) (List.getElem?_eq_getElem (by omega))
 | nilp=>exact .nilp
 | fn hl _ ih =>
  refine .fn (fun v hv=>?_)
  obtain ⟨i,hi,rfl⟩:=List.getElem_of_mem hv
  exact ih i _ _ (List.getElem?_eq_getElem hi) (Array.getElem?_eq_getElem (by omega))
 | junk u=>exact .junk
theorem VR.cut {G G':Gh} {w:World} {v:V} {c:Value} (h:VR G w v c) (hs:∀j,j < G'.n→G'.ok j=G.ok j∧G'.blk j=G.blk j∧G'.fin j=G.fin j∧G'.lim j=G.lim j∧G'.sz j=G.sz j) (hp:G'.p=G.p) (hc:Cl G'.n v):VR G' w v c:=by
 induction h with
 | int k n=>exact .int k n
 | bool b=>exact .bool b
 | str s=>exact .str s
 | agg hl _ ho ih =>
  cases hc with
  | agg hcs=>exact .agg hl (fun i v u hv hu=>ih i v u hv hu (hcs v (List.mem_of_getElem? hv))) ho
 | tup hl _ ih =>
  cases hc with
  | tup hcs=>exact .tup hl (fun i v u hv hu=>ih i v u hv hu (hcs v (List.mem_of_getElem? hv)))
 | nils=>exact .nils
 | rowsNil ht =>
  cases hc with
  | rows ht' _=>exact .rowsNil ht'
 | rowsE=>exact .rowsE
 | rows vs hl _ ho hh hpp hcap ht ih =>
  cases hc with
  | rows ht' hcs =>
   refine .rows vs hl (fun i v u hv hu=>ih i v u hv hu (hcs v (List.mem_of_getElem? hv))) ho hh (by rw [hp]; exact hpp) hcap (fun τ hτ=>?_)
   obtain ⟨h1,h2,h3,h4,h5,h6⟩:=ht τ hτ
   obtain ⟨a1,a2,a3,a4,a5⟩:=hs τ (ht' τ hτ)
   exact ⟨ht' τ hτ,a1.trans h2,a2.trans h3,by rw [a3]; exact h4,by rw [a5]; exact h5,by rw [a5,a4]; exact h6⟩
 | heapNil hb =>
  cases hc with
  | heap hb'=>exact .heapNil hb'
 | heap hb hk hcap hl =>
  cases hc with
  | heap hb' =>
   obtain ⟨a1,a2,a3,a4,a5⟩:=hs _ hb'
   rw [←a2]
   exact .heap hb' (a1.trans hk) hcap (by rw [a5,a4]; exact hl)
 | ptr hb hk =>
  cases hc with
  | ptr hb' =>
   obtain ⟨a1,a2,a3,a4,a5⟩:=hs _ hb'
   rw [←a2]
   exact .ptr hb' (a1.trans hk)
 | eptr vs hl _ ho hh hpp ih =>
  cases hc with
  | eptr hcs=>exact .eptr vs hl (fun i v u hv hu=>ih i v u hv hu (hcs v (List.mem_of_getElem? hv))) ho hh (by rw [hp]; exact hpp)
 | nilp=>exact .nilp
 | fn hl _ ih =>
  cases hc with
  | fn hcs=>exact .fn hl (fun i v u hv hu=>ih i v u hv hu (hcs v (List.mem_of_getElem? hv)))
 | junk u=>exact .junk u
def Wk (S0:List Blk) (r:V) (S:List Blk) (r':V) (S':List Blk):Prop :=
 ∀(G0:Gh) (w0:World) (G:Gh) (w:World) (c:Value),Rel G0 w0 S0→Evol G0 w0 S0 G w S→VR G w r c→Rel G w S→∃G',VR G' w r' c∧Rel G' w S'∧Evol G0 w0 S0 G' w S'
theorem Wk.refl (S0:List Blk) (r:V) (S:List Blk):Wk S0 r S r S:=fun _ _ G _ _ _ hE hv hR=>⟨G,hv,hR,hE⟩
theorem Wk.trans {S0 S1 S2 S3:List Blk} {r1 r2 r3:V} (h:Wk S0 r1 S1 r2 S2) (k:Wk S0 r2 S2 r3 S3):Wk S0 r1 S1 r3 S3:=by
 intro G0 w0 G w c h0 hE hv hR
 obtain ⟨G',h1,h2,h3⟩:=h G0 w0 G w c h0 hE hv hR
 exact k G0 w0 G' w c h0 h3 h1 h2
theorem Wk.cut {S0 S:List Blk} {r:V} {n:Nat} (h0:S0.length≤n) (hn:n≤S.length) (hr:Cl n r)
  (hS:∀j sz cs,j < n→S[j]?=some (.cells sz cs)→S0[j]?=some (.cells sz cs)∨∀v ∈ cs,Cl n v):Wk S0 r S r (S.take n):=by
 intro G0 w0 G w c hR0 hE hv hR
 have hs:∀j,j < (G.cut n).n→(G.cut n).ok j=G.ok j∧(G.cut n).blk j=G.blk j∧(G.cut n).fin j=G.fin j∧(G.cut n).lim j=G.lim j∧(G.cut n).sz j=G.sz j:=fun j _=>⟨rfl,rfl,rfl,rfl,rfl⟩
 have hGn:(G.cut n).n=n:=rfl
 have hget:∀(j:Nat) (B:Blk),(S.take n)[j]?=some B→j < n∧S[j]?=some B:=by
  intro j B hj
  rw [List.getElem?_take] at hj
  split at hj
  ·rename_i g; exact ⟨g,hj⟩
  ·cases hj
 have hG0n:G0.n≤n:=by rw [hR0.n]; exact h0
 have hext:Ext G0 w0 (G.cut n) w:=⟨hG0n,fun j hj=>hE.ext.same j hj,hE.ext.p,hE.ext.cell⟩
 refine ⟨G.cut n,hv.cut hs rfl hr,⟨by simp [Gh.cut]; omega,hR.fresh,?_,?_,?_,?_⟩,⟨hext,hE.size,hE.os,hE.tape,hE.output,hE.other,?_,hE.pk⟩⟩
 ·intro j B hj hl hk
  exact hR.lt j B (hget j B hj).2 hl hk
 ·intro j B hj hl hk
  obtain ⟨hjn,hj'⟩:=hget j B hj
  have hb:=hR.live j B hj' hl hk
  cases B with
  | dead=>trivial
  | right sz=>exact hb
  | cells sz cs =>
   obtain ⟨arr,ty,g1,g2,g3,g4,g5,g6⟩:=hb
   refine ⟨arr,ty,g1,g2,g3,g4,g5,fun i v u hv' hu=>⟨(g6 i v u hv' hu).1.cut hs rfl ?_,(g6 i v u hv' hu).2⟩⟩
   rw [hGn]
   rcases hS j sz cs hjn hj' with h1 | h1
   ·have hk0:G0.ok j=true:=by
     have hj0:j < G0.n:=hR0.get_lt h1
     rw [←(hE.ext.same j hj0).1]; exact hk
    obtain ⟨arr0,ty0,f1,f2,f3,f4,f5,f6⟩:=hR0.live j _ h1 rfl hk0
    have hi:i < cs.length:=by
     rcases Nat.lt_or_ge i cs.length with g | g
     ·exact g
     ·rw [List.getElem?_eq_none g] at hv'; cases hv'
    have hcl:=(f6 i v arr0[i] hv' (Array.getElem?_eq_getElem (by omega))).1.cl
    have mono:∀{a b:Nat} {v:V},a≤b→Cl a v→Cl b v:=by
     intro a b v hab h
     induction h with
     | int k m=>exact .int k m
     | bool b=>exact .bool b
     | str s=>exact .str s
     | agg _ ih=>exact .agg ih
     | tup _ ih=>exact .tup ih
     | nils=>exact .nils
     | rows ht _ ih=>exact .rows (fun τ hτ=>Nat.lt_of_lt_of_le (ht τ hτ) hab) ih
     | heap hb=>exact .heap (Nat.lt_of_lt_of_le hb hab)
     | ptr hb=>exact .ptr (Nat.lt_of_lt_of_le hb hab)
     | eptr _ ih=>exact .eptr ih
     | nilp=>exact .nilp
     | fn _ ih=>exact .fn ih
     | junk=>exact .junk
    exact mono hG0n hcl
   ·exact h1 v (List.mem_of_getElem? hv')
 ·intro j sz cs hj hk
  exact hR.vac j sz cs (hget j _ hj).2 hk
 ·intro i j B C hi hj hlB hlC hki hkj he
  exact hR.inj i j B C (hget i B hi).2 (hget j C hj).2 hlB hlC hki hkj he
 ·rintro b hb ⟨j,B,hj,hl,hk,rfl⟩
  exact hE.own _ hb ⟨j,B,(hget j B hj).2,hl,hk,rfl⟩
theorem Wk.pure {S0 X:List Blk} {r:V} (hr:Cl S0.length r):Wk S0 r (S0++X) r S0:=by
 have h:=Wk.cut (S0:=S0) (S:=S0++X) (r:=r) (n:=S0.length) (Nat.le_refl _) (by simp) hr (fun j sz cs hj h=>.inl (by rwa [List.getElem?_append_left hj] at h))
 rwa [List.take_left] at h
theorem Wk.set {S0 X:List Blk} {r:V} {b sz:Nat} {cs:List V} (hr:Cl S0.length r) (hc:∀v ∈ cs,Cl S0.length v):Wk S0 r (S0.set b (.cells sz cs)++X) r (S0.set b (.cells sz cs)):=by
 have h:=Wk.cut (S0:=S0) (S:=S0.set b (.cells sz cs)++X) (r:=r) (n:=S0.length) (Nat.le_refl _) (by simp) hr (fun j sz' cs' hj h=>by
  rw [List.getElem?_append_left (by simpa using hj),List.getElem?_set] at h
  split at h
  ·split at h
   ·cases h; exact .inr hc
   ·cases h
  ·exact .inl h)
 have e:(S0.set b (.cells sz cs)).length=S0.length:=by simp
 rw [←e,List.take_left] at h
 exact h
theorem RunOk.frozen {P:Program} {o:Oper} {ρ:Operand→V} {S:List Blk} {xs:List V} {sz:Nat} (h:RunOk P o ρ S (.rows (some S.length) xs) (S++[.right sz]))
  (hx:∀(G:Gh) (w:World) (ev:Operand→Value),(∀x ∈ o.op.operands,VR G w (ρ x) (ev x))→∀v ∈ xs.flatMap V.cells,Cl G.n v):RunOk P o ρ S (.rows none xs) S:=by
 intro G ev w hop hR
 obtain ⟨c,w',G',hr,hv,hR',hE⟩:=h G ev w hop hR
 have hv':VR G' w' (.rows none xs) c:=by
  cases hv with
  | rowsNil ht=>exact .rowsNil (fun τ hτ=>by cases hτ)
  | rows vs a1 a2 a3 a4 a5 a6 a7=>exact .rows vs a1 a2 a3 a4 a5 a6 (fun τ hτ=>by cases hτ)
 have hcl:Cl S.length (.rows none xs):=.rows (fun τ hτ=>by cases hτ) (fun v hv=>by rw [←hR.n]; exact hx G w ev hop v hv)
 obtain ⟨G2,h1,h2,h3⟩:=Wk.pure (X:=[.right sz]) hcl G w G' w' c hR hE hv' hR'
 exact ⟨c,w',G2,hr,h1,h2,h3⟩
end
section
open Go
section
variable {P:Program}
theorem Cl.mono {a b:Nat} {v:V} (hab:a≤b) (h:Cl a v):Cl b v:=by
 induction h with
 | int k m=>exact .int k m
 | bool b=>exact .bool b
 | str s=>exact .str s
 | agg _ ih=>exact .agg ih
 | tup _ ih=>exact .tup ih
 | nils=>exact .nils
 | rows ht _ ih=>exact .rows (fun τ hτ=>Nat.lt_of_lt_of_le (ht τ hτ) hab) ih
 | heap hb=>exact .heap (Nat.lt_of_lt_of_le hb hab)
 | ptr hb=>exact .ptr (Nat.lt_of_lt_of_le hb hab)
 | eptr _ ih=>exact .eptr ih
 | nilp=>exact .nilp
 | fn _ ih=>exact .fn ih
 | junk=>exact .junk
def ClS (S:List Blk):Prop:=∀(j sz:Nat) (cs:List V),S[j]?=some (.cells sz cs)→∀v ∈ cs,Cl S.length v
theorem Rel.clS {G:Gh} {w:World} {S:List Blk} (h:Rel G w S):ClS S:=by
 intro j sz cs hj v hv
 cases hk:G.ok j with
 | false=>rw [h.vac j sz cs hj hk] at hv; cases hv
 | true =>
  obtain ⟨arr,ty,f1,f2,f3,f4,f5,f6⟩:=h.live j _ hj rfl hk
  obtain ⟨i,hi,rfl⟩:=List.getElem_of_mem hv
  have:=(f6 i cs[i] arr[i] (List.getElem?_eq_getElem hi) (Array.getElem?_eq_getElem (by omega))).1.cl
  rwa [h.n] at this
theorem Rel.front {G:Gh} {w:World} {S:List Blk} {B:Blk} (h:Rel G w (S++[B])) (hS:ClS S):Rel (G.cut S.length) w S:=by
 have hget:∀(j:Nat) (C:Blk),S[j]?=some C→j < S.length∧(S++[B])[j]?=some C:=by
  intro j C hj
  have hlt:j < S.length:=by
   rcases Nat.lt_or_ge j S.length with g | g
   ·exact g
   ·rw [List.getElem?_eq_none g] at hj; cases hj
  exact ⟨hlt,by rw [List.getElem?_append_left hlt]; exact hj⟩
 refine ⟨rfl,h.fresh,fun j C hj hl hk=>h.lt j C (hget j C hj).2 hl hk,?_,fun j sz cs hj hk=>h.vac j sz cs (hget j _ hj).2 hk,fun i j C D hi hj=>h.inj i j C D (hget i C hi).2 (hget j D hj).2⟩
 intro j C hj hl hk
 have hb:=h.live j C (hget j C hj).2 hl hk
 cases C with
 | dead=>trivial
 | right sz=>exact hb
 | cells sz cs =>
  obtain ⟨arr,ty,f1,f2,f3,f4,f5,f6⟩:=hb
  exact ⟨arr,ty,f1,f2,f3,f4,f5,fun i v u hv hu=>⟨(f6 i v u hv hu).1.cut (fun j hj=>⟨rfl,rfl,rfl,rfl,rfl⟩) rfl (hS j sz cs hj v (List.mem_of_getElem? hv)),(f6 i v u hv hu).2⟩⟩
structure Move (G:Gh) (w:World) (S S':List Blk) (cs:List V) (G':Gh) (w':World):Prop where
 tr:∀u c,Cl S.length u→VR G w u c→VR G' w' u c
 ptr:∀c,VR G w (.ptr S.length 0) c→VR G' w' (.ptr S'.length 0) c
 evo:∀(G0:Gh) (w0:World) (S0:List Blk),G0.n≤S.length→Evol G0 w0 S0 G w (S++[.cells 0 cs])→Evol G0 w0 S0 G' w' (S'++[.cells 0 cs])
 len:S.length≤S'.length
theorem float_step {o:Oper} {ρ:Operand→V} {S S':List Blk} {v:V} (h:OpStep P o ρ S v S') {cs:List V} (hne:cs≠[]) (hcs:∀v ∈ cs,Cl 0 v)
  (hρ:∀x ∈ o.op.operands,Cl S.length (ρ x)) (hS:ClS S) :
  ∀(G:Gh) (a:Act) (w:World) (K:Act→World→Prop) (Q:Exit→Act→World→Prop),(∀x ∈ o.op.operands,VR G w (ρ x) (a.eval x))→Rel G w (S++[.cells 0 cs]) →
   (∀c G' w',VR G' w' v c→Cl S'.length v→Rel G' w' (S'++[.cells 0 cs])→ClS S'→Move G w S S' cs G' w'→K (a.put o.dst c) w')→o.wp P a w K Q:=by
 intro G a w K Q hop hR hK
 have hn:G.n=S.length+1:=by have:=hR.n; simpa using this
 have hlast:(S++[Blk.cells 0 cs])[S.length]?=some (.cells 0 cs):=by simp
 have hok:G.ok S.length=true:=by
  cases hk:G.ok S.length with
  | true=>rfl
  | false=>exact absurd (hR.vac _ 0 cs hlast hk) hne
 have hblt:=hR.lt _ _ hlast rfl hok
 obtain ⟨arr,ty,f1,f2,f3,f4,f5,f6⟩:=hR.live _ _ hlast rfl hok
 have hR0:=hR.front hS
 have hown0:∀b,Owns (G.cut S.length) S b→Owns G (S++[.cells 0 cs]) b:=by
  rintro b ⟨j,C,hj,hl,hk,e⟩
  have hlt:j < S.length:=by
   rcases Nat.lt_or_ge j S.length with g | g
   ·exact g
   ·rw [List.getElem?_eq_none g] at hj; cases hj
  exact ⟨j,C,by rw [List.getElem?_append_left hlt]; exact hj,hl,hk,e⟩
 have hno:¬Owns (G.cut S.length) S (G.blk S.length):=by
  rintro ⟨j,C,hj,hl,hk,e⟩
  have hlt:j < S.length:=by
   rcases Nat.lt_or_ge j S.length with g | g
   ·exact g
   ·rw [List.getElem?_eq_none g] at hj; cases hj
  have:=hR.inj j S.length C _ (by rw [List.getElem?_append_left hlt]; exact hj) hlast hl rfl hk hok e
  omega
 refine h (G.cut S.length) a w K Q (fun x hx=>(hop x hx).cut (fun j hj=>⟨rfl,rfl,rfl,rfl,rfl⟩) rfl (hρ x hx)) hR0 (fun c G' w' hv hR' hE=>?_)
 have hn':G'.n=S'.length:=hR'.n
 have hnS:S.length≤G'.n:=hE.ext.n
 have hheap:=hE.other _ hblt hno
 have hpk:=hE.pk _ hblt hno
 have hp0:G'.p (G.blk S.length)=0:=hpk.trans f2
 obtain ⟨G2,hG2⟩:∃G2,G2=G'.push (G.blk S.length) (G.fin S.length) (G.lim S.length) (G.sz S.length) 0:=⟨_,rfl⟩
 have hp2:∀b,G2.p b=G'.p b:=by
  intro b
  rw [hG2]
  by_cases e:b=G.blk S.length
  ·subst e; simp [Gh.push,hp0]
  ·simp [Gh.push,e]
 have hn2:G2.n=S'.length+1:=by rw [hG2]; simp [Gh.push,hn']
 have hext2:Ext G' w' G2 w':=by
  refine ⟨by rw [hG2]; exact Nat.le_succ _,fun j hj=>by rw [hG2]; exact Gh.push_lt hj _ _ _ _ _,fun b=>by rw [hp2]; exact Nat.le_refl _,fun _ _ _=>rfl⟩
 have hat:G2.ok S'.length=true∧G2.blk S'.length=G.blk S.length∧G2.fin S'.length=G.fin S.length∧G2.lim S'.length=G.lim S.length∧G2.sz S'.length=G.sz S.length:=by
  rw [hG2]
  simp [Gh.push,hn']
 have htr:∀u c,Cl S.length u→VR G w u c→VR G2 w' u c:=fun u c hu hr =>
  ((VR.cut (G':=G.cut S.length) hr (fun j hj=>⟨rfl,rfl,rfl,rfl,rfl⟩) rfl hu).ext hE.ext).ext hext2
 have hget:∀(j:Nat) (C:Blk),(S'++[Blk.cells 0 cs])[j]?=some C→(j < G'.n∧S'[j]?=some C)∨(j=S'.length∧C=.cells 0 cs):=by
  intro j C hj
  rcases Nat.lt_trichotomy j S'.length with g | g | g
  ·rw [List.getElem?_append_left g] at hj
   exact .inl ⟨by omega,hj⟩
  ·rw [g,List.getElem?_append_right (Nat.le_refl _),Nat.sub_self] at hj
   cases hj
   exact .inr ⟨g,rfl⟩
  ·rw [List.getElem?_eq_none (by simp; omega)] at hj; cases hj
 have hlt':∀(j:Nat) (C:Blk),S'[j]?=some C→C.live=true→G2.ok j=true→j < G'.n→G'.ok j=true∧G2.blk j=G'.blk j:=by
  intro j C hj hl hk hjn
  obtain ⟨a1,a2,_⟩:=hext2.same j hjn
  exact ⟨by rw [←a1]; exact hk,a2⟩
 have hno2:¬Owns G' S' (G.blk S.length):=fun ho=>hno (hE.own _ hblt ho)
 have hown2:∀b,b < w.heap.size→Owns G2 (S'++[.cells 0 cs]) b→Owns G (S++[.cells 0 cs]) b:=by
  rintro b hb ⟨j,C,hj,hl,hk,e⟩
  rcases hget j C hj with ⟨g,hj'⟩ | ⟨rfl,rfl⟩
  ·obtain ⟨a1,a2⟩:=hlt' j C hj' hl hk g
   exact hown0 b (hE.own b hb ⟨j,C,hj',hl,a1,by rw [←a2]; exact e⟩)
  ·exact ⟨S.length,_,hlast,rfl,hok,by rw [←e,hat.2.1]⟩
 refine hK c G2 w' (hv.ext hext2) (by rw [←hn']; exact hv.cl) ⟨hn2.trans (by simp),?_,?_,?_,?_,?_⟩ hR'.clS ⟨htr,?_,?_,by omega⟩
 ·intro b hb
  rw [hp2]
  exact hR'.fresh b hb
 ·intro j C hj hl hk
  rcases hget j C hj with ⟨g,hj'⟩ | ⟨rfl,rfl⟩
  ·obtain ⟨a1,a2⟩:=hlt' j C hj' hl hk g
   rw [a2]; exact hR'.lt j C hj' hl a1
  ·rw [hat.2.1]; exact Nat.lt_of_lt_of_le hblt hE.size
 ·intro j C hj hl hk
  rcases hget j C hj with ⟨g,hj'⟩ | ⟨rfl,rfl⟩
  ·obtain ⟨a1,a2⟩:=hlt' j C hj' hl hk g
   exact (hR'.live j C hj' hl a1).keep hext2 g (hp2 _) rfl
  ·obtain ⟨a1,a2,a3,a4,a5⟩:=hat
   exact ⟨arr,ty,by rw [a2,hheap]; exact f1,by rw [a2,hp2]; exact hp0,by rw [a4]; exact f3,f4,by rw [a5]; exact f5,fun i v u hv hu =>
    ⟨htr _ _ ((hcs v (List.mem_of_getElem? hv)).mono (Nat.zero_le _)) (f6 i v u hv hu).1,(f6 i v u hv hu).2⟩⟩
 ·intro j sz cs' hj hk
  rcases hget j _ hj with ⟨g,hj'⟩ | ⟨rfl,e⟩
  ·exact hR'.vac j sz cs' hj' (by rw [←(hext2.same j g).1]; exact hk)
  ·rw [hat.1] at hk; cases hk
 ·intro i j C D hi hj hlC hlD hkC hkD e
  rcases hget i C hi with ⟨gi,hi'⟩ | ⟨rfl,rfl⟩ <;> rcases hget j D hj with ⟨gj,hj'⟩ | ⟨ej,eD⟩
  ·obtain ⟨a1,a2⟩:=hlt' i C hi' hlC hkC gi
   obtain ⟨b1,b2⟩:=hlt' j D hj' hlD hkD gj
   exact hR'.inj i j C D hi' hj' hlC hlD a1 b1 (by rw [←a2,←b2]; exact e)
  ·exfalso
   subst ej
   obtain ⟨a1,a2⟩:=hlt' i C hi' hlC hkC gi
   rw [a2,hat.2.1] at e
   exact hno2 ⟨i,C,hi',hlC,a1,e⟩
  ·exfalso
   obtain ⟨b1,b2⟩:=hlt' j D hj' hlD hkD gj
   rw [b2,hat.2.1] at e
   exact hno2 ⟨j,D,hj',hlD,b1,e.symm⟩
  ·exact ej.symm
 ·intro c hc
  cases hc with
  | ptr hb hk =>
   have:=VR.ptr (G:=G2) (w:=w') (blk:=S'.length) (off:=0) (by omega) hat.1
   rw [hat.2.1] at this
   exact this
 ·intro G0 w0 S0 h0 hE0
  refine ⟨⟨?_,fun j hj=>?_,fun b=>?_,fun b o ho=>?_⟩,Nat.le_trans hE0.size hE.size,hE.os.trans hE0.os,hE.tape.trans hE0.tape,hE.output.trans hE0.output,fun b hb hnb=>?_,fun b hb ho=>?_,fun b hb hnb=>?_⟩
  ·omega
  ·obtain ⟨a1,a2,a3,a4,a5⟩:=hE0.ext.same j hj
   obtain ⟨b1,b2,b3,b4,b5⟩:=hE.ext.same j (show j < S.length by omega)
   obtain ⟨c1,c2,c3,c4,c5⟩:=hext2.same j (by omega)
   exact ⟨c1.trans (b1.trans a1),c2.trans (b2.trans a2),c3.trans (b3.trans a3),c4.trans (b4.trans a4),c5.trans (b5.trans a5)⟩
  ·rw [hp2]; exact Nat.le_trans (hE0.ext.p b) (hE.ext.p b)
  ·rw [hE.ext.cell b o (Nat.lt_of_lt_of_le ho (hE0.ext.p b))]; exact hE0.ext.cell b o ho
  ·have hb':b < w.heap.size:=Nat.lt_of_lt_of_le hb hE0.size
   rw [hE.other b hb' (fun ho=>hnb (hE0.own b hb (hown0 b ho)))]
   exact hE0.other b hb hnb
  ·have hb':b < w.heap.size:=Nat.lt_of_lt_of_le hb hE0.size
   exact hE0.own b hb (hown2 b hb' ho)
  ·have hb':b < w.heap.size:=Nat.lt_of_lt_of_le hb hE0.size
   rw [hp2,hE.pk b hb' (fun ho=>hnb (hE0.own b hb (hown0 b ho)))]
   exact hE0.pk b hb hnb
end
end
end Go.Proofs.Ytldogccmhncnoaa
