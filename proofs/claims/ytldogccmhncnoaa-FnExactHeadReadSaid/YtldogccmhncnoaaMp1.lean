/- A part of the proof: contracts of functions, or plain facts on which these lean. -/
import Derived.Below
import Derived.Great.BuildSlice
import Derived.KernelRfl
import Derived.Laws.AppendOwn
import Derived.Laws.BytesString
import Derived.Laws.OwnMore
import Derived.Laws.Tables
namespace Go.Proofs.Ytldogccmhncnoaa
open Go
set_option linter.unusedVariables false
set_option linter.unusedSimpArgs false
set_option maxRecDepth 100000
set_option maxHeartbeats 16000000

section
open Go
inductive V where
 | int (k:IntKind) (n:Int)
 | bool (b:Bool)
 | str (s:List UInt8)
 | agg (cs:List V)
 | tup (vs:List V)
 | nils
 | rows (tok:Option Nat) (xs:List V)
 | heap (blk len:Nat)
 | ptr (blk off:Nat)
 | eptr (x:V) (off:Nat)
 | nilp
 | fn (f:FuncId) (cap:List V)
 | junk
 deriving Inhabited
def V.cells:V→List V
 | .agg cs=>cs
 | v=>[v]
def V.one:V→Bool
 | .agg _ | .tup _ | .junk=>false
 | _=>true
inductive Blk where
 | cells (sz:Nat) (cs:List V)
 | right (sz:Nat)
 | dead
 deriving Inhabited
def Blk.live:Blk→Bool
 | .dead=>false
 | _=>true
structure Gh where
 n:Nat
 ok:Nat→Bool
 blk:Nat→Nat
 fin:Nat→Nat
 lim:Nat→Nat
 sz:Nat→Nat
 p:Nat→Nat
def Held (w:World) (b off:Nat) (vs:List Value):Prop:=∀i u,vs[i]?=some u→w.cell? ⟨b,off+i,none⟩=some u
def TokOk (G:Gh) (tok:Option Nat) (b off len cap nc:Nat):Prop :=
 ∀τ,tok=some τ→τ < G.n∧G.ok τ=true∧G.blk τ=b∧off+nc=G.fin τ∧nc=len * G.sz τ∧off+cap * G.sz τ≤G.lim τ
inductive VR (G:Gh) (w:World):V→Value→Prop where
 | int (k:IntKind) (n:Int):VR G w (.int k n) (.int k n)
 | bool (b:Bool):VR G w (.bool b) (.bool b)
 | str (s:List UInt8):VR G w (.str s) (.string ⟨⟨s⟩⟩)
 | agg {cs:List V} {c:Array Value}:cs.length=c.size→(∀(i:Nat) (v:V) (u:Value),cs[i]?=some v→c[i]?=some u→VR G w v u) →
   (∀u ∈ c.toList,u.oneCell'=true)→VR G w (.agg cs) (.agg c)
 | tup {cs:List V} {c:Array Value}:cs.length=c.size→(∀(i:Nat) (v:V) (u:Value),cs[i]?=some v→c[i]?=some u→VR G w v u)→VR G w (.tup cs) (.tuple c)
 | nils:VR G w .nils (.slice none 0 0)
 | rowsNil {tok:Option Nat}:(∀τ,tok=some τ→τ < G.n)→VR G w (.rows tok []) (.slice none 0 0)
 | rowsE {a:Addr} {cap:Nat}:VR G w (.rows none []) (.slice (some a) 0 cap)
 | rows {tok:Option Nat} {xs:List V} {b off cap:Nat} (vs:List Value):(xs.flatMap V.cells).length=vs.length →
   (∀(i:Nat) (v:V) (u:Value),(xs.flatMap V.cells)[i]?=some v→vs[i]?=some u→VR G w v u)→(∀u ∈ vs,u.oneCell'=true) →
   Held w b off vs→off+vs.length≤G.p b→xs.length≤cap→TokOk G tok b off xs.length cap vs.length →
   VR G w (.rows tok xs) (.slice (some ⟨b,off,none⟩) xs.length cap)
 | heapNil {blk:Nat}:blk < G.n→VR G w (.heap blk 0) (.slice none 0 0)
 | heap {blk len cap:Nat}:blk < G.n→G.ok blk=true→len≤cap→cap * G.sz blk≤G.lim blk→VR G w (.heap blk len) (.slice (some ⟨G.blk blk,0,none⟩) len cap)
 | ptr {blk off:Nat}:blk < G.n→G.ok blk=true→VR G w (.ptr blk off) (.pointer (some ⟨G.blk blk,off,none⟩))
 | eptr {x:V} {b o off:Nat} (vs:List Value):x.cells.length=vs.length →
   (∀(i:Nat) (v:V) (u:Value),x.cells[i]?=some v→vs[i]?=some u→VR G w v u)→(∀u ∈ vs,u.oneCell'=true) →
   Held w b o vs→o+vs.length≤G.p b→VR G w (.eptr x off) (.pointer (some ⟨b,o+off,none⟩))
 | nilp:VR G w .nilp (.pointer none)
 | fn {f:FuncId} {cap:List V} {c:Array Value}:cap.length=c.size→(∀(i:Nat) (v:V) (u:Value),cap[i]?=some v→c[i]?=some u→VR G w v u)→VR G w (.fn f cap) (.func (.func f) #[] c)
 | junk (u:Value):VR G w .junk u
def AllR (G:Gh) (w:World) (cs:List V) (vs:List Value):Prop :=
 cs.length=vs.length∧∀(i:Nat) (v:V) (u:Value),cs[i]?=some v→vs[i]?=some u→VR G w v u
structure Ext (G:Gh) (w:World) (G':Gh) (w':World):Prop where
 n:G.n≤G'.n
 same:∀j,j < G.n→G'.ok j=G.ok j∧G'.blk j=G.blk j∧G'.fin j=G.fin j∧G'.lim j=G.lim j∧G'.sz j=G.sz j
 p:∀b,G.p b≤G'.p b
 cell:∀b o,o < G.p b→w'.cell? ⟨b,o,none⟩=w.cell? ⟨b,o,none⟩
theorem Ext.refl (G:Gh) (w:World):Ext G w G w:=⟨Nat.le_refl _,fun _ _=>⟨rfl,rfl,rfl,rfl,rfl⟩,fun _=>Nat.le_refl _,fun _ _ _=>rfl⟩
theorem Ext.trans {G G' G'':Gh} {w w' w'':World} (h:Ext G w G' w') (k:Ext G' w' G'' w''):Ext G w G'' w'':=by
 refine ⟨Nat.le_trans h.n k.n,fun j hj=>?_,fun b=>Nat.le_trans (h.p b) (k.p b),fun b o ho=>(k.cell b o (Nat.lt_of_lt_of_le ho (h.p b))).trans (h.cell b o ho)⟩
 obtain ⟨a1,a2,a3,a4,a5⟩:=h.same j hj
 obtain ⟨b1,b2,b3,b4,b5⟩:=k.same j (Nat.lt_of_lt_of_le hj h.n)
 exact ⟨b1.trans a1,b2.trans a2,b3.trans a3,b4.trans a4,b5.trans a5⟩
theorem Held.ext {G G':Gh} {w w':World} (h:Ext G w G' w') {b off:Nat} {vs:List Value} (hh:Held w b off vs) (hp:off+vs.length≤G.p b):Held w' b off vs:=by
 intro i u hi
 have hlt:i < vs.length:=by
  rcases Nat.lt_or_ge i vs.length with g | g
  ·exact g
  ·rw [List.getElem?_eq_none g] at hi; cases hi
 rw [h.cell b (off+i) (by omega)]
 exact hh i u hi
theorem TokOk.ext {G G':Gh} {w w':World} (h:Ext G w G' w') {tok:Option Nat} {b off len cap nc:Nat} (ht:TokOk G tok b off len cap nc):TokOk G' tok b off len cap nc:=by
 intro τ hτ
 obtain ⟨h1,h2,h3,h4,h5,h6⟩:=ht τ hτ
 obtain ⟨a1,a2,a3,a4,a5⟩:=h.same τ h1
 exact ⟨Nat.lt_of_lt_of_le h1 h.n,a1.trans h2,a2.trans h3,by rw [a3]; exact h4,by rw [a5]; exact h5,by rw [a5,a4]; exact h6⟩
theorem VR.ext {G G':Gh} {w w':World} (h:Ext G w G' w') {v:V} {c:Value} (hv:VR G w v c):VR G' w' v c:=by
 induction hv with
 | int k n=>exact .int k n
 | bool b=>exact .bool b
 | str s=>exact .str s
 | agg hl _ ho ih=>exact .agg hl ih ho
 | tup hl _ ih=>exact .tup hl ih
 | nils=>exact .nils
 | rowsNil ht=>exact .rowsNil (fun τ hτ=>Nat.lt_of_lt_of_le (ht τ hτ) h.n)
 | rowsE=>exact .rowsE
 | rows vs hl _ ho hh hp hc ht ih=>exact .rows vs hl ih ho (hh.ext h hp) (Nat.le_trans hp (h.p _)) hc (ht.ext h)
 | heapNil hb=>exact .heapNil (Nat.lt_of_lt_of_le hb h.n)
 | heap hb hk hc hl =>
  obtain ⟨a1,a2,a3,a4,a5⟩:=h.same _ hb
  rw [←a2]
  exact .heap (Nat.lt_of_lt_of_le hb h.n) (a1.trans hk) hc (by rw [a5,a4]; exact hl)
 | ptr hb hk =>
  obtain ⟨a1,a2,a3,a4,a5⟩:=h.same _ hb
  rw [←a2]
  exact .ptr (Nat.lt_of_lt_of_le hb h.n) (a1.trans hk)
 | eptr vs hl _ ho hh hp ih=>exact .eptr vs hl ih ho (hh.ext h hp) (Nat.le_trans hp (h.p _))
 | nilp=>exact .nilp
 | fn hl _ ih=>exact .fn hl ih
 | junk u=>exact .junk u
theorem AllR.ext {G G':Gh} {w w':World} (h:Ext G w G' w') {cs:List V} {vs:List Value} (hv:AllR G w cs vs):AllR G' w' cs vs :=
 ⟨hv.1,fun i v u a b=>(hv.2 i v u a b).ext h⟩
structure SzOk (n sz:Nat) (tf:TypeId × (Nat × Nat)) (m:Nat):Prop where
 eq:n=sz % 1000000
 ty:1000000≤sz→tf.1+1=sz / 1000000
 z:sz < 1000000→tf.2=(0,0)
 fr:∀k,k < m→¬(tf.2.1≤k∧k < tf.2.2)
theorem SzOk.small {sz:Nat} (h:sz < 1000000) (ty:TypeId) (m:Nat):SzOk sz sz (ty,(0,0)) m:=⟨(Nat.mod_eq_of_lt h).symm,fun g=>by omega,fun _=>rfl,fun k _ h=>by simp at h⟩
def mkT (n sz ty:Nat) (b:Bool):Prop:=n=(if b then 1000000 * (ty+1)+sz else sz)
theorem SzOk.of {n sz ty:Nat} {b:Bool} (hs:sz < 1000000) (h:mkT n sz ty b) (m:Nat):SzOk sz n (ty,(0,0)) m:=by
 unfold mkT at h
 cases b <;> simp at h <;> subst h
 ·exact .small hs ty m
 ·exact ⟨by omega,fun _=>by show ty+1=_; omega,fun g=>by omega,fun k _ h=>by simp at h⟩
def BlkOk (G:Gh) (w:World) (j:Nat):Blk→Prop
 | .cells sz cs=>∃arr ty,w.heap[G.blk j]?=some (.cells arr ty.1 ty.2)∧G.p (G.blk j)=0∧G.lim j≤arr.size ∧
   cs.length≤arr.size∧SzOk (G.sz j) sz ty arr.size∧(∀(i:Nat) (v:V) (u:Value),cs[i]?=some v→arr[i]?=some u→VR G w v u∧u.oneCell'=true)
 | .right sz=>∃arr ty,w.heap[G.blk j]?=some (.cells arr ty (0,0))∧G.p (G.blk j)=G.fin j∧G.lim j≤arr.size∧G.sz j=sz
 | .dead=>True
structure Rel (G:Gh) (w:World) (S:List Blk):Prop where
 n:G.n=S.length
 fresh:∀b,w.heap.size≤b→G.p b=0
 lt:∀j B,S[j]?=some B→B.live=true→G.ok j=true→G.blk j < w.heap.size
 live:∀j B,S[j]?=some B→B.live=true→G.ok j=true→BlkOk G w j B
 vac:∀j sz cs,S[j]?=some (.cells sz cs)→G.ok j=false→cs=[]
 inj:∀i j B C,S[i]?=some B→S[j]?=some C→B.live=true→C.live=true→G.ok i=true→G.ok j=true→G.blk i=G.blk j→i=j
def Owns (G:Gh) (S:List Blk) (b:Nat):Prop:=∃j B,S[j]?=some B∧B.live=true∧G.ok j=true∧G.blk j=b
structure Evol (G:Gh) (w:World) (S:List Blk) (G':Gh) (w':World) (S':List Blk):Prop where
 ext:Ext G w G' w'
 size:w.heap.size≤w'.heap.size
 os:w'.os=w.os
 tape:w'.tape=w.tape
 output:w'.output=w.output
 other:∀b,b < w.heap.size→¬Owns G S b→w'.heap[b]?=w.heap[b]?
 own:∀b,b < w.heap.size→Owns G' S' b→Owns G S b
 pk:∀b,b < w.heap.size→¬Owns G S b→G'.p b=G.p b
theorem Evol.refl (G:Gh) (w:World) (S:List Blk):Evol G w S G w S:=⟨Ext.refl _ _,Nat.le_refl _,rfl,rfl,rfl,fun _ _ _=>rfl,fun _ _ h=>h,fun _ _ _=>rfl⟩
theorem Evol.trans {G G' G'':Gh} {w w' w'':World} {S S' S'':List Blk} (h:Evol G w S G' w' S') (k:Evol G' w' S' G'' w'' S''):Evol G w S G'' w'' S'':=by
 refine ⟨h.ext.trans k.ext,Nat.le_trans h.size k.size,k.os.trans h.os,k.tape.trans h.tape,k.output.trans h.output,fun b hb hn=>?_,fun b hb ho=>?_,fun b hb hn=>?_⟩
 ·rw [k.other b (Nat.lt_of_lt_of_le hb h.size) (fun ho=>hn (h.own b hb ho)),h.other b hb hn]
 ·exact h.own b hb (k.own b (Nat.lt_of_lt_of_le hb h.size) ho)
 ·rw [k.pk b (Nat.lt_of_lt_of_le hb h.size) (fun ho=>hn (h.own b hb ho)),h.pk b hb hn]
end
section
open Go
theorem cell_blk {w:World} {b:Nat} {arr:Array Value} {ty:TypeId} {fr:Nat × Nat} (h:w.heap[b]?=some (.cells arr ty fr)) (o:Nat):w.cell? ⟨b,o,none⟩=arr[o]?:=by
 simp [World.cell?,h]
theorem cell_same {w w':World} {b:Nat} (h:w'.heap[b]?=w.heap[b]?) (o:Nat):w'.cell? ⟨b,o,none⟩=w.cell? ⟨b,o,none⟩:=by
 simp [World.cell?,h]
structure But (w w':World) (b:Nat):Prop where
 size:w'.heap.size=w.heap.size
 os:w'.os=w.os
 tape:w'.tape=w.tape
 output:w'.output=w.output
 other:∀k,k≠b→w'.heap[k]?=w.heap[k]?
def Gh.push (G:Gh) (b fin lim sz:Nat) (p:Nat):Gh :=
 { n:=G.n+1,ok:=fun j=>if j=G.n then true else G.ok j,blk:=fun j=>if j=G.n then b else G.blk j,fin:=fun j=>if j=G.n then fin else G.fin j,lim:=fun j=>if j=G.n then lim else G.lim j,sz:=fun j=>if j=G.n then sz else G.sz j,p:=fun k=>if k=b then p else G.p k }
def Gh.pushNil (G:Gh) (sz:Nat):Gh :=
 { n:=G.n+1,ok:=fun j=>if j=G.n then false else G.ok j,blk:=G.blk,fin:=G.fin,lim:=fun j=>if j=G.n then 0 else G.lim j,sz:=fun j=>if j=G.n then sz else G.sz j,p:=G.p }
section
variable {G:Gh} {w w':World} {S:List Blk}
theorem Gh.push_lt {j:Nat} (h:j < G.n) (b fin lim sz p:Nat):(G.push b fin lim sz p).ok j=G.ok j∧(G.push b fin lim sz p).blk j=G.blk j∧(G.push b fin lim sz p).fin j=G.fin j ∧
  (G.push b fin lim sz p).lim j=G.lim j∧(G.push b fin lim sz p).sz j=G.sz j:=by
 have hne:j≠G.n:=by omega
 simp [Gh.push,hne]
theorem Rel.get_lt (h:Rel G w S) {j:Nat} {B:Blk} (hj:S[j]?=some B):j < G.n:=by
 rw [h.n]
 rcases Nat.lt_or_ge j S.length with g | g
 ·exact g
 ·rw [List.getElem?_eq_none g] at hj; cases hj
theorem BlkOk.keep {G':Gh} {j:Nat} {B:Blk} (he:Ext G w G' w') (hj:j < G.n) (hp:G'.p (G.blk j)=G.p (G.blk j)) (hw:w'.heap[G.blk j]?=w.heap[G.blk j]?) (h:BlkOk G w j B):BlkOk G' w' j B:=by
 obtain ⟨a1,a2,a3,a4,a5⟩:=he.same j hj
 cases B with
 | cells sz cs =>
  obtain ⟨arr,ty,h1,h2,h3,h4,h5,h6⟩:=h
  exact ⟨arr,ty,by rw [a2,hw]; exact h1,by rw [a2,hp]; exact h2,by rw [a4]; exact h3,h4,by rw [a5]; exact h5,fun i v u hv hu=>⟨((h6 i v u hv hu).1).ext he,(h6 i v u hv hu).2⟩⟩
 | right sz =>
  obtain ⟨arr,ty,h1,h2,h3,h4⟩:=h
  exact ⟨arr,ty,by rw [a2,hw]; exact h1,by rw [a2,a3,hp]; exact h2,by rw [a4]; exact h3,by rw [a5]; exact h4⟩
 | dead=>trivial
theorem Rel.pushNew (h:Rel G w S) (hs:w'.heap.size=w.heap.size+1) (ho:∀k,k < w.heap.size→w'.heap[k]?=w.heap[k]?) (hos:w'.os=w.os) (ht:w'.tape=w.tape) (hout:w'.output=w.output)
  (fin lim sz p:Nat) (B:Blk) (hB:Ext G w (G.push w.heap.size fin lim sz p) w'→BlkOk (G.push w.heap.size fin lim sz p) w' G.n B) :
  Rel (G.push w.heap.size fin lim sz p) w' (S++[B])∧Evol G w S (G.push w.heap.size fin lim sz p) w' (S++[B]):=by
 have hext:Ext G w (G.push w.heap.size fin lim sz p) w':=by
  refine ⟨Nat.le_succ _,fun j hj=>Gh.push_lt hj _ _ _ _ _,fun b=>?_,fun b o hb=>?_⟩
  ·by_cases hb:b=w.heap.size
   ·simp [Gh.push,hb,h.fresh w.heap.size (Nat.le_refl _)]
   ·simp [Gh.push,hb]
  ·have hlt:b < w.heap.size:=by
    rcases Nat.lt_or_ge b w.heap.size with g | g
    ·exact g
    ·rw [h.fresh b g] at hb; omega
   exact cell_same (ho b hlt) o
 have hget:∀j C,(S++[B])[j]?=some C→(j < G.n∧S[j]?=some C)∨(j=G.n∧C=B):=by
  intro j C hj
  rcases Nat.lt_trichotomy j S.length with g | g | g
  ·rw [List.getElem?_append_left g] at hj
   exact .inl ⟨by rw [h.n]; exact g,hj⟩
  ·subst g
   simp at hj
   exact .inr ⟨h.n.symm,hj.symm⟩
  ·rw [List.getElem?_eq_none (by simp; omega)] at hj; cases hj
 refine ⟨⟨by simp [Gh.push,h.n],fun b hb=>?_,?_,?_,?_,?_⟩,⟨hext,by omega,hos,ht,hout,fun b hb _=>ho b hb,?_,fun b hb _=>by simp [Gh.push,show b≠w.heap.size by omega]⟩⟩
 ·have:b≠w.heap.size:=by omega
  simp only [Gh.push,this,if_false]
  exact h.fresh b (by omega)
 ·intro j C hj hl hk
  rcases hget j C hj with ⟨g,hj'⟩ | ⟨g,rfl⟩
  ·obtain ⟨a1,a2,_⟩:=hext.same j g
   rw [a2]
   have:=h.lt j C hj' hl (by rw [←a1]; exact hk)
   omega
  ·subst g; simp [Gh.push]; omega
 ·intro j C hj hl hk
  rcases hget j C hj with ⟨g,hj'⟩ | ⟨g,rfl⟩
  ·obtain ⟨a1,a2,_⟩:=hext.same j g
   have hk':G.ok j=true:=by rw [←a1]; exact hk
   have hlt:=h.lt j C hj' hl hk'
   exact (h.live j C hj' hl hk').keep hext g (by have:G.blk j≠w.heap.size:=(by omega); simp [Gh.push,this]) (ho _ hlt)
  ·subst g; exact hB hext
 ·intro j sz' cs hj hk
  rcases hget j _ hj with ⟨g,hj'⟩ | ⟨g,hc⟩
  ·exact h.vac j sz' cs hj' (by rw [←(hext.same j g).1]; exact hk)
  ·subst g; simp [Gh.push] at hk
 ·intro i j C D hi hj hlC hlD hki hkj he
  rcases hget i C hi with ⟨gi,hi'⟩ | ⟨gi,rfl⟩ <;> rcases hget j D hj with ⟨gj,hj'⟩ | ⟨gj,hD⟩
  ·obtain ⟨a1,a2,_⟩:=hext.same i gi
   obtain ⟨b1,b2,_⟩:=hext.same j gj
   exact h.inj i j C D hi' hj' hlC hlD (by rw [←a1]; exact hki) (by rw [←b1]; exact hkj) (by rw [←a2,←b2]; exact he)
  ·obtain ⟨a1,a2,_⟩:=hext.same i gi
   have:=h.lt i C hi' hlC (by rw [←a1]; exact hki)
   rw [a2] at he
   subst gj
   simp [Gh.push] at he
   omega
  ·obtain ⟨b1,b2,_⟩:=hext.same j gj
   have:=h.lt j D hj' hlD (by rw [←b1]; exact hkj)
   rw [b2] at he
   subst gi
   simp [Gh.push] at he
   omega
  ·omega
 ·rintro b hb ⟨j,C,hj,hl,hk,rfl⟩
  rcases hget j C hj with ⟨g,hj'⟩ | ⟨g,rfl⟩
  ·obtain ⟨a1,a2,_⟩:=hext.same j g
   exact ⟨j,C,hj',hl,by rw [←a1]; exact hk,by rw [a2]⟩
  ·subst g; simp [Gh.push] at hb
theorem Rel.kill (h:Rel G w S) (τ:Nat):Rel G w (S.set τ .dead)∧Evol G w S G w (S.set τ .dead):=by
 have hget:∀(j:Nat) (C:Blk),(S.set τ .dead)[j]?=some C→C.live=true→S[j]?=some C∧j≠τ:=by
  intro j C hj hl
  rw [List.getElem?_set] at hj
  by_cases e:τ=j
  ·rw [if_pos e] at hj
   split at hj
   ·cases hj; cases hl
   ·cases hj
  ·rw [if_neg e] at hj; exact ⟨hj,fun g=>e g.symm⟩
 refine ⟨⟨by simp [h.n],h.fresh,fun j C hj hl=>h.lt j C (hget j C hj hl).1 hl,fun j C hj hl=>h.live j C (hget j C hj hl).1 hl,fun j sz cs hj=>?_,?_⟩,
  ⟨Ext.refl _ _,Nat.le_refl _,rfl,rfl,rfl,fun _ _ _=>rfl,?_,fun _ _ _=>rfl⟩⟩
 ·exact h.vac j sz cs (hget j _ hj rfl).1
 ·intro i j C D hi hj hlC hlD
  exact h.inj i j C D (hget i C hi hlC).1 (hget j D hj hlD).1 hlC hlD
 ·rintro b _ ⟨j,C,hj,hl,hk,he⟩
  exact ⟨j,C,(hget j C hj hl).1,hl,hk,he⟩
theorem Rel.touch (h:Rel G w S) {j:Nat} {B B':Blk} (hj:S[j]?=some B) (hl:B.live=true) (hk:G.ok j=true) (hb:But w w' (G.blk j)) (hp:G.p (G.blk j)=0) (hl':B'.live=true)
  (hB:Ext G w G w'→BlkOk G w' j B'):Rel G w' (S.set j B')∧Evol G w S G w' (S.set j B'):=by
 have hext:Ext G w G w':=⟨Nat.le_refl _,fun _ _=>⟨rfl,rfl,rfl,rfl,rfl⟩,fun _=>Nat.le_refl _,fun b o ho=>by
  by_cases e:b=G.blk j
  ·subst e; omega
  ·exact cell_same (hb.other b e) o⟩
 have hlt:j < S.length:=by rw [←h.n]; exact h.get_lt hj
 have hget:∀(i:Nat) (C:Blk),(S.set j B')[i]?=some C→(i=j∧C=B')∨(i≠j∧S[i]?=some C):=by
  intro i C hi
  rw [List.getElem?_set] at hi
  by_cases e:j=i
  ·rw [if_pos e] at hi
   rw [if_pos hlt] at hi
   cases hi; exact .inl ⟨e.symm,rfl⟩
  ·rw [if_neg e] at hi; exact .inr ⟨fun g=>e g.symm,hi⟩
 refine ⟨⟨by simp [h.n],fun b hb'=>h.fresh b (by rw [←hb.size]; exact hb'),?_,?_,?_,?_⟩,⟨hext,by rw [hb.size]; exact Nat.le_refl _,hb.os,hb.tape,hb.output,?_,?_,fun _ _ _=>rfl⟩⟩
 ·intro i C hi hlC hkC
  rw [hb.size]
  rcases hget i C hi with ⟨rfl,rfl⟩ | ⟨_,hi'⟩
  ·exact h.lt i B hj hl hk
  ·exact h.lt i C hi' hlC hkC
 ·intro i C hi hlC hkC
  rcases hget i C hi with ⟨rfl,rfl⟩ | ⟨hne,hi'⟩
  ·exact hB hext
  ·exact (h.live i C hi' hlC hkC).keep hext (h.get_lt hi') rfl (hb.other _ (fun e=>hne (h.inj i j C B hi' hj hlC hl hkC hk e)))
 ·intro i sz cs hi hkC
  rcases hget i _ hi with ⟨rfl,_⟩ | ⟨_,hi'⟩
  ·rw [hk] at hkC; cases hkC
  ·exact h.vac i sz cs hi' hkC
 ·intro i k C D hi hk' hlC hlD hkC hkD e
  rcases hget i C hi with ⟨rfl,rfl⟩ | ⟨_,hi'⟩ <;> rcases hget k D hk' with ⟨rfl,rfl⟩ | ⟨_,hk''⟩
  ·rfl
  ·exact h.inj i k B D hj hk'' hl hlD hk hkD e
  ·exact h.inj i k C B hi' hj hlC hl hkC hk e
  ·exact h.inj i k C D hi' hk'' hlC hlD hkC hkD e
 ·intro b _ hno
  exact hb.other b (fun e=>hno ⟨j,B,hj,hl,hk,e.symm⟩)
 ·rintro b _ ⟨i,C,hi,hlC,hkC,e⟩
  rcases hget i C hi with ⟨rfl,rfl⟩ | ⟨_,hi'⟩
  ·exact ⟨i,B,hj,hl,hk,e⟩
  ·exact ⟨i,C,hi',hlC,hkC,e⟩
theorem Rel.move (h:Rel G w S) {j:Nat} {B B':Blk} (hj:S[j]?=some B) (hl:B.live=true) (hk:G.ok j=true) (hb:But w w' (G.blk j))
  (fin lim sz p:Nat) (hp:G.p (G.blk j)≤p) (hc:∀o,o < G.p (G.blk j)→w'.cell? ⟨G.blk j,o,none⟩=w.cell? ⟨G.blk j,o,none⟩) (hl':B'.live=true)
  (hB:Ext G w (G.push (G.blk j) fin lim sz p) w'→BlkOk (G.push (G.blk j) fin lim sz p) w' G.n B') :
  Rel (G.push (G.blk j) fin lim sz p) w' (S.set j .dead++[B'])∧Evol G w S (G.push (G.blk j) fin lim sz p) w' (S.set j .dead++[B']):=by
 have hblt:=h.lt j B hj hl hk
 have hext:Ext G w (G.push (G.blk j) fin lim sz p) w':=by
  refine ⟨Nat.le_succ _,fun i hi=>Gh.push_lt hi _ _ _ _ _,fun b=>?_,fun b o ho=>?_⟩
  ·by_cases e:b=G.blk j
   ·subst e; simp [Gh.push,hp]
   ·simp [Gh.push,e]
  ·by_cases e:b=G.blk j
   ·subst e; exact hc o ho
   ·exact cell_same (hb.other b e) o
 have hget:∀(i:Nat) (C:Blk),(S.set j .dead++[B'])[i]?=some C→C.live=true→(i=G.n∧C=B')∨(i < G.n∧i≠j∧S[i]?=some C):=by
  intro i C hi hlC
  rcases Nat.lt_trichotomy i S.length with g | g | g
  ·rw [List.getElem?_append_left (by simpa using g),List.getElem?_set] at hi
   by_cases e:j=i
   ·rw [if_pos e,if_pos (by omega)] at hi
    cases hi; cases hlC
   ·rw [if_neg e] at hi; exact .inr ⟨by rw [h.n]; exact g,fun x=>e x.symm,hi⟩
  ·subst g
   rw [List.getElem?_append_right (by simp)] at hi
   simp at hi
   exact .inl ⟨h.n.symm,hi.symm⟩
  ·rw [List.getElem?_eq_none (by simp; omega)] at hi; cases hi
 refine ⟨⟨by simp [Gh.push,h.n],fun b hb'=>?_,?_,?_,?_,?_⟩,⟨hext,by rw [hb.size]; exact Nat.le_refl _,hb.os,hb.tape,hb.output,?_,?_,fun b _ hno=>by simp [Gh.push,show b≠G.blk j from fun e=>hno ⟨j,B,hj,hl,hk,e.symm⟩]⟩⟩
 ·have hne:b≠G.blk j:=by have:=hb.size; omega
  simp only [Gh.push,hne,if_false]
  exact h.fresh b (by rw [←hb.size]; exact hb')
 ·intro i C hi hlC hkC
  rw [hb.size]
  rcases hget i C hi hlC with ⟨rfl,rfl⟩ | ⟨g,_,hi'⟩
  ·simpa [Gh.push] using hblt
  ·obtain ⟨a1,a2,_⟩:=hext.same i g
   rw [a2]; exact h.lt i C hi' hlC (by rw [←a1]; exact hkC)
 ·intro i C hi hlC hkC
  rcases hget i C hi hlC with ⟨rfl,rfl⟩ | ⟨g,hne,hi'⟩
  ·exact hB hext
  ·obtain ⟨a1,a2,_⟩:=hext.same i g
   have hk':G.ok i=true:=by rw [←a1]; exact hkC
   have hne':G.blk i≠G.blk j:=fun e=>hne (h.inj i j C B hi' hj hlC hl hk' hk e)
   exact (h.live i C hi' hlC hk').keep hext g (by simp [Gh.push,hne']) (hb.other _ hne')
 ·intro i sz' cs hi hkC
  rcases hget i _ hi rfl with ⟨rfl,_⟩ | ⟨g,_,hi'⟩
  ·simp [Gh.push] at hkC
  ·exact h.vac i sz' cs hi' (by rw [←(hext.same i g).1]; exact hkC)
 ·intro i k C D hi hk' hlC hlD hkC hkD e
  rcases hget i C hi hlC with ⟨rfl,rfl⟩ | ⟨gi,hni,hi'⟩ <;> rcases hget k D hk' hlD with ⟨gk,_⟩ | ⟨gk,hnk,hk''⟩
  ·exact gk.symm
  ·obtain ⟨b1,b2,_⟩:=hext.same k gk
   rw [b2] at e
   have e':G.blk j=G.blk k:=by simpa [Gh.push] using e
   exact absurd (h.inj j k B D hj hk'' hl hlD hk (by rw [←b1]; exact hkD) e').symm hnk
  ·obtain ⟨a1,a2,_⟩:=hext.same i gi
   rw [a2,gk] at e
   have e':G.blk i=G.blk j:=by simpa [Gh.push] using e
   exact absurd (h.inj i j C B hi' hj hlC hl (by rw [←a1]; exact hkC) hk e') hni
  ·obtain ⟨a1,a2,_⟩:=hext.same i gi
   obtain ⟨b1,b2,_⟩:=hext.same k gk
   exact h.inj i k C D hi' hk'' hlC hlD (by rw [←a1]; exact hkC) (by rw [←b1]; exact hkD) (by rw [←a2,←b2]; exact e)
 ·intro b _ hno
  exact hb.other b (fun e=>hno ⟨j,B,hj,hl,hk,e.symm⟩)
 ·rintro b _ ⟨i,C,hi,hlC,hkC,e⟩
  rcases hget i C hi hlC with ⟨rfl,rfl⟩ | ⟨g,_,hi'⟩
  ·exact ⟨j,B,hj,hl,hk,by simpa [Gh.push] using e⟩
  ·obtain ⟨a1,a2,_⟩:=hext.same i g
   exact ⟨i,C,hi',hlC,by rw [←a1]; exact hkC,by rw [←a2]; exact e⟩
theorem Rel.pushNil (h:Rel G w S) (sz:Nat) (B:Blk) (hB:∀z cs,B=.cells z cs→cs=[]):Rel (G.pushNil sz) w (S++[B])∧Evol G w S (G.pushNil sz) w (S++[B]):=by
 have hext:Ext G w (G.pushNil sz) w:=by
  refine ⟨Nat.le_succ _,fun j hj=>?_,fun b=>Nat.le_refl _,fun b o hb=>rfl⟩
  have hne:j≠G.n:=by omega
  simp [Gh.pushNil,hne]
 have hget:∀(j:Nat) (C:Blk),(S++[B])[j]?=some C→(j < G.n∧S[j]?=some C)∨(j=G.n∧C=B):=by
  intro j C hj
  rcases Nat.lt_trichotomy j S.length with g | g | g
  ·rw [List.getElem?_append_left g] at hj
   exact .inl ⟨by rw [h.n]; exact g,hj⟩
  ·subst g
   simp at hj
   exact .inr ⟨h.n.symm,hj.symm⟩
  ·rw [List.getElem?_eq_none (by simp; omega)] at hj; cases hj
 have hold:∀(j:Nat) (C:Blk),(S++[B])[j]?=some C→(G.pushNil sz).ok j=true→j < G.n∧S[j]?=some C∧G.ok j=true:=by
  intro j C hj hk
  rcases hget j C hj with ⟨g,hj'⟩ | ⟨g,_⟩
  ·exact ⟨g,hj',by rw [←(hext.same j g).1]; exact hk⟩
  ·subst g; simp [Gh.pushNil] at hk
 refine ⟨⟨by simp [Gh.pushNil,h.n],h.fresh,?_,?_,?_,?_⟩,⟨hext,Nat.le_refl _,rfl,rfl,rfl,fun _ _ _=>rfl,?_,fun _ _ _=>rfl⟩⟩
 ·intro j C hj hl hk
  obtain ⟨g,hj',hk'⟩:=hold j C hj hk
  exact h.lt j C hj' hl hk'
 ·intro j C hj hl hk
  obtain ⟨g,hj',hk'⟩:=hold j C hj hk
  exact (h.live j C hj' hl hk').keep hext g rfl rfl
 ·intro j sz' cs hj hk
  rcases hget j _ hj with ⟨g,hj'⟩ | ⟨_,hc⟩
  ·exact h.vac j sz' cs hj' (by rw [←(hext.same j g).1]; exact hk)
  ·exact hB _ _ hc.symm
 ·intro i j C D hi hj hlC hlD hkC hkD e
  obtain ⟨gi,hi',hki⟩:=hold i C hi hkC
  obtain ⟨gj,hj',hkj⟩:=hold j D hj hkD
  exact h.inj i j C D hi' hj' hlC hlD hki hkj e
 ·rintro b _ ⟨j,C,hj,hl,hk,e⟩
  obtain ⟨g,hj',hk'⟩:=hold j C hj hk
  exact ⟨j,C,hj',hl,hk',e⟩
theorem Rel.drew (h:Rel G w S):Rel G w.drew S∧Evol G w S G w.drew S:=by
 have hext:Ext G w G w.drew:=⟨Nat.le_refl _,fun _ _=>⟨rfl,rfl,rfl,rfl,rfl⟩,fun _=>Nat.le_refl _,fun b o _=>rfl⟩
 exact ⟨⟨h.n,h.fresh,h.lt,fun j B hj hl hk=>(h.live j B hj hl hk).keep hext (h.get_lt hj) rfl rfl,h.vac,h.inj⟩,⟨hext,Nat.le_refl _,rfl,rfl,rfl,fun _ _ _=>rfl,fun _ _ h=>h,fun _ _ _=>rfl⟩⟩
def Gh.cut (G:Gh) (n:Nat):Gh:={ G with n:=n }
end
end
end Go.Proofs.Ytldogccmhncnoaa
