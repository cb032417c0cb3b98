/- A part of the proof: contracts of functions, or plain facts on which these lean. -/
import Derived.Test.YtldogccmhncnoaaGreatDoorMh12
namespace Go.Proofs.YtldogccmhncnoaaGreatDoor
open Go
set_option linter.unusedVariables false
set_option linter.unusedSimpArgs false
set_option maxRecDepth 100000
set_option maxHeartbeats 16000000

section
open Go
def renC (ρ:Nat→Nat):V→V
 | .rows (some τ) xs=>.rows (some (ρ τ)) xs
 | .heap b n=>.heap (ρ b) n
 | .ptr b o=>.ptr (ρ b) o
 | v=>v
def ren1 (ρ:Nat→Nat):V→V
 | .agg cs=>.agg (cs.map (renC ρ))
 | v=>renC ρ v
def renT (ρ:Nat→Nat):V→V
 | .tup vs=>.tup (vs.map (ren1 ρ))
 | v=>ren1 ρ v
inductive Sh (m n:Nat):V→Prop where
 | rows {tok:Option Nat} {xs:List V}:(∀τ,tok=some τ→τ < n)→(∀v ∈ xs.flatMap V.cells,Cl m v)→Sh m n (.rows tok xs)
 | heap {b l:Nat}:b < n→Sh m n (.heap b l)
 | ptr {b o:Nat}:b < n→Sh m n (.ptr b o)
 | cl {v:V}:Cl m v→Sh m n v
def Sh1 (m n:Nat) (v:V):Prop:=∀u ∈ v.cells,Sh m n u
def ShT (m n:Nat):V→Prop
 | .tup vs=>∀v ∈ vs,Sh1 m n v
 | v=>Sh1 m n v
theorem renC_cl {ρ:Nat→Nat} {m:Nat} (hρ:∀j,j < m→ρ j=j) {v:V} (h:Cl m v):renC ρ v=v:=by
 cases h with
 | @rows tok xs ht _ =>
  cases tok with
  | none=>rfl
  | some τ=>simp only [renC,hρ τ (ht τ rfl)]
 | heap hb=>simp only [renC,hρ _ hb]
 | ptr hb=>simp only [renC,hρ _ hb]
 | _=>rfl
def Gh.ren (G:Gh) (ρ:Nat→Nat) (n:Nat):Gh :=
 { n:=n,ok:=fun j=>G.ok (ρ j),blk:=fun j=>G.blk (ρ j),fin:=fun j=>G.fin (ρ j),lim:=fun j=>G.lim (ρ j),sz:=fun j=>G.sz (ρ j),p:=G.p }
section
variable {G:Gh} {w:World} {ρ:Nat→Nat} {m n:Nat}
theorem VR.renCl (hρ:∀j,j < m→ρ j=j) (hmn:m≤n) {v:V} {c:Value} (h:VR G w v c) (hc:Cl m v):VR (G.ren ρ n) w v c:=by
 have h1:VR (G.cut m) w v c:=h.cut (fun j _=>⟨rfl,rfl,rfl,rfl,rfl⟩) rfl hc
 have he:Ext (G.cut m) w (G.ren ρ n) w:=by
  refine ⟨hmn,fun j hj=>?_,fun b=>Nat.le_refl _,fun _ _ _=>rfl⟩
  have e:=hρ j hj
  simp [Gh.ren,Gh.cut,e]
 exact VR.ext he h1
theorem VR.renC (hρ:∀j,j < m→ρ j=j) (hmn:m≤n) {v:V} {c:Value} (h:VR G w (renC ρ v) c) (hs:Sh m n v):VR (G.ren ρ n) w v c:=by
 cases hs with
 | cl hc=>rw [renC_cl hρ hc] at h; exact h.renCl hρ hmn hc
 | heap hb =>
  cases h with
  | heapNil _=>exact .heapNil hb
  | heap h1 h2 h3 h4=>exact .heap (G:=G.ren ρ n) hb h2 h3 h4
 | ptr hb =>
  cases h with
  | ptr h1 h2=>exact .ptr (G:=G.ren ρ n) hb h2
 | rows ht hx =>
  rename_i tok xs
  cases tok with
  | none =>
   cases h with
   | rowsNil _=>exact .rowsNil ht
   | rowsE=>exact .rowsE
   | rows vs a1 a2 a3 a4 a5 a6 a7=>exact .rows vs a1 (fun i v u hv hu=>(a2 i v u hv hu).renCl hρ hmn (hx v (List.mem_of_getElem? hv))) a3 a4 a5 a6 (fun τ hτ=>by cases hτ)
  | some τ =>
   cases h with
   | rowsNil _=>exact .rowsNil ht
   | rows vs a1 a2 a3 a4 a5 a6 a7 =>
    refine .rows vs a1 (fun i v u hv hu=>(a2 i v u hv hu).renCl hρ hmn (hx v (List.mem_of_getElem? hv))) a3 a4 a5 a6 (fun τ' hτ=>?_)
    cases hτ
    obtain ⟨b1,b2,b3,b4,b5,b6⟩:=a7 (ρ τ) rfl
    exact ⟨ht τ rfl,b2,b3,b4,b5,b6⟩
theorem cells_not_agg {v:V} (h:∀cs,v≠.agg cs):v.cells=[v]:=by
 cases v <;> first | rfl | exact absurd rfl (h _)
theorem VR.ren1 (hρ:∀j,j < m→ρ j=j) (hmn:m≤n) {v:V} {c:Value} (h:VR G w (ren1 ρ v) c) (hs:Sh1 m n v):VR (G.ren ρ n) w v c:=by
 by_cases ha:∃cs,v=.agg cs
 ·obtain ⟨cs,rfl⟩:=ha
  cases h with
  | agg hl hr ho =>
   refine .agg (by simpa using hl) (fun i v u hv hu=>?_) ho
   exact (hr i _ u (by rw [List.getElem?_map,hv]; rfl) hu).renC hρ hmn (hs v (List.mem_of_getElem? hv))
 ·have hc:v.cells=[v]:=cells_not_agg (fun cs e=>ha ⟨cs,e⟩)
  have e:YtldogccmhncnoaaGreatDoor.ren1 ρ v=YtldogccmhncnoaaGreatDoor.renC ρ v:=by
   cases v <;> first | rfl | exact absurd ⟨_,rfl⟩ ha
  rw [e] at h
  exact h.renC hρ hmn (hs v (by rw [hc]; exact List.mem_singleton.2 rfl))
theorem VR.renT (hρ:∀j,j < m→ρ j=j) (hmn:m≤n) {v:V} {c:Value} (h:VR G w (renT ρ v) c) (hs:ShT m n v):VR (G.ren ρ n) w v c:=by
 by_cases ha:∃cs,v=.tup cs
 ·obtain ⟨cs,rfl⟩:=ha
  cases h with
  | tup hl hr =>
   refine .tup (by simpa using hl) (fun i v u hv hu=>?_)
   exact (hr i _ u (by rw [List.getElem?_map,hv]; rfl) hu).ren1 hρ hmn (hs v (List.mem_of_getElem? hv))
 ·have e:YtldogccmhncnoaaGreatDoor.renT ρ v=YtldogccmhncnoaaGreatDoor.ren1 ρ v:=by
   cases v <;> first | rfl | exact absurd ⟨_,rfl⟩ ha
  have e2:ShT m n v=Sh1 m n v:=by
   cases v <;> first | rfl | exact absurd ⟨_,rfl⟩ ha
  rw [e] at h
  rw [e2] at hs
  exact h.ren1 hρ hmn hs
theorem VR.cl' {v:V} {c:Value} (h:VR G w v c) (hn:G.n≤m):Cl m v:=by
 have mono:∀{a b:Nat} {v:V},a≤b→Cl a v→Cl b v:=by
  intro a b v hab h
  induction h with
  | int k m=>exact .int k m
  | bool b=>exact .bool b
  | str s=>exact .str s
  | agg _ ih=>exact .agg ih
  | tup _ ih=>exact .tup ih
  | nils=>exact .nils
  | rows ht _ ih=>exact .rows (fun τ hτ=>Nat.lt_of_lt_of_le (ht τ hτ) hab) ih
  | heap hb=>exact .heap (Nat.lt_of_lt_of_le hb hab)
  | ptr hb=>exact .ptr (Nat.lt_of_lt_of_le hb hab)
  | eptr _ ih=>exact .eptr ih
  | nilp=>exact .nilp
  | fn _ ih=>exact .fn ih
  | junk=>exact .junk
 exact mono hn h.cl
end
inductive BlkRen (ρ:Nat→Nat) (m n:Nat):Blk→Blk→Prop where
 | dead {B:Blk}:BlkRen ρ m n B .dead
 | right {sz:Nat}:BlkRen ρ m n (.right sz) (.right sz)
 | cells {sz:Nat} {cs ds:List V}:ds=cs.map (renC ρ)→(∀v ∈ cs,Sh m n v)→BlkRen ρ m n (.cells sz ds) (.cells sz cs)
theorem Wk.keep {S0 S S':List Blk} {r r':V} (ρ:Nat→Nat) (h0:S0.length≤S'.length) (hρ:∀j,j < S0.length→ρ j=j) (hinj:∀i j,i < S'.length→j < S'.length→ρ i=ρ j→i=j)
  (hr:r=renT ρ r') (hsr:ShT S0.length S'.length r')
  (hS:∀j B',S'[j]?=some B'→(j < S0.length∧S0[j]?=some B'∧S[j]?=some B')∨∃B,S[ρ j]?=some B∧BlkRen ρ S0.length S'.length B B'):Wk S0 r S r' S':=by
 subst hr
 intro G0 w0 G w c hR0 hE hv hR
 have hlt:∀{j:Nat} {B:Blk},S'[j]?=some B→j < S'.length:=by
  intro j B hj
  rcases Nat.lt_or_ge j S'.length with g | g
  ·exact g
  ·rw [List.getElem?_eq_none g] at hj; cases hj
 have hold:∀(j:Nat) (B':Blk),S'[j]?=some B'→B'.live=true→∃B,S[ρ j]?=some B∧B.live=true:=by
  intro j B' hj hl
  rcases hS j B' hj with ⟨g1,g2,g3⟩ | ⟨B,g1,g2⟩
  ·exact ⟨B',by rw [hρ j g1]; exact g3,hl⟩
  ·cases g2 with
   | dead=>cases hl
   | right=>exact ⟨_,g1,rfl⟩
   | cells=>exact ⟨_,g1,rfl⟩
 have hn0:G0.n=S0.length:=hR0.n
 have hext:Ext G0 w0 (G.ren ρ S'.length) w:=by
  refine ⟨by rw [hn0]; exact h0,fun j hj=>?_,hE.ext.p,hE.ext.cell⟩
  have e:=hρ j (by omega)
  simp only [Gh.ren,e]
  exact hE.ext.same j hj
 refine ⟨G.ren ρ S'.length,hv.renT hρ h0 hsr,⟨rfl,hR.fresh,?_,?_,?_,?_⟩,⟨hext,hE.size,hE.os,hE.tape,hE.output,hE.other,?_,hE.pk⟩⟩
 ·intro j B hj hl hk
  obtain ⟨B0,g1,g2⟩:=hold j B hj hl
  exact hR.lt _ _ g1 g2 hk
 ·intro j B hj hl hk
  rcases hS j B hj with ⟨g1,g2,g3⟩ | ⟨B1,g1,g2⟩
  ·have e:=hρ j g1
   have hk':G.ok j=true:=by simpa [Gh.ren,e] using hk
   have hk0:G0.ok j=true:=by rw [←(hE.ext.same j (by omega)).1]; exact hk'
   have hb:=hR.live j B g3 hl hk'
   cases B with
   | dead=>trivial
   | right sz=>simpa [BlkOk,Gh.ren,e] using hb
   | cells sz cs =>
    obtain ⟨arr,ty,q1,q2,q3,q4,q5,q6⟩:=hb
    obtain ⟨arr0,ty0,f1,f2,f3,f4,f5,f6⟩:=hR0.live j _ g2 rfl hk0
    refine ⟨arr,ty,by simpa [Gh.ren,e] using q1,by simpa [Gh.ren,e] using q2,by simpa [Gh.ren,e] using q3,q4,by simpa [Gh.ren,e] using q5,fun i v u hv' hu=>⟨(q6 i v u hv' hu).1.renCl hρ h0 ?_,(q6 i v u hv' hu).2⟩⟩
    have hi:i < cs.length:=by
     rcases Nat.lt_or_ge i cs.length with g | g
     ·exact g
     ·rw [List.getElem?_eq_none g] at hv'; cases hv'
    exact (f6 i v arr0[i] hv' (Array.getElem?_eq_getElem (by omega))).1.cl' (by omega)
  ·cases g2 with
   | dead=>trivial
   | right=>exact hR.live _ _ g1 rfl hk
   | cells hds hsh =>
    rename_i sz cs ds
    subst hds
    obtain ⟨arr,ty,q1,q2,q3,q4,q5,q6⟩:=hR.live _ _ g1 rfl hk
    refine ⟨arr,ty,q1,q2,q3,by simpa using q4,q5,fun i v u hv' hu=>?_⟩
    have:=q6 i (renC ρ v) u (by rw [List.getElem?_map,hv']; rfl) hu
    exact ⟨this.1.renC hρ h0 (hsh v (List.mem_of_getElem? hv')),this.2⟩
 ·intro j sz cs hj hk
  rcases hS j _ hj with ⟨g1,g2,g3⟩ | ⟨B1,g1,g2⟩
  ·exact hR.vac j sz cs g3 (by simpa [Gh.ren,hρ j g1] using hk)
  ·cases g2 with
   | cells hds hsh =>
    rename_i ds
    have:=hR.vac _ sz _ g1 hk
    rw [hds] at this
    simpa using this
 ·intro i j B C hi hj hlB hlC hki hkj he
  obtain ⟨B1,b1,b2⟩:=hold i B hi hlB
  obtain ⟨C1,c1,c2⟩:=hold j C hj hlC
  exact hinj i j (hlt hi) (hlt hj) (hR.inj _ _ B1 C1 b1 c1 b2 c2 hki hkj he)
 ·rintro b hb ⟨j,B,hj,hl,hk,rfl⟩
  obtain ⟨B1,b1,b2⟩:=hold j B hj hl
  exact hE.own _ hb ⟨ρ j,B1,b1,b2,hk,rfl⟩
theorem freeze_ok {G:Gh} {w:World} {S:List Blk} {b m sz:Nat} {cs xs:List V} (hsz:sz < 1000000) (hR:Rel G w S) (hS:S[b]?=some (.cells sz cs)) (hm:m * sz≤cs.length) (hxl:xs.length=m) (hxs:xs.flatMap V.cells=cs.take (m * sz)) :
  ∃G',(∀c,VR G w (.heap b m) c→VR G' w (.rows (some S.length) xs) c)∧Rel G' w (S.set b .dead++[.right sz])∧Evol G w S G' w (S.set b .dead++[.right sz]):=by
 cases hk:G.ok b with
 | false =>
  have hcs:=hR.vac b sz cs hS hk
  subst hcs
  have hm0:m * sz=0:=by simpa using hm
  obtain ⟨h1,h2⟩:=hR.kill b
  obtain ⟨h3,h4⟩:=h1.pushNil sz (.right sz) (fun z cs e=>by cases e)
  refine ⟨_,fun c hv=>?_,h3,h2.trans h4⟩
  cases hv with
  | heap h1 h2=>rw [hk] at h2; cases h2
  | heapNil hb =>
   have hx:xs=[]:=List.length_eq_zero_iff.1 hxl
   subst hx
   refine .rowsNil (fun τ hτ=>?_)
   cases hτ
   simp [Gh.pushNil,hR.n]
 | true =>
  obtain ⟨arr,tf,q1,q2,q3,q4,q50,q6⟩:=hR.live b _ hS rfl hk
  obtain ⟨ty,fr⟩:=tf
  have hfr:=q50.z hsz
  simp only at hfr
  subst hfr
  simp only at q1
  have q5:G.sz b=sz:=by rw [q50.eq]; omega
  have hw:But w w (G.blk b):=⟨rfl,rfl,rfl,rfl,fun _ _=>rfl⟩
  obtain ⟨h1,h2⟩:=hR.move hS rfl hk hw (m * sz) (G.lim b) sz (m * sz) (by rw [q2]; exact Nat.zero_le _) (fun _ _=>rfl) (B':=.right sz) rfl (fun hext=>⟨arr,ty,by simpa [Gh.push] using q1,by simp [Gh.push],by simpa [Gh.push] using q3,by simp [Gh.push]⟩)
  refine ⟨_,fun c hv=>?_,h1,h2⟩
  have hn:=hR.n
  cases hv with
  | heapNil hb =>
   have hx:xs=[]:=List.length_eq_zero_iff.1 hxl
   subst hx
   exact .rowsNil (fun τ hτ=>by cases hτ; simp [Gh.push,hn])
  | @heap _ _ cap g1 g2 g3 g4 =>
   have hlen:(arr.toList.take (m * sz)).length=m * sz:=by simp; omega
   have hrow:VR (G.push (G.blk b) (m * sz) (G.lim b) sz (m * sz)) w (.rows (some S.length) xs) (.slice (some ⟨G.blk b,0,none⟩) xs.length cap):=by
    refine .rows (arr.toList.take (m * sz)) (by rw [hxs]; simp; omega) (fun i v u hv hu=>?_) (fun u hu=>?_) (fun i u hu=>?_) ?_ (by rw [hxl]; exact g3) (fun τ hτ=>?_)
    ·rw [hxs,List.getElem?_take] at hv
     rw [List.getElem?_take] at hu
     split at hv
     ·rename_i hi
      rw [if_pos hi] at hu
      exact (q6 i v u hv (by simpa using hu)).1.ext h2.ext
     ·cases hv
    ·obtain ⟨i,hi,rfl⟩:=List.getElem_of_mem hu
     have hi':i < m * sz:=by omega
     simp only [List.getElem_take]
     have:=(q6 i cs[i] arr[i] (List.getElem?_eq_getElem (by omega)) (Array.getElem?_eq_getElem (by omega))).2
     simpa using this
    ·rw [List.getElem?_take] at hu
     split at hu
     ·rw [cell_blk q1,Nat.zero_add]; simpa using hu
     ·cases hu
    ·rw [hlen]; simp [Gh.push]
    ·cases hτ
     refine ⟨by simp [Gh.push,hn],by simp [Gh.push,hn],by simp [Gh.push,hn],?_,?_,?_⟩
     ·rw [hlen]; simp [Gh.push,hn]
     ·rw [hlen,hxl]; simp [Gh.push,hn]
     ·simp only [Gh.push,hn,if_true,Nat.zero_add]; rw [←q5]; exact g4
   rw [hxl] at hrow
   exact hrow
def frC (b m:Nat) (v':V):V→V
 | .heap b' m'=>if b'=b∧m'=m then v' else .heap b' m'
 | v=>v
def fr1 (b m:Nat) (v':V):V→V
 | .agg cs=>.agg (cs.map (frC b m v'))
 | v=>frC b m v' v
theorem Wk.freeze {S0 S:List Blk} {r:V} {b m sz:Nat} {cs:List V} (xs:List V) (hsz:sz < 1000000) (hS:S[b]?=some (.cells sz cs)) (hm:m * sz≤cs.length) (hxl:xs.length=m) (hxs:xs.flatMap V.cells=cs.take (m * sz)) :
  Wk S0 r S (fr1 b m (.rows (some S.length) xs) r) (S.set b .dead++[.right sz]):=by
 intro G0 w0 G w c hR0 hE hv hR
 obtain ⟨G',hu0,hR',hE'⟩:=freeze_ok hsz hR hS hm hxl hxs
 refine ⟨G',?_,hR',hE.trans hE'⟩
 have cell:∀v u,VR G w v u→VR G' w (frC b m (.rows (some S.length) xs) v) u:=by
  intro v u hvu
  cases v with
  | heap b' m' =>
   simp only [frC]
   split
   ·rename_i e
    obtain ⟨rfl,rfl⟩:=e
    exact hu0 u hvu
   ·exact hvu.ext hE'.ext
  | _=>exact hvu.ext hE'.ext
 by_cases ha:∃cs,r=.agg cs
 ·obtain ⟨cs,rfl⟩:=ha
  cases hv with
  | agg hl hr' ho =>
   refine .agg (by simpa using hl) (fun i v u hv hu=>?_) ho
   rw [List.getElem?_map] at hv
   cases hq:cs[i]? with
   | none=>rw [hq] at hv; cases hv
   | some v0=>rw [hq] at hv; cases hv; exact cell _ _ (hr' i v0 u hq hu)
 ·have e:fr1 b m (.rows (some S.length) xs) r=frC b m (.rows (some S.length) xs) r:=by
   cases r <;> first | rfl | exact absurd ⟨_,rfl⟩ ha
  rw [e]
  exact cell _ _ hv
attribute [push_cast] renC ren1 renT frC fr1 ShT
end
section
open Go
section
variable {S X:List Blk} {v x:V} {n:Nat}
theorem fin0 (h:v=x):∃r S2,Wk S v S r S2∧r=x∧S2=S:=⟨v,S,Wk.refl _ _ _,h,rfl⟩
theorem fin1 (hc:Cl S.length v) (h:v=x):∃r S2,Wk S v (S++X) r S2∧r=x∧S2=S:=⟨v,S,Wk.pure hc,h,rfl⟩
theorem finE (hc:Cl S.length (eraseT v)) (h:eraseT v=x):∃r S2,Wk S v (S++X) r S2∧r=x∧S2=S:=⟨_,S,(Wk.eraseT _ _ _).trans (Wk.pure hc),h,rfl⟩
@[push_cast] theorem cl_int (k:IntKind) (m:Int):Cl n (.int k m)=True:=eq_true (.int k m)
@[push_cast] theorem cl_bool (b:Bool):Cl n (.bool b)=True:=eq_true (.bool b)
@[push_cast] theorem cl_str (s:List UInt8):Cl n (.str s)=True:=eq_true (.str s)
@[push_cast] theorem cl_nils:Cl n .nils=True:=eq_true .nils
@[push_cast] theorem cl_nilp:Cl n .nilp=True:=eq_true .nilp
@[push_cast] theorem cl_agg (cs:List V):Cl n (.agg cs)↔∀v ∈ cs,Cl n v:=⟨fun h=>by cases h; assumption,.agg⟩
@[push_cast] theorem cl_tup (cs:List V):Cl n (.tup cs)↔∀v ∈ cs,Cl n v:=⟨fun h=>by cases h; assumption,.tup⟩
@[push_cast] theorem cl_rows (xs:List V):Cl n (.rows none xs)↔∀x ∈ xs,Cl n x:=by
 constructor
 ·intro h x hx
  cases h with
  | rows _ hv =>
   by_cases ha:∃cs,x=.agg cs
   ·obtain ⟨cs,rfl⟩:=ha
    exact .agg (fun v hv'=>hv v (List.mem_flatMap.2 ⟨_,hx,hv'⟩))
   ·exact hv x (List.mem_flatMap.2 ⟨x,hx,by rw [cells_not_agg (fun cs e=>ha ⟨cs,e⟩)]; exact List.mem_singleton.2 rfl⟩)
 ·exact Cl.rows'
@[push_cast] theorem cl_heap (b l:Nat):Cl n (.heap b l)↔b < n:=⟨fun h=>by cases h; assumption,.heap⟩
@[push_cast] theorem cl_ptr (b l:Nat):Cl n (.ptr b l)↔b < n:=⟨fun h=>by cases h; assumption,.ptr⟩
theorem fin_freeze {b m sz:Nat} {cs xs:List V} {B:Blk} (hB:B=.cells sz cs) (hb:b=S.length) (hm:m * sz≤cs.length) (hxl:xs.length=m) (hxs:xs.flatMap V.cells=cs.take (m * sz)) (hc:Cl S.length (.rows none xs)) (h:V.rows none xs=x) (hsz:sz < 1000000:=by omega) :
  ∃r S2,Wk S (.heap b m) (S++[B]) r S2∧r=x∧S2=S:=by
 subst hb hB h
 have h1:=Wk.freeze (S0:=S) (S:=S++[Blk.cells sz cs]) (r:=.heap S.length m) (b:=S.length) (m:=m) xs hsz (by simp) hm hxl hxs
 simp only [fr1,frC,and_self,if_true] at h1
 have h2:=Wk.erase S (.rows (some (S++[Blk.cells sz cs]).length) xs) ((S++[Blk.cells sz cs]).set S.length Blk.dead++[Blk.right sz])
 rw [app_set0,List.append_assoc] at h1 h2
 exact ⟨_,_,(h1.trans h2).trans (Wk.pure hc),rfl,rfl⟩
theorem splice_one:∀(cs:List V) (k:Nat) (u:V),splice cs k [u]=cs.set k u
 | [],k,u=>by cases k <;> simp [splice]
 | c :: cs,0,u=>by cases cs <;> simp [splice]
 | c :: cs,k+1,u=>by simp [splice,splice_one cs k u]
theorem VCall.as {P:Program} {f:FuncId} {args args':List V} {S:List Blk} {q:V→List Blk→Prop} (h:VCall P f args' S q) (e:args=args'):VCall P f args S q:=e ▸ h
end
def wrOf (D:Nat→TD) (ts:List Nat) (t:Nat):TD:=if ts.contains t then ⟨(D t).k,(D t).size,(D t).bytes,(D t).zero,true,(D t).bld⟩ else D t
theorem wrOk {P:Program} {D:Nat→TD} (h:TypesOk P D) (ts:List Nat):TypesOk P (wrOf D ts):=by
 refine ⟨fun t=>?_,h.mix,fun t=>?_,fun t=>?_⟩
 ·unfold wrOf
  split
  ·exact h.ty t
  ·exact h.ty t
 ·unfold wrOf
  split
  ·exact h.small t
  ·exact h.small t
 ·unfold wrOf
  split
  ·exact h.ptr t
  ·exact h.ptr t
def bldOf (D:Nat→TD) (ts:List Nat) (t:Nat):TD:=if ts.contains t then ⟨(D t).k,(D t).size,(D t).bytes,(D t).zero,(D t).wr,true⟩ else D t
theorem bldOf_eq (D:Nat→TD) (ts:List Nat) (t:Nat):bldOf D ts t=if ts.contains t then ⟨(D t).k,(D t).size,(D t).bytes,(D t).zero,(D t).wr,true⟩ else D t:=rfl
attribute [push_cast] bldOf_eq
theorem wrOf_eq (D:Nat→TD) (ts:List Nat) (t:Nat):wrOf D ts t=if ts.contains t then ⟨(D t).k,(D t).size,(D t).bytes,(D t).zero,true,(D t).bld⟩ else D t:=rfl
attribute [push_cast] wrOf_eq List.contains_cons List.contains_nil Bool.or_false Bool.or_true Bool.true_or Bool.false_or
attribute [push_cast] TK.slc.injEq TK.int.injEq exists_eq_left' exists_eq_left exists_eq' exists_eq forall_eq_or_imp forall_false List.mem_map and_self byteOfV eraseT_tup
theorem byte_wrap (n:Int):UInt8.ofNat (IntKind.u8.wrap n).toNat=UInt8.ofNat (n % 256).toNat:=by
 have h:IntKind.u8.wrap n=n % 256:=by
  simp [IntKind.wrap,IntKind.signed,IntKind.bits]
 rw [h]
end
section
open Go
def by8 (n:Nat):UInt8:=UInt8.ofNat n
def numTail (m:Nat):List UInt8:=if m < 128 then [by8 m] else by8 (m % 128+128) :: numTail (m / 128)
termination_by m
def numW (n bits head:Nat):List UInt8 :=
 if n < 2 ^ bits - 1 then [by8 (head * 2 ^ bits+n)] else by8 (head * 2 ^ bits+(2 ^ bits - 1)) :: numTail (n - (2 ^ bits - 1))
theorem numTail_lt {m:Nat} (h:m < 128):numTail m=[by8 m]:=by rw [numTail,if_pos h]
theorem numTail_ge {m:Nat} (h:128≤m):numTail m=by8 (m % 128+128) :: numTail (m / 128):=by rw [numTail,if_neg (by omega)]
theorem u8_ofNat_mod (n:Nat):UInt8.ofNat (n % 256)=UInt8.ofNat n:=by
 apply UInt8.toNat.inj
 simp
theorem byInt (n:Nat):UInt8.ofNat (((n:Int) % 256).toNat)=by8 n:=by
 have:(((n:Int) % 256).toNat)=n % 256:=by omega
 rw [this,u8_ofNat_mod]; rfl
theorem tmod_nat (m n:Nat):Int.tmod (m:Int) (n:Int)=((m % n:Nat):Int):=by
 rw [Int.tmod_eq_emod_of_nonneg (by omega)]; rfl
theorem tdiv_nat (m n:Nat):Int.tdiv (m:Int) (n:Int)=((m / n:Nat):Int):=by
 rw [Int.tdiv_eq_ediv_of_nonneg (by omega)]; rfl
theorem bv64 {x:Nat} (h:x < 2 ^ 62):(BitVec.ofInt 64 (x:Int)).toNat=x:=by
 rw [BitVec.toNat_ofInt]
 have e:((2 ^ 64:Nat):Int)=18446744073709551616:=by decide
 rw [e]
 omega
theorem and_nat {x y:Nat} (hx:x < 2 ^ 62) (hy:y < 2 ^ 62):intBits .and .i64 (x:Int) (y:Int)=((x &&& y:Nat):Int):=by
 have h:x &&& y≤x:=Nat.and_le_left
 simp only [intBits]
 rw [show IntKind.i64.bits=64 from rfl,BitVec.toNat_and,bv64 hx,bv64 hy]
 exact i64_fit _ (by omega)
theorem or_nat {x y:Nat} (hx:x < 2 ^ 62) (hy:y < 2 ^ 62):intBits .or .i64 (x:Int) (y:Int)=((x ||| y:Nat):Int):=by
 have h:x ||| y < 2 ^ 62:=Nat.or_lt_two_pow hx hy
 simp only [intBits]
 rw [show IntKind.i64.bits=64 from rfl,BitVec.toNat_or,bv64 hx,bv64 hy]
 exact i64_fit _ (by omega)
theorem fdiv_pow (n k:Nat):Int.fdiv (n:Int) (2 ^ k)=((n / 2 ^ k:Nat):Int):=by
 have e:(2:Int) ^ k=((2 ^ k:Nat):Int):=by simp
 rw [e,Int.fdiv_eq_ediv_of_nonneg _ (Int.natCast_nonneg _)]
 rfl
theorem u8_wrap (n:Nat):IntKind.u8.wrap (n:Int)=((by8 n).toNat:Int):=by
 have h:IntKind.u8.wrap (n:Int)=(n:Int) % 256:=by simp [IntKind.wrap,IntKind.signed,IntKind.bits]
 rw [h]; simp [by8]
theorem u8V_of (n:Nat):V.int .u8 (IntKind.u8.wrap (n:Int))=u8V (by8 n):=by rw [u8_wrap]; rfl
theorem by8_wrap (n:Nat):UInt8.ofNat (IntKind.u8.wrap (n:Int)).toNat=by8 n:=by rw [u8_wrap]; simp
@[push_cast] theorem all_u8_len (o:List UInt8):(o.map u8V).all (lenIs 1)=true:=by induction o <;> simp_all [lenIs,u8V,V.cells]
@[push_cast] theorem all_u8_is (o:List UInt8):(o.map u8V).all isU8=true:=by induction o <;> simp_all [isU8,u8V]
@[push_cast] theorem map_u8_by (o:List UInt8):(o.map u8V).map byteOfV=o:=by induction o <;> simp_all [byteOfV,u8V]
@[push_cast] theorem cells_u8 (b:UInt8):(u8V b).cells=[u8V b]:=rfl
@[push_cast] theorem isU8_u8 (b:UInt8):isU8 (u8V b)=true:=rfl
@[push_cast] theorem byteOf_u8 (b:UInt8):byteOfV (u8V b)=b:=by simp [u8V,byteOfV]
@[push_cast] theorem one_u8 (b:UInt8):(u8V b).one=true:=rfl
@[push_cast] theorem erase1_u8 (b:UInt8):erase1 (u8V b)=u8V b:=rfl
def Tok (S S':List Blk) (τ sz:Nat):Prop:=(∃X,S'=S++X)∧S.length≤τ∧S'[τ]?=some (.right sz)
theorem Tok.new (S:List Blk) (sz:Nat):Tok S (S++[.right sz]) S.length sz:=⟨⟨_,rfl⟩,Nat.le_refl _,by simp⟩
theorem Tok.at {S S':List Blk} {τ sz:Nat} (h:Tok S S' τ sz):S'[τ]?=some (.right sz):=h.2.2
theorem Tok.step {S S':List Blk} {τ sz:Nat} (h:Tok S S' τ sz):Tok S (S'.set τ .dead++[.right sz]) S'.length sz:=by
 obtain ⟨⟨X,rfl⟩,h2,h3⟩:=h
 refine ⟨⟨X.set (τ - S.length) .dead++[.right sz],?_⟩,by simp,?_⟩
 ·rw [List.set_append_right _ _ h2,List.append_assoc]
 ·rw [List.getElem?_append_right (by simp)]; simp
theorem Tok.more {S S':List Blk} {τ sz:Nat} (h:Tok S S' τ sz) (Y:List Blk):Tok S (S'++Y) τ sz:=by
 obtain ⟨⟨X,rfl⟩,h2,h3⟩:=h
 refine ⟨⟨X++Y,by rw [List.append_assoc]⟩,h2,?_⟩
 rw [List.getElem?_append_left,h3]
 rcases Nat.lt_or_ge τ (S++X).length with g | g
 ·exact g
 ·rw [List.getElem?_eq_none g] at h3; cases h3
theorem Tok.step1 {S S':List Blk} {τ sz:Nat} (h:Tok S S' τ sz) (B:Blk):Tok S ((S'++[B]).set τ .dead++[.right sz]) (S'.length+1) sz:=by
 have:=(h.more [B]).step
 simpa using this
theorem Tok.fin {S S':List Blk} {τ sz:Nat} {v x:V} (h:Tok S S' τ sz) (hc:Cl S.length v) (e:v=x):∃r S2,Wk S v S' r S2∧r=x∧S2=S:=by
 obtain ⟨⟨X,rfl⟩,_,_⟩:=h
 exact fin1 hc e
theorem Tok.finE {S S':List Blk} {τ sz:Nat} {v x:V} (h:Tok S S' τ sz) (hc:Cl S.length (eraseT v)) (e:eraseT v=x):∃r S2,Wk S v S' r S2∧r=x∧S2=S:=by
 obtain ⟨⟨X,rfl⟩,_,_⟩:=h
 exact YtldogccmhncnoaaGreatDoor.finE hc e
theorem or_add {q n p bits:Nat} (hp:p=2 ^ bits) {h:Nat} (hq:q=h * p) (hn:n < p):q ||| n=q+n:=by
 rw [hq,hp,Nat.mul_comm,←Nat.two_pow_add_eq_or_of_lt (by omega)]
theorem and127 (x:Nat) (h:x < 2 ^ 62):intBits .and .i64 (x:Int) 127=((x % 128:Nat):Int):=by
 rw [show (127:Int)=((127:Nat):Int) from rfl,and_nat h (by decide),show (127:Nat)=2 ^ 7 - 1 from rfl,Nat.and_two_pow_sub_one_eq_mod]
theorem or128 (x:Nat) (h:x < 128):intBits .or .i64 128 (x:Int)=((128+x:Nat):Int):=by
 rw [show (128:Int)=((128:Nat):Int) from rfl,or_nat (by decide) (by omega),or_add (q:=128) (p:=128) (bits:=7) (h:=1) rfl rfl h]
theorem shr7 (x:Nat):Int.fdiv (x:Int) (2 ^ min 7 64)=((x / 128:Nat):Int):=fdiv_pow x 7
end
section
open Go
theorem l6In_ok (n a b:Int) (S:List Blk):VCall Tryz.prog 61 [.int .i64 n,.int .i64 a,.int .i64 b] S fun r S'=>r=.bool (decide (a≤n) && decide (n≤b))∧S'=S:=by
 refine VCall.en hD Tryz.func61 Tryz.ntmps61 Tryz.results61 ?_
 simp -implicitDefEqProofs (disch:=omega) only [push_cast,simprocAttr,↓gd]
 refine ⟨fun h=>fin0 ?_,fun h=>fin0 ?_⟩ <;> simp <;> omega
theorem in_ok (n a b:Int) (S:List Blk):VCall Tryz.prog 64 [.int .i64 n,.int .i64 a,.int .i64 b] S fun r S'=>r=.bool (decide (a≤n) && decide (n≤b))∧S'=S:=by
 refine VCall.en hD Tryz.func64 Tryz.ntmps64 Tryz.results64 ?_
 simp -implicitDefEqProofs (disch:=omega) only [push_cast,simprocAttr,↓gd]
 refine ⟨fun h=>fin0 ?_,fun h=>fin0 ?_⟩ <;> simp <;> omega
theorem l6In_t {n a b:Int} (h:a≤n∧n≤b) (S:List Blk):VCall Tryz.prog 61 [.int .i64 n,.int .i64 a,.int .i64 b] S fun r S'=>r=.bool true∧S'=S:=by
 have:=l6In_ok n a b S
 rwa [decide_eq_true h.1,decide_eq_true h.2] at this
theorem l6In_f {n a b:Int} (h:¬(a≤n∧n≤b)) (S:List Blk):VCall Tryz.prog 61 [.int .i64 n,.int .i64 a,.int .i64 b] S fun r S'=>r=.bool false∧S'=S:=by
 have:=l6In_ok n a b S
 rwa [show (decide (a≤n) && decide (n≤b))=false by simp; omega] at this
theorem in_t {n a b:Int} (h:a≤n∧n≤b) (S:List Blk):VCall Tryz.prog 64 [.int .i64 n,.int .i64 a,.int .i64 b] S fun r S'=>r=.bool true∧S'=S:=by
 have:=in_ok n a b S
 rwa [decide_eq_true h.1,decide_eq_true h.2] at this
theorem in_f {n a b:Int} (h:¬(a≤n∧n≤b)) (S:List Blk):VCall Tryz.prog 64 [.int .i64 n,.int .i64 a,.int .i64 b] S fun r S'=>r=.bool false∧S'=S:=by
 have:=in_ok n a b S
 rwa [show (decide (a≤n) && decide (n≤b))=false by simp; omega] at this
theorem l1Byte_ok (n:Nat) (S:List Blk):VCall Tryz.prog 145 [.int .i64 n] S fun r S'=>r=.str [by8 n]∧S'=S:=by
 refine VCall.en hD Tryz.func145 Tryz.ntmps145 Tryz.results145 ?_
 simp -implicitDefEqProofs (disch:=omega) only [push_cast,simprocAttr,↓gd]
 exact fin1 (.str _) (by rw [byte_wrap,byInt])
theorem l1Top_ok (n:Nat) (hn:n≤40) (S:List Blk):VCall Tryz.prog 195 [.int .i64 n] S fun r S'=>r=.int .i64 (2 ^ n:Nat)∧S'=S:=by
 refine VCall.en hD Tryz.func195 Tryz.ntmps195 Tryz.results195 ?_
 simp -implicitDefEqProofs (disch:=omega) only [push_cast,simprocAttr,↓gd]
 refine wpV_loop (fun m t S'=>∃i p:Nat,m=n - i∧i≤n∧p=2 ^ i∧t 0=.int .i64 n∧t 3=.int .i64 p∧t 4=.int .i64 i∧S'=S) n ⟨0,1,by simp,by omega,rfl,rfl,rfl,rfl,rfl⟩ ?_
 rintro m t S' ⟨i,p,rfl,hi,hp,h0,h3,h4,rfl⟩
 refine wpV_of0 hD ?_
 have hp2:p≤2 ^ 40:=by rw [hp]; exact Nat.pow_le_pow_right (by omega) (by omega)
 simp -implicitDefEqProofs (disch:=omega) only [push_cast,simprocAttr,h0,h3,h4,↓gd]
 refine ⟨fun h=>⟨n - (i+1),by omega,i+1,2 * p,rfl,by omega,by rw [hp,Nat.pow_succ,Nat.mul_comm],by simp,by simp⟩,fun h=>fin0 ?_⟩
 have:i=n:=by omega
 subst this
 simp [hp]
theorem NumWrite_ok (n:Int) (bits head:Nat) (hn:-1000000000≤n∧n≤1000000000) (hb:3≤bits∧bits≤7) (hh:head≤256) (S:List Blk) :
  VCall Tryz.prog 180 [.int .i64 n,.int .i64 bits,.int .i64 head] S fun r S'=>r=.str (if 0≤n∧n≤9999∧head < 2 ^ (8 - bits) then numW n.toNat bits head else [])∧S'=S:=by
 obtain ⟨p,hp⟩:∃p,p=2 ^ bits:=⟨_,rfl⟩
 obtain ⟨p8,hp8⟩:∃p8,p8=2 ^ (8 - bits):=⟨_,rfl⟩
 have hp2:p≤2 ^ 7:=by rw [hp]; exact Nat.pow_le_pow_right (by omega) (by omega)
 have hp1:1≤p:=by rw [hp]; exact Nat.one_le_two_pow
 have hp4:p8≤2 ^ 8:=by rw [hp8]; exact Nat.pow_le_pow_right (by omega) (by omega)
 have hp3:1≤p8:=by rw [hp8]; exact Nat.one_le_two_pow
 have e1:(2:Int) ^ min ((8:Int) - bits).toNat 64=p8:=by rw [hp8,show min ((8:Int) - bits).toNat 64=8 - bits by omega]; simp
 have e2:(2:Int) ^ min bits 64=p:=by rw [hp,show min bits 64=bits by omega]; simp
 rw [←hp8]
 by_cases h1:0≤n∧n≤9999
 ·obtain ⟨n,rfl⟩:∃m:Nat,n=m:=⟨n.toNat,by omega⟩
  by_cases h2:head < p8
  ·have hq0:head * p+p≤p8 * p:=by rw [←Nat.succ_mul]; exact Nat.mul_le_mul_right _ h2
   have hq1:p8 * p=256:=by rw [hp,hp8,←Nat.pow_add,show 8 - bits+bits=8 by omega]
   obtain ⟨q,hq⟩:∃q,q=head * p:=⟨_,rfl⟩
   have hq3:(head:Int) * (p:Int)=q:=by rw [hq]; simp
   rw [if_pos ⟨h1.1,h1.2,h2⟩,Int.toNat_natCast]
   refine VCall.en hD Tryz.func180 Tryz.ntmps180 Tryz.results180 ?_
   simp -implicitDefEqProofs (disch:=omega) only [push_cast,simprocAttr,↓gd]
   refine (in_t h1 _).to ?_
   simp -implicitDefEqProofs (disch:=omega) only [push_cast,simprocAttr,↓gd]
   refine (in_t (by omega) _).to ?_
   simp -implicitDefEqProofs (disch:=omega) only [push_cast,simprocAttr,e1,↓gd]
   refine ⟨by omega,(in_t (by omega) _).to ?_⟩
   simp -implicitDefEqProofs (disch:=omega) only [push_cast,simprocAttr,e1,e2,hq3,↓gd]
   refine ⟨by omega,fun h=>⟨by omega,fin1 (.str _) ?_⟩,fun h=>⟨by omega,?_⟩⟩
   ·rw [or_nat (by omega) (by omega),or_add hp hq (by omega),by8_wrap,numW,←hp,if_pos (by omega),hq]
   have eb:intBits .or .i64 (q:Int) (1 * (p:Int) - 1)=((q+(p - 1):Nat):Int):=by
    rw [show (1 * (p:Int) - 1)=((p - 1:Nat):Int) by omega,or_nat (by omega) (by omega),or_add hp hq (by omega)]
   rw [eb]
   refine wpV_loop (fun x t S'=>∃o:List UInt8,∃τ,x≤10000∧o.length≤10001 - x∧o++numTail x=numW n bits head∧t 0=.int .i64 x∧t 8=.rows (some τ) (o.map u8V)∧Tok S S' τ 1) (n - (p - 1))
    ⟨[by8 (q+(p - 1))],S.length,by omega,?_,?_,?_,?_,Tok.new _ _⟩ ?_
   ·simp; omega
   ·rw [numW,←hp,if_neg (by omega),hq]; rfl
   ·show V.int .i64 _=_
    congr 1; omega
   ·show V.rows _ _=_
    rw [u8V_of]; rfl
   rintro x t S' ⟨o,τ,hx,ho,hw,h0,h8,hT⟩
   have hat:=hT.at
   refine wpV_of0 hD ?_
   simp -implicitDefEqProofs (disch:=omega) only [push_cast,simprocAttr,h0,h8,hat,↓gd]
   refine ⟨fun h=>⟨by omega,x / 128,by omega,o++[by8 (x % 128+128)],S'.length+1,by omega,by simp; omega,?_,?_,?_,hT.step1 _⟩,fun h=>⟨by omega,hT.step1 _ |>.fin (.str _) ?_⟩⟩
   ·rw [←hw,numTail_ge (m:=x) (by omega)]; simp
   ·rw [shr7]
   ·rw [and127 x (by omega),or128 _ (by omega),u8V_of,Nat.add_comm 128]; simp
   ·rw [←hw,numTail_lt (by omega),by8_wrap]
  ·rw [if_neg (by omega)]
   refine VCall.en hD Tryz.func180 Tryz.ntmps180 Tryz.results180 ?_
   simp -implicitDefEqProofs (disch:=omega) only [push_cast,simprocAttr,↓gd]
   refine (in_t h1 _).to ?_
   simp -implicitDefEqProofs (disch:=omega) only [push_cast,simprocAttr,↓gd]
   refine (in_t (by omega) _).to ?_
   simp -implicitDefEqProofs (disch:=omega) only [push_cast,simprocAttr,e1,↓gd]
   refine ⟨by omega,(in_f (by omega) _).to ?_⟩
   simp -implicitDefEqProofs (disch:=omega) only [push_cast,simprocAttr,↓gd]
   exact fin0 rfl
 ·rw [if_neg (by omega)]
  refine VCall.en hD Tryz.func180 Tryz.ntmps180 Tryz.results180 ?_
  simp -implicitDefEqProofs (disch:=omega) only [push_cast,simprocAttr,↓gd]
  refine (in_f h1 _).to ?_
  simp -implicitDefEqProofs (disch:=omega) only [push_cast,simprocAttr,↓gd]
  exact fin0 rfl
end
end Go.Proofs.YtldogccmhncnoaaGreatDoor
