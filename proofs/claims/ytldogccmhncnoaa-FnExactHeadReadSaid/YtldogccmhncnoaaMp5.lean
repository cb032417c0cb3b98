/- A part of the proof: contracts of functions, or plain facts on which these lean. -/
import Derived.Laws.MakeOwn
import Derived.Test.YtldogccmhncnoaaMp4
namespace Go.Proofs.Ytldogccmhncnoaa
open Go
set_option linter.unusedVariables false
set_option linter.unusedSimpArgs false
set_option maxRecDepth 100000
set_option maxHeartbeats 16000000

section
open Go
section
variable {P:Program} {D:Nat→TD}
def SrcOk (P:Program) (w:World) (size:Nat) (x:Value) (n:Nat) (c:Array Value):Prop :=
 (∀w1,(Builtin.lenOf x).run P w1=.ok n w1)∧∀w1,w1.heap=w.heap→(Builtin.firstCells size n x).run P w1=.ok c w1
theorem cell_heap {w w1:World} (h:w1.heap=w.heap) (a:Addr):w1.cell? a=w.cell? a:=by simp [World.cell?,h]
theorem src_slice {w:World} {size b off n cap:Nat} {vs:List Value} (hl:vs.length=n * size) (hh:Held w b off vs):SrcOk P w size (.slice (some ⟨b,off,none⟩) n cap) n vs.toArray:=by
 refine ⟨fun w1=>by simp [Builtin.lenOf],fun w1 h=>?_⟩
 exact run_firstCells_some w1 size n ⟨b,off,none⟩ n cap vs hl (fun j v hv=>by rw [addr_add,cell_heap h]; exact hh j v hv)
theorem src_nil {w:World} {size:Nat}:SrcOk P w size (.slice none 0 0) 0 #[] :=
 ⟨fun w1=>by simp [Builtin.lenOf],fun w1 _=>run_firstCells_none w1 size 0 0 0⟩
theorem src_none {w:World} {size:Nat} {a:Addr} {cap:Nat}:SrcOk P w size (.slice (some a) 0 cap) 0 #[] :=
 ⟨fun w1=>by simp [Builtin.lenOf],fun w1 h=>run_firstCells_some w1 size 0 a 0 cap [] (by simp) (fun j v hv=>by simp at hv)⟩
theorem src_str {w:World} {s:List UInt8}:SrcOk P w 1 (.string ⟨⟨s⟩⟩) s.length (s.map fun b=>Value.int .u8 (b.toNat:Int)).toArray:=by
 refine ⟨fun w1=>by simp [Builtin.lenOf]; rfl,fun w1 _=>?_⟩
 simp only [Builtin.firstCells,Sem.run_pure]
 have:(⟨⟨s⟩⟩:ByteArray).extract 0 s.length=⟨⟨s⟩⟩:=by
  apply ByteArray.ext
  rw [ByteArray.data_extract]
  apply Array.ext'
  simp
 rw [this]
 simp
variable {w:World} {t u ty e:TypeId} {i:TypeInfo} {z:Value} {n sLen sCap:Nat} {c:Array Value} {x:Value} {d:TypeDesc}
theorem run_append_in (ht:P.underlying t=some (.slice e)) (hu:P.underlying u=some d) (hd:d=.string∨∃f,d=.slice f) (hi:P.info? e=some i) (hx:SrcOk P w i.size x n c) {g o:Nat} {cur:Array Value} {bt:TypeId} {fr:Nat × Nat}
  (hg:w.heap[g]?=some (.cells cur bt fr)) (hfr:∀k,k < cur.size→¬(fr.1≤k∧k < fr.2)) (hle:sLen+n≤sCap) (hfit:o+sLen * i.size+c.size≤cur.size) (h1:∀v ∈ c.toList,v.oneCell'=true) :
  (Builtin.append_ #[t,u] ty #[.slice (some ⟨g,o,none⟩) sLen sCap,x]).run P w=.ok (.slice (some ⟨g,o,none⟩) (sLen+n) sCap)
   (w.setRow g (cur.toList.take (o+sLen * i.size)++c.toList++cur.toList.drop (o+sLen * i.size+c.toList.length)).toArray):=by
 have hst:=run_storeCells_fr (P:=P) g (o+sLen * i.size) bt fr c.toList 0 cur w hg hfr (by simpa using hfit) h1
 simp only [Nat.add_zero] at hst
 rcases hd with rfl | ⟨f,rfl⟩ <;> simp [Builtin.append_,run_underlying ht,run_underlying hu,sizeOf,typeInfo,hi,hx.1,hle,hx.2 w rfl,addr_add,hst]
theorem run_append_zero (ht:P.underlying t=some (.slice e)) (hu:P.underlying u=some d) (hd:d=.string∨∃f,d=.slice f) (hi:P.info? e=some i) (hx:SrcOk P w i.size x 0 c) :
  (Builtin.append_ #[t,u] ty #[.slice none 0 0,x]).run P w=.ok (.slice none 0 0) w:=by
 rcases hd with rfl | ⟨f,rfl⟩ <;> simp [Builtin.append_,run_underlying ht,run_underlying hu,sizeOf,typeInfo,hi,hx.1,hx.2 w rfl]
theorem run_append_out (ht:P.underlying t=some (.slice e)) (hu:P.underlying u=some d) (hd:d=.string∨∃f,d=.slice f) (hi:P.info? e=some i) (hz:i.zero=some z) (hx:SrcOk P w i.size x n c) {base:Option Addr} {olds:Array Value}
  (ho:∀w1,w1.heap=w.heap→(Builtin.firstCells i.size sLen (.slice base sLen sCap)).run P w1=.ok olds w1) (hg:sCap < sLen+n) (h63:((sLen+n:Nat):Int)≤9223372036854775807)
  (hfit:(sLen+n) * i.bytes≤140737488355328) :
  (Builtin.append_ #[t,u] ty #[.slice base sLen sCap,x]).run P w=.ok (.slice (some ⟨w.heap.size,0,none⟩) (sLen+n) (grownCap w (sLen+n) sCap e))
   (w.drew.alloc (.cells (olds++c++Builtin.zeroCells z.cells (grownCap w (sLen+n) sCap e - (sLen+n))) e)):=by
 have hn:¬(sLen+n≤sCap):=by omega
 have h63':¬(9223372036854775807 < ((sLen:Int)+(n:Int))):=by omega
 have hf48:=growslice_fits hg hfit
 have h48':¬(281474976710656 < Builtin.nextslicecap (sLen+n) sCap * i.bytes):=by omega
 have e1:=hx.2 w.drew rfl
 have e2:=ho w.drew rfl
 rcases hd with rfl | ⟨f,rfl⟩ <;> simp [Builtin.append_,run_underlying ht,run_underlying hu,sizeOf,typeInfo,zeroValue,hi,hz,hx.1,hn,h63',h48',Question.forced,e1,e2,Go.newRow,grownCap]
theorem grow_row (hD:TypesOk P D) {G:Gh} {S:List Blk} {e:TypeId} (hkn:((D e).k matches .none)=false) (hR:Rel G w S) {zs:List V} (hsz:∀v ∈ zs,v.cells.length=(D e).size) {c:Array Value}
  (hs:Side G w (zs.flatMap V.cells) c) {z:Value} (hz:z.cells.size=(D e).size) {cap:Nat} (hcap:zs.length≤cap) :
  ∃G',VR G' (w.drew.alloc (.cells (c++Builtin.zeroCells z.cells (cap - zs.length)) e)) (.rows (some S.length) zs) (.slice (some ⟨w.heap.size,0,none⟩) zs.length cap) ∧
   Rel G' (w.drew.alloc (.cells (c++Builtin.zeroCells z.cells (cap - zs.length)) e)) (S++[.right (D e).size])∧Evol G w S G' (w.drew.alloc (.cells (c++Builtin.zeroCells z.cells (cap - zs.length)) e)) (S++[.right (D e).size]):=by
 have hd:=hR.drew
 have hs':Side G w.drew (zs.flatMap V.cells) c:=⟨hs.1,fun i v u a b=>(hs.2.1 i v u a b).ext hd.2.ext,hs.2.2⟩
 have hcs:c.size=zs.length * (D e).size:=by rw [←hs.1,flat_len hsz]
 obtain ⟨G',h1,h2,h3⟩:=hd.1.newRow hsz (rest:=Builtin.zeroCells z.cells (cap - zs.length)) hs' e cap hcap (by
  rw [size_zeroCells,hz,hcs,←Nat.add_mul]; exact Nat.mul_le_mul_right _ (by omega))
 exact ⟨G',h1,h2,hd.2.trans h3⟩
theorem grow_heap (hD:TypesOk P D) {G:Gh} {S:List Blk} {e:TypeId} (hkn:((D e).k matches .none)=false) (hR:Rel G w S) {cs:List V} {m:Nat} (hl:cs.length=m * (D e).size) {c:Array Value}
  (hs:Side G w cs c) {z:Value} (hz:z.cells.size=(D e).size) {cap:Nat} (hcap:m≤cap) :
  ∃G',VR G' (w.drew.alloc (.cells (c++Builtin.zeroCells z.cells (cap - m)) e)) (.heap S.length m) (.slice (some ⟨w.heap.size,0,none⟩) m cap) ∧
   Rel G' (w.drew.alloc (.cells (c++Builtin.zeroCells z.cells (cap - m)) e)) (S++[.cells (mkE D e) cs])∧Evol G w S G' (w.drew.alloc (.cells (c++Builtin.zeroCells z.cells (cap - m)) e)) (S++[.cells (mkE D e) cs]):=by
 have hd:=hR.drew
 have hs':Side G w.drew cs c:=⟨hs.1,fun i v u a b=>(hs.2.1 i v u a b).ext hd.2.ext,hs.2.2⟩
 obtain ⟨G',h1,h2,h3⟩:=hd.1.newHeap (rest:=Builtin.zeroCells z.cells (cap - m)) (sz:=(D e).size) (mk:=mkE D e) hs' e cap hcap (by
  rw [size_zeroCells,hz,←hs.1,hl,←Nat.add_mul]; exact Nat.mul_le_mul_right _ (by omega)) (fun m=>SzOk.of (b:=(D e).bld) (hD.small e) (by show mkE D e=_; rfl) m)
 exact ⟨G',h1,h2,hd.2.trans h3⟩
theorem src_rows (hD:TypesOk P D) {e:TypeId} {v:V} {k:List V→Prop} (h:srcRows D e v k):∃ys,k ys∧∀(G:Gh) (w:World) (x:Value),VR G w v x→(∀y ∈ ys,y.cells.length=(D e).size) →
  ∃c,SrcOk P w (D e).size x ys.length c∧Side G w (ys.flatMap V.cells) c:=by
 unfold srcRows at h
 split at h
 ·refine ⟨[],h,fun G w x hx _=>?_⟩
  cases hx
  exact ⟨#[],src_nil,rfl,by simp,by simp⟩
 ·rename_i tok ys
  refine ⟨ys,h,fun G w x hx hsz=>?_⟩
  cases hx with
  | rowsNil=>exact ⟨#[],src_nil,rfl,by simp,by simp⟩
  | rowsE=>exact ⟨#[],src_none,rfl,by simp,by simp⟩
  | rows vs hl hr hone hh hp hcap ht =>
   exact ⟨vs.toArray,src_slice (by rw [←hl,flat_len hsz]) hh,by simpa using hl,fun i v u a b=>hr i v u a (by simpa using b),by simpa using hone⟩
 ·rename_i s
  obtain ⟨hk,h⟩:=h
  refine ⟨_,h,fun G w x hx hsz=>?_⟩
  cases hx
  have hflat:(s.map fun b=>V.int .u8 (b.toNat:Int)).flatMap V.cells=s.map fun b=>V.int .u8 (b.toNat:Int):=by
   clear h hsz
   induction s with
   | nil=>rfl
   | cons b s ih=>simp only [List.map_cons,List.flatMap_cons,V.cells,ih,List.singleton_append]
  have hone:(D e).size=1∨s=[]:=by
   cases s with
   | nil=>exact .inr rfl
   | cons b s=>exact .inl (hsz (.int .u8 (b.toNat:Int)) (by simp)).symm
  have hsrc:SrcOk P w (D e).size (.string ⟨⟨s⟩⟩) (s.map fun b=>V.int .u8 (b.toNat:Int)).length (s.map fun b=>Value.int .u8 (b.toNat:Int)).toArray:=by
   rw [List.length_map]
   rcases hone with h1 | h1
   ·rw [h1]; exact src_str
   ·subst h1
    refine ⟨fun w1=>by simp [Builtin.lenOf]; rfl,fun w1 _=>?_⟩
    simp [Builtin.firstCells]
  refine ⟨_,hsrc,by rw [hflat]; simp,?_,by simp [Value.oneCell']⟩
  intro i v u hv hu
  rw [hflat] at hv
  simp at hv hu
  obtain ⟨b,hb,rfl⟩:=hv
  obtain ⟨b',hb',rfl⟩:=hu
  rw [hb] at hb'; cases hb'
  exact .int _ _
 ·exact h.elim
theorem src_cells {sz:Nat} {v:V} {S:List Blk} {k:Nat→List V→Prop} (h:srcCells v sz S k):∃m ys,k m ys∧ys.length=m * sz∧∀(G:Gh) (w:World) (x:Value),VR G w v x→Rel G w S →
  ∃c,SrcOk P w sz x m c∧Side G w ys c:=by
 unfold srcCells at h
 split at h
 ·refine ⟨0,[],h,by simp,fun G w x hx _=>?_⟩
  cases hx
  exact ⟨#[],src_nil,rfl,by simp,by simp⟩
 ·rename_i b n
  split at h
  ·rename_i sz' cs hS
   obtain ⟨rfl,hle,h⟩:=h
   refine ⟨n,_,h,by simp; omega,fun G w x hx hR=>?_⟩
   cases hx with
   | heapNil=>exact ⟨#[],src_nil,by simp,by simp,by simp⟩
   | heap hb hk hcap hlim =>
    obtain ⟨arr,ty,g1,g2,g3,g4,g5,g6⟩:=hR.live b _ hS rfl hk
    have hlen:(arr.toList.take (n * sz')).length=n * sz':=by simp; omega
    refine ⟨(arr.toList.take (n * sz')).toArray,src_slice hlen ?_,by simp; omega,?_,?_⟩
    ·intro i u hu
     rw [List.getElem?_take] at hu
     split at hu
     ·rw [cell_blk g1,Nat.zero_add]; simpa using hu
     ·cases hu
    ·intro i v u hv hu
     rw [List.getElem?_take] at hv
     simp only [List.getElem?_toArray] at hu
     rw [List.getElem?_take] at hu
     split at hv
     ·rename_i hi
      rw [if_pos hi] at hu
      exact (g6 i v u hv (by simpa using hu)).1
     ·cases hv
    ·intro u hu
     obtain ⟨i,hi,rfl⟩:=List.getElem_of_mem hu
     have hi':i < n * sz':=by simp at hi; omega
     have hci:i < cs.length:=by omega
     simp only [List.getElem_take]
     have:=(g6 i cs[i] arr[i] (List.getElem?_eq_getElem hci) (Array.getElem?_eq_getElem (by omega))).2
     simpa using this
  ·exact h.elim
 ·rename_i tok ys
  obtain ⟨hall,h⟩:=h
  have hsz:∀v ∈ ys,v.cells.length=sz:=fun v hv=>by simpa using List.all_eq_true.1 hall v hv
  refine ⟨ys.length,_,h,by rw [flat_len hsz],fun G w x hx _=>?_⟩
  cases hx with
  | rowsNil=>exact ⟨#[],src_nil,rfl,by simp,by simp⟩
  | rowsE=>exact ⟨#[],src_none,rfl,by simp,by simp⟩
  | rows vs hl hr hone hh hp hcap ht =>
   exact ⟨vs.toArray,src_slice (by rw [←hl,flat_len hsz]) hh,by simpa using hl,fun i v u a b=>hr i v u a (by simpa using b),by simpa using hone⟩
 ·exact h.elim
end
end
section
open Go
section
variable {P:Program} {D:Nat→TD}
theorem Side.append {G:Gh} {w:World} {cs ds:List V} {c d:Array Value} (h:Side G w cs c) (k:Side G w ds d):Side G w (cs++ds) (c++d):=by
 have h1:=h.1
 have k1:=k.1
 refine ⟨by simp; omega,?_,?_⟩
 ·intro i v u hv hu
  rcases Nat.lt_or_ge i cs.length with g | g
  ·rw [List.getElem?_append_left g] at hv
   rw [Array.getElem?_append_left (by omega)] at hu
   exact h.2.1 i v u hv hu
  ·rw [List.getElem?_append_right g] at hv
   rw [Array.getElem?_append_right (by omega)] at hu
   rw [h1] at hv
   exact k.2.1 _ v u hv hu
 ·intro u hu
  simp only [Array.toList_append,List.mem_append] at hu
  rcases hu with hu | hu
  ·exact h.2.2 u hu
  ·exact k.2.2 u hu
theorem Side.ext {G G':Gh} {w w':World} {cs:List V} {c:Array Value} (h:Side G w cs c) (he:Ext G w G' w'):Side G' w' cs c:=⟨h.1,fun i v u a b=>(h.2.1 i v u a b).ext he,h.2.2⟩
theorem row_in {G:Gh} {w:World} {S:List Blk} (hR:Rel G w S) {τ sz b off cap:Nat} {xs ys:List V} (hS:S[τ]?=some (.right sz)) (hxs:∀v ∈ xs,v.cells.length=sz) (hys:∀v ∈ ys,v.cells.length=sz) {vs:List Value}
  (hl:(xs.flatMap V.cells).length=vs.length) (hr:∀(i:Nat) (v:V) (u:Value),(xs.flatMap V.cells)[i]?=some v→vs[i]?=some u→VR G w v u) (hone:∀u ∈ vs,u.oneCell'=true) (hh:Held w b off vs)
  (hp:off+vs.length≤G.p b) (ht:TokOk G (some τ) b off xs.length cap vs.length) {c:Array Value} (hc:Side G w (ys.flatMap V.cells) c) (hle:xs.length+ys.length≤cap) {arr:Array Value} {ty:TypeId}
  (ha:w.heap[b]?=some (.cells arr ty (0,0))) :
  (off+xs.length * sz+c.size≤arr.size)∧∃G',VR G' (w.setRow b (arr.toList.take (off+xs.length * sz)++c.toList++arr.toList.drop (off+xs.length * sz+c.toList.length)).toArray) (.rows (some S.length) (xs++ys)) (.slice (some ⟨b,off,none⟩) (xs++ys).length cap) ∧
   Rel G' (w.setRow b (arr.toList.take (off+xs.length * sz)++c.toList++arr.toList.drop (off+xs.length * sz+c.toList.length)).toArray) (S.set τ .dead++[.right sz]) ∧
   Evol G w S G' (w.setRow b (arr.toList.take (off+xs.length * sz)++c.toList++arr.toList.drop (off+xs.length * sz+c.toList.length)).toArray) (S.set τ .dead++[.right sz]):=by
 obtain ⟨t1,t2,t3,t4,t5,t6⟩:=ht τ rfl
 obtain ⟨arr',ty',g1,g2,g3,g4⟩:=hR.live τ _ hS rfl t2
 rw [t3,ha] at g1
 cases g1
 subst t3
 rw [g4] at t5 t6
 have hvl:vs.length=xs.length * sz:=t5
 have hcl:c.size=ys.length * sz:=by rw [←hc.1,flat_len hys]
 have hm:off+(xs.length * sz+ys.length * sz)≤arr.size:=by
  have:(xs.length+ys.length) * sz≤cap * sz:=Nat.mul_le_mul_right _ hle
  rw [Nat.add_mul] at this
  omega
 have hfit:off+xs.length * sz+c.size≤arr.size:=by omega
 refine ⟨hfit,?_⟩
 have hpp:G.p (G.blk τ)=off+xs.length * sz:=by rw [g2,←t4,hvl]
 have hn:=hR.n
 have hcell:∀o,((arr.toList.take (off+xs.length * sz)++c.toList++arr.toList.drop (off+xs.length * sz+c.toList.length)).toArray)[o]?=if o < off+xs.length * sz then arr[o]? else if o < off+xs.length * sz+c.size then c[o - (off+xs.length * sz)]? else arr[o]?:=by
  intro o
  simp only [List.getElem?_toArray]
  by_cases h1:o < off+xs.length * sz
  ·rw [if_pos h1,List.append_assoc,List.getElem?_append_left (by simp; omega),List.getElem?_take,if_pos h1]; simp
  ·rw [if_neg h1]
   by_cases h2:o < off+xs.length * sz+c.size
   ·rw [if_pos h2,List.append_assoc,List.getElem?_append_right (by simp; omega),List.getElem?_append_left (by simp; omega)]
    have e:o - (arr.toList.take (off+xs.length * sz)).length=o - (off+xs.length * sz):=by simp; omega
    rw [e]; simp
   ·rw [if_neg h2,List.getElem?_append_right (by simp; omega),List.getElem?_drop]
    have e:off+xs.length * sz+c.toList.length+(o - (arr.toList.take (off+xs.length * sz)++c.toList).length)=o:=by simp; omega
    rw [e]; simp
 have h:=hR.move (j:=τ) (B':=.right sz) hS rfl t2 (but_setRow (cs:=(arr.toList.take (off+xs.length * sz)++c.toList++arr.toList.drop (off+xs.length * sz+c.toList.length)).toArray))
  (off+xs.length * sz+c.size) (G.lim τ) sz (off+xs.length * sz+c.size) (by omega) (fun o ho=>by
   rw [cell_blk (setRow_heap w _ arr _ ty _ ha),cell_blk ha,hcell o,if_pos (by omega)]) rfl (fun he=>by
   have hb:(G.push (G.blk τ) (off+xs.length * sz+c.size) (G.lim τ) sz (off+xs.length * sz+c.size)).blk G.n=G.blk τ:=by simp [Gh.push]
   refine ⟨_,ty,by rw [hb]; exact setRow_heap w _ arr _ ty _ ha,by simp [Gh.push],?_,by simp [Gh.push]⟩
   simp [Gh.push]; omega)
 refine ⟨_,?_,h.1,h.2⟩
 have hS2:=(show Side G w (xs.flatMap V.cells) vs.toArray from ⟨by simpa using hl,fun i v u a b=>hr i v u a (by simpa using b),by simpa using hone⟩).append hc
 rw [←List.flatMap_append] at hS2
 refine .rows (vs++c.toList) (by simpa using hS2.1) (fun i v u a b=>(hS2.2.1 i v u a (by
  have:(vs.toArray++c)=(vs++c.toList).toArray:=by apply Array.ext'; simp
  rw [this]; simpa using b)).ext h.2.ext) (fun u hu=>hS2.2.2 u (by simpa using hu)) ?_ ?_ (by simpa using hle) ?_
 ·intro i u hu
  rw [cell_blk (setRow_heap w _ arr _ ty _ ha),hcell]
  rcases Nat.lt_or_ge i vs.length with g | g
  ·rw [List.getElem?_append_left g] at hu
   rw [if_pos (by omega),←cell_blk ha]
   exact hh i u hu
  ·rw [List.getElem?_append_right g] at hu
   have hlt:i - vs.length < c.size:=by
    rcases Nat.lt_or_ge (i - vs.length) c.size with g' | g'
    ·exact g'
    ·rw [List.getElem?_eq_none (by simpa using g')] at hu; cases hu
   rw [if_neg (by omega),if_pos (by omega)]
   have e:off+i - (off+xs.length * sz)=i - vs.length:=by omega
   rw [e]; simpa using hu
 ·simp [Gh.push]; omega
 ·intro τ' hτ'
  cases hτ'
  simp [Gh.push,hn,hvl,hcl,Nat.add_mul]
  omega
theorem ev_append_row (hD:TypesOk P D) {e:TypeId} (hkn:((D e).k matches .none)=false) (hby:(D e).bytes≤4096) {t u ty:TypeId} (ht:P.underlying t=some (.slice e)) {d:TypeDesc} (hu:P.underlying u=some d)
  (hd:d=.string∨∃f,d=.slice f) {xs ys:List V} (hxs:∀v ∈ xs,v.cells.length=(D e).size) (hys:∀v ∈ ys,v.cells.length=(D e).size) (hb1:xs.length≤1073741824) (hb2:ys.length≤1073741824) {S S':List Blk} {s:V}
  (hs:(s=.nils∧xs=[]∧S'=S)∨∃τ,s=.rows (some τ) xs∧S[τ]?=some (.right (D e).size)∧S'=S.set τ .dead) (G:Gh) (w:World) (sc x:Value) (hsv:VR G w s sc) (hR:Rel G w S) {c:Array Value}
  (hsrc:SrcOk P w (D e).size x ys.length c) (hc:Side G w (ys.flatMap V.cells) c) :
  ∃r w' G',(Builtin.append_ #[t,u] ty #[sc,x]).run P w=.ok r w'∧VR G' w' (.rows (some S.length) (xs++ys)) r∧Rel G' w' (S'++[.right (D e).size])∧Evol G w S G' w' (S'++[.right (D e).size]):=by
 obtain ⟨i,z,hi,hisz,hiby,hz,_,_,hzs⟩:=ty_info hD hkn
 have hS'len:S'.length=S.length:=by rcases hs with ⟨_,_,rfl⟩ | ⟨τ,_,_,rfl⟩ <;> simp
 have hkill:Rel G w S'∧Evol G w S G w S':=by
  rcases hs with ⟨_,_,rfl⟩ | ⟨τ,_,_,rfl⟩
  ·exact ⟨hR,Evol.refl _ _ _⟩
  ·exact hR.kill τ
 have hbound:(xs.length+ys.length) * (D e).bytes≤140737488355328 :=
  Nat.le_trans (Nat.mul_le_mul (Nat.add_le_add hb1 hb2) hby) (by decide)
 have hall:∀v ∈ xs++ys,v.cells.length=(D e).size:=fun v hv=>(List.mem_append.1 hv).elim (hxs v) (hys v)
 have out:∀(base:Option Addr) (cap:Nat) (olds:Array Value),sc=.slice base xs.length cap→(∀w1,w1.heap=w.heap→(Builtin.firstCells (D e).size xs.length (.slice base xs.length cap)).run P w1=.ok olds w1) →
   Side G w (xs.flatMap V.cells) olds→cap < xs.length+ys.length →
   ∃r w' G',(Builtin.append_ #[t,u] ty #[sc,x]).run P w=.ok r w'∧VR G' w' (.rows (some S.length) (xs++ys)) r∧Rel G' w' (S'++[.right (D e).size])∧Evol G w S G' w' (S'++[.right (D e).size]):=by
  intro base cap olds hsc ho hos hcap
  have hrun:=run_append_out (ty:=ty) ht hu hd hi hz (by rw [hisz]; exact hsrc) (by rw [hisz]; exact ho) hcap (by omega) (by rw [hiby]; exact hbound)
  have hzs':=hos.append hc
  rw [←List.flatMap_append] at hzs'
  obtain ⟨G',h1,h2,h3⟩:=grow_row hD hkn hkill.1 hall hzs' hzs (cap:=grownCap w (xs.length+ys.length) cap e) (by rw [List.length_append]; exact grownCap_ge _ _ _ _)
  rw [hS'len,List.length_append] at h1
  rw [List.length_append] at h2 h3
  exact ⟨_,_,G',by rw [hsc]; exact hrun,h1,h2,hkill.2.trans h3⟩
 have none_:sc=.slice none 0 0→xs=[]→ys=[] →
   ∃r w' G',(Builtin.append_ #[t,u] ty #[sc,x]).run P w=.ok r w'∧VR G' w' (.rows (some S.length) (xs++ys)) r∧Rel G' w' (S'++[.right (D e).size])∧Evol G w S G' w' (S'++[.right (D e).size]):=by
  intro hsc hx0 hy0
  subst hx0 hy0
  have hrun:=run_append_zero (ty:=ty) ht hu hd hi (by rw [hisz]; exact hsrc)
  obtain ⟨h1,h2⟩:=hkill.1.pushNil (D e).size (.right (D e).size) (fun _ _ h=>by cases h)
  exact ⟨_,_,_,by rw [hsc]; exact hrun,.rowsNil (fun τ hτ=>by cases hτ; simp [Gh.pushNil,hR.n]),h1,hkill.2.trans h2⟩
 have nil_:sc=.slice none 0 0→xs=[] →
   ∃r w' G',(Builtin.append_ #[t,u] ty #[sc,x]).run P w=.ok r w'∧VR G' w' (.rows (some S.length) (xs++ys)) r∧Rel G' w' (S'++[.right (D e).size])∧Evol G w S G' w' (S'++[.right (D e).size]):=by
  intro hsc hx0
  by_cases hy0:ys=[]
  ·exact none_ hsc hx0 hy0
  ·have hpos:0 < ys.length:=List.length_pos_iff.2 hy0
   subst hx0
   exact out none 0 #[] hsc (fun w1 _=>run_firstCells_none w1 (D e).size 0 0 0) ⟨rfl,by simp,by simp⟩ (by simpa using hpos)
 rcases hs with ⟨rfl,rfl,rfl⟩ | ⟨τ,rfl,hSτ,rfl⟩
 ·cases hsv
  exact nil_ rfl rfl
 ·cases hsv with
  | rowsNil=>exact nil_ rfl rfl
  | @rows _ _ b off cap vs hl hr hone hh hp hcap htok =>
   by_cases hfit:xs.length+ys.length≤cap
   ·obtain ⟨t1,t2,t3,t4,t5,t6⟩:=htok τ rfl
    obtain ⟨arr,bt,g1,g2,g3,g4⟩:=hR.live τ _ hSτ rfl t2
    rw [t3] at g1
    obtain ⟨hle,G',h1,h2,h3⟩:=row_in hR hSτ hxs hys hl hr hone hh hp htok hc hfit g1
    have hrun:=run_append_in (ty:=ty) (sLen:=xs.length) (sCap:=cap) ht hu hd hi (by rw [hisz]; exact hsrc) g1 (fun k _ h=>by simp at h) hfit (by rw [hisz]; exact hle) hc.2.2
    rw [hisz] at hrun
    rw [List.length_append] at h1
    exact ⟨_,_,G',hrun,h1,h2,h3⟩
   ·have hvl:vs.length=xs.length * (D e).size:=by rw [←hl,flat_len hxs]
    exact out (some ⟨b,off,none⟩) cap vs.toArray rfl (fun w1 hw1=>run_firstCells_some w1 _ _ ⟨b,off,none⟩ xs.length cap vs hvl (fun j v hv=>by rw [addr_add,cell_heap hw1]; exact hh j v hv))
     ⟨by simpa using hl,fun i v u a b=>hr i v u a (by simpa using b),by simpa using hone⟩ (by omega)
end
end
section
open Go
section
variable {P:Program} {D:Nat→TD}
theorem heap_in {G:Gh} {w:World} {S:List Blk} (hR:Rel G w S) {b sz mk n cap:Nat} {cs ys:List V} (hS:S[b]?=some (.cells mk cs)) (hmk:sz=mk % 1000000) (hk:G.ok b=true) (hcs:cs.length=n * sz) (hlim:cap * sz≤G.lim b)
  {c:Array Value} (hc:Side G w ys c) {m:Nat} (hys:ys.length=m * sz) (hle:n+m≤cap) {arr:Array Value} {ty:TypeId × (Nat × Nat)} (ha:w.heap[G.blk b]?=some (.cells arr ty.1 ty.2)) :
  (0+n * sz+c.size≤arr.size)∧∃G',VR G' (w.setRow (G.blk b) (arr.toList.take (0+n * sz)++c.toList++arr.toList.drop (0+n * sz+c.toList.length)).toArray) (.heap S.length (n+m)) (.slice (some ⟨G.blk b,0,none⟩) (n+m) cap) ∧
   Rel G' (w.setRow (G.blk b) (arr.toList.take (0+n * sz)++c.toList++arr.toList.drop (0+n * sz+c.toList.length)).toArray) (S.set b .dead++[.cells mk (cs++ys)]) ∧
   Evol G w S G' (w.setRow (G.blk b) (arr.toList.take (0+n * sz)++c.toList++arr.toList.drop (0+n * sz+c.toList.length)).toArray) (S.set b .dead++[.cells mk (cs++ys)]):=by
 obtain ⟨arr',ty',g1,g2,g3,g4,g5,g6⟩:=hR.live b _ hS rfl hk
 rw [ha] at g1
 obtain ⟨ty1,ty2⟩:=ty
 obtain ⟨ty1',ty2'⟩:=ty'
 simp only at g1
 cases g1
 have hcl:c.size=m * sz:=by rw [←hc.1,hys]
 have hm:n * sz+m * sz≤cap * sz:=by rw [←Nat.add_mul]; exact Nat.mul_le_mul_right _ hle
 have hfit:0+n * sz+c.size≤arr.size:=by omega
 refine ⟨hfit,?_⟩
 have hn:=hR.n
 have hlen:(arr.toList.take (0+n * sz)++c.toList++arr.toList.drop (0+n * sz+c.toList.length)).length=arr.size:=by simp; omega
 have h:=hR.move (j:=b) (B':=.cells mk (cs++ys)) hS rfl hk (but_setRow (cs:=(arr.toList.take (0+n * sz)++c.toList++arr.toList.drop (0+n * sz+c.toList.length)).toArray))
  0 (G.lim b) sz 0 (by omega) (fun o ho=>by omega) rfl (fun he=>by
   have hb:(G.push (G.blk b) 0 (G.lim b) sz 0).blk G.n=G.blk b:=by simp [Gh.push]
   refine ⟨_,(ty1,ty2),by rw [hb]; exact setRow_heap w _ arr _ _ _ ha,by simp [Gh.push],by simp only [List.size_toArray,hlen]; simpa [Gh.push] using g3,by simp only [List.size_toArray,hlen,List.length_append]; omega,by rw [List.size_toArray,hlen]; exact ⟨by simpa [Gh.push] using hmk,g5.ty,g5.z,g5.fr⟩,?_⟩
   intro i v u hv hu
   simp only [List.getElem?_toArray] at hu
   rcases Nat.lt_or_ge i cs.length with g | g
   ·rw [List.getElem?_append_left g] at hv
    rw [List.append_assoc,List.getElem?_append_left (by simp; omega),List.getElem?_take,if_pos (by omega)] at hu
    exact ⟨(g6 i v u hv (by simpa using hu)).1.ext he,(g6 i v u hv (by simpa using hu)).2⟩
   ·rw [List.getElem?_append_right g] at hv
    have hlt:i - cs.length < ys.length:=by
     rcases Nat.lt_or_ge (i - cs.length) ys.length with g' | g'
     ·exact g'
     ·rw [List.getElem?_eq_none g'] at hv; cases hv
    rw [List.append_assoc,List.getElem?_append_right (by simp; omega),List.getElem?_append_left (by simp; omega)] at hu
    have e:i - (arr.toList.take (0+n * sz)).length=i - cs.length:=by simp; omega
    rw [e] at hu
    have hu':c[i - cs.length]?=some u:=by simpa using hu
    exact ⟨(hc.2.1 _ v u hv hu').ext he,hc.2.2 u (Array.mem_toList_iff.2 (Array.mem_of_getElem? hu'))⟩)
 refine ⟨_,?_,h.1,h.2⟩
 have hp:=VR.heap (G:=G.push (G.blk b) 0 (G.lim b) sz 0) (w:=(w.setRow (G.blk b) (arr.toList.take (0+n * sz)++c.toList++arr.toList.drop (0+n * sz+c.toList.length)).toArray)) (blk:=S.length) (len:=n+m) (cap:=cap)
  (by simp [Gh.push,hn]) (by simp [Gh.push,hn]) hle (by simpa [Gh.push,hn] using hlim)
 have hb:(G.push (G.blk b) 0 (G.lim b) sz 0).blk S.length=G.blk b:=by simp [Gh.push,hn]
 rw [hb] at hp
 exact hp
theorem mkE_mod (hD:TypesOk P D) (e:TypeId):mkE D e % 1000000=(D e).size:=by
 have:=hD.small e
 unfold mkE
 split <;> omega
theorem ev_append_heap (hD:TypesOk P D) {e:TypeId} (hkn:((D e).k matches .none)=false) (hby:(D e).bytes≤4096) {t u ty:TypeId} (ht:P.underlying t=some (.slice e)) {d:TypeDesc} (hu:P.underlying u=some d)
  (hd:d=.string∨∃f,d=.slice f) {cs ys:List V} {n m:Nat} (hcs:cs.length=n * (D e).size) (hys:ys.length=m * (D e).size) (hb1:n≤1073741824) (hb2:m≤1073741824) (hpos:0 < (D e).size) {S S':List Blk} {s:V}
  (hs:(s=.nils∧n=0∧S'=S)∨∃b,s=.heap b n∧S[b]?=some (.cells (mkE D e) cs)∧S'=S.set b .dead) (G:Gh) (w:World) (sc x:Value) (hsv:VR G w s sc) (hR:Rel G w S) {c:Array Value}
  (hsrc:SrcOk P w (D e).size x m c) (hc:Side G w ys c) :
  ∃r w' G',(Builtin.append_ #[t,u] ty #[sc,x]).run P w=.ok r w'∧VR G' w' (.heap S.length (n+m)) r∧Rel G' w' (S'++[.cells (mkE D e) (cs++ys)])∧Evol G w S G' w' (S'++[.cells (mkE D e) (cs++ys)]):=by
 obtain ⟨i,z,hi,hisz,hiby,hz,_,_,hzs⟩:=ty_info hD hkn
 have hS'len:S'.length=S.length:=by rcases hs with ⟨_,_,rfl⟩ | ⟨τ,_,_,rfl⟩ <;> simp
 have hkill:Rel G w S'∧Evol G w S G w S':=by
  rcases hs with ⟨_,_,rfl⟩ | ⟨τ,_,_,rfl⟩
  ·exact ⟨hR,Evol.refl _ _ _⟩
  ·exact hR.kill τ
 have hbound:(n+m) * (D e).bytes≤140737488355328 :=
  Nat.le_trans (Nat.mul_le_mul (Nat.add_le_add hb1 hb2) hby) (by decide)
 have hall:(cs++ys).length=(n+m) * (D e).size:=by rw [List.length_append,hcs,hys,Nat.add_mul]
 have out:∀(base:Option Addr) (cap:Nat) (olds:Array Value),sc=.slice base n cap→(∀w1,w1.heap=w.heap→(Builtin.firstCells (D e).size n (.slice base n cap)).run P w1=.ok olds w1) →
   Side G w cs olds→cap < n+m →
   ∃r w' G',(Builtin.append_ #[t,u] ty #[sc,x]).run P w=.ok r w'∧VR G' w' (.heap S.length (n+m)) r∧Rel G' w' (S'++[.cells (mkE D e) (cs++ys)])∧Evol G w S G' w' (S'++[.cells (mkE D e) (cs++ys)]):=by
  intro base cap olds hsc ho hos hcap
  have hrun:=run_append_out (ty:=ty) ht hu hd hi hz (by rw [hisz]; exact hsrc) (by rw [hisz]; exact ho) hcap (by omega) (by rw [hiby]; exact hbound)
  obtain ⟨G',h1,h2,h3⟩:=grow_heap hD hkn hkill.1 hall (hos.append hc) hzs (cap:=grownCap w (n+m) cap e) (grownCap_ge _ _ _ _)
  rw [hS'len] at h1
  exact ⟨_,_,G',by rw [hsc]; exact hrun,h1,h2,hkill.2.trans h3⟩
 have nil_:sc=.slice none 0 0→n=0 →
   ∃r w' G',(Builtin.append_ #[t,u] ty #[sc,x]).run P w=.ok r w'∧VR G' w' (.heap S.length (n+m)) r∧Rel G' w' (S'++[.cells (mkE D e) (cs++ys)])∧Evol G w S G' w' (S'++[.cells (mkE D e) (cs++ys)]):=by
  intro hsc hx0
  subst hx0
  have hc0:cs=[]:=List.eq_nil_of_length_eq_zero (by rw [hcs]; simp)
  by_cases hm0:m=0
  ·subst hm0
   have hy0:ys=[]:=List.eq_nil_of_length_eq_zero (by rw [hys]; simp)
   subst hc0 hy0
   have hrun:=run_append_zero (ty:=ty) ht hu hd hi (by rw [hisz]; exact hsrc)
   obtain ⟨h1,h2⟩:=hkill.1.pushNil (D e).size (.cells (mkE D e) []) (fun _ _ h=>by cases h; rfl)
   refine ⟨_,_,_,by rw [hsc]; exact hrun,.heapNil ?_,h1,hkill.2.trans h2⟩
   simp [Gh.pushNil,hR.n]
  ·subst hc0
   exact out none 0 #[] hsc (fun w1 _=>run_firstCells_none w1 (D e).size 0 0 0) ⟨rfl,by simp,by simp⟩ (by omega)
 rcases hs with ⟨rfl,rfl,rfl⟩ | ⟨b,rfl,hSb,rfl⟩
 ·cases hsv
  exact nil_ rfl rfl
 ·cases hsv with
  | heapNil=>exact nil_ rfl rfl
  | @heap _ _ cap hb hok hcap hlim =>
   obtain ⟨arr,bt,g1,g2,g3,g4,g5,g6⟩:=hR.live b _ hSb rfl hok
   have hsz:=mkE_mod hD e
   have hgs:G.sz b=(D e).size:=g5.eq.trans hsz
   rw [hgs] at hlim
   by_cases hfit:n+m≤cap
   ·obtain ⟨hle,G',h1,h2,h3⟩:=heap_in hR hSb hsz.symm hok hcs hlim hc hys hfit g1
    have hrun:=run_append_in (ty:=ty) (sLen:=n) (sCap:=cap) ht hu hd hi (by rw [hisz]; exact hsrc) g1 g5.fr hfit (by rw [hisz]; exact hle) hc.2.2
    rw [hisz] at hrun
    exact ⟨_,_,G',hrun,h1,h2,h3⟩
   ·have hlen:(arr.toList.take (n * (D e).size)).length=n * (D e).size:=by simp; omega
    refine out (some ⟨G.blk b,0,none⟩) cap (arr.toList.take (n * (D e).size)).toArray rfl (fun w1 hw1=>run_firstCells_some w1 _ _ ⟨G.blk b,0,none⟩ n cap _ hlen (fun j v hv=>?_)) (Side.of_get (by simp; omega) ?_) (by omega)
    ·rw [addr_add,cell_heap hw1,cell_blk g1,Nat.zero_add]
     rw [List.getElem?_take] at hv
     split at hv
     ·simpa using hv
     ·cases hv
    ·intro j v u hv hu
     simp only [List.getElem?_toArray] at hu
     rw [List.getElem?_take] at hu
     split at hu
     ·exact g6 j v u hv (by simpa using hu)
     ·cases hu
theorem map_eraseC_len (ys:List V):(ys.map eraseC).length=ys.length:=by simp
theorem ev_append (hD:TypesOk P D) {o:Oper} {t u:TypeId} {s x:Operand} {c:Call} (ho:o.op=.call c) (hb:c.callee=.builtin .append) (hts:c.argTypes=#[t,u]) (hargs:c.args=#[s,x]) {ρ:Operand→V} {S:List Blk}
  {k:V→List Blk→Prop} (h:evAppend D t u (ρ s) (ρ x) S k):∃v S',k v S'∧RunOk P o ρ S v S':=by
 have fin:∀(ev:Operand→Value) (w w':World) (r:Value),(Builtin.append_ #[t,u] o.type #[ev s,ev x]).run P w=.ok r w'→(execOp ev o).run P w=.ok (.value r) w':=by
  intro ev w w' r hr
  simp [execOp,ho,resolve,hb,hts,hargs,invoke,builtin,hr]
 have hops:∀(G:Gh) (ev:Operand→Value) (w:World),(∀y ∈ o.op.operands,VR G w (ρ y) (ev y))→VR G w (ρ s) (ev s)∧VR G w (ρ x) (ev x):=by
  intro G ev w hop
  exact ⟨hop s (by simp [ho,Op.operands,Call.operands,hb,hargs]),hop x (by simp [ho,Op.operands,Call.operands,hb,hargs])⟩
 unfold evAppend at h
 split at h
 ·rename_i e hk
  obtain ⟨hkn,hpos,hby,hku,h⟩:=h
  have ht:=ty_slc hD hk
  have hu:∃d,P.underlying u=some d∧(d=.string∨∃f,d=.slice f):=by
   cases hq:(D u).k with
   | slc f=>exact ⟨_,ty_slc hD hq,.inr ⟨f,rfl⟩⟩
   | str=>exact ⟨_,ty_str hD hq,.inl rfl⟩
   | _=>simp [hq] at hku
  obtain ⟨d,hu,hd⟩:=hu
  split at h
  ·
   suffices hmain:∀(m:Nat) (ys:List V),appCells D e (ρ s) (ρ x) S k m ys→ys.length=m * (D e).size→(∀(G:Gh) (w:World) (xc:Value),VR G w (ρ x) xc→Rel G w S→∃c,SrcOk P w (D e).size xc m c∧Side G w ys c) →
     ∃v S',k v S'∧RunOk P o ρ S v S' by
    unfold appW at h
    split at h
    ·rename_i l hxl
     obtain ⟨hk8,hs1,h⟩:=h
     have hsrcS:∀(G:Gh) (w:World) (xc:Value),VR G w (ρ x) xc→Rel G w S→∃c,SrcOk P w (D e).size xc l.length c∧Side G w (u8s l) c:=by
      intro G w xc hxc _
      rw [hxl] at hxc
      cases hxc
      rw [hs1]
      refine ⟨_,src_str,by simp [u8s],?_,by simp [Value.oneCell']⟩
      intro i v u hv hu
      simp [u8s] at hv hu
      obtain ⟨b,hb,rfl⟩:=hv
      obtain ⟨b',hb',rfl⟩:=hu
      rw [hb] at hb'; cases hb'
      exact .int _ _
     have hys:(u8s l).length=l.length * (D e).size:=by rw [hs1]; simp [u8s]
     split at h
     ·rename_i hsn
      by_cases hl0:l=[]
      ·subst hl0
       refine ⟨_,_,h.1 rfl,fun G ev w hop hR=>?_⟩
       obtain ⟨h1,h2⟩:=hops G ev w hop
       obtain ⟨cc,hc1,hc2⟩:=hsrcS G w _ h2 hR
       obtain ⟨i,z,hi,hisz,_⟩:=ty_info hD hkn
       rw [hsn] at h1
       generalize hes:ev s=es at h1
       cases h1
       have hrun:=run_append_zero (ty:=o.type) ht hu hd hi (by rw [hisz]; exact hc1)
       exact ⟨_,w,G,.inl (fin ev w w _ (by rw [hes]; exact hrun)),.nils,hR,Evol.refl _ _ _⟩
      ·exact hmain _ _ (by rw [hsn,hxl]; exact h.2 hl0) hys hsrcS
     ·exact hmain _ _ (by rw [hxl]; exact h) hys hsrcS
    ·obtain ⟨m,ys,h1,hyl,hsrc⟩:=src_cells h
     exact hmain m ys h1 hyl hsrc
   rintro m ys ⟨hm,h⟩ hyl hsrc
   have hyl':(ys.map eraseC).length=m * (D e).size:=by rw [map_eraseC_len,hyl]
   have go:∀(n:Nat) (cs:List V) (S':List Blk),cs.length=n * (D e).size→n≤1073741824→((ρ s=.nils∧n=0∧S'=S)∨∃b,ρ s=.heap b n∧S[b]?=some (.cells (mkE D e) cs)∧S'=S.set b .dead) →
     RunOk P o ρ S (.heap S.length (n+m)) (S'++[.cells (mkE D e) (cs++ys.map eraseC)]):=by
    intro n cs S' hcs hn hs G ev w hop hR
    obtain ⟨h1,h2⟩:=hops G ev w hop
    obtain ⟨cc,hc1,hc2⟩:=hsrc G w _ h2 hR
    obtain ⟨r,w',G',g1,g2,g3,g4⟩:=ev_append_heap hD hkn hby (ty:=o.type) ht hu hd hcs hyl' hn hm hpos hs G w (ev s) (ev x) h1 hR hc1 hc2.erase
    exact ⟨r,w',G',.inl (fin ev w w' r g1),g2,g3,g4⟩
   split at h
   ·rename_i hsv
    refine ⟨_,_,h,?_⟩
    have:=go 0 [] S (by simp) (by omega) (.inl ⟨hsv,rfl,rfl⟩)
    simpa using this
   ·rename_i b n hsv
    split at h
    ·rename_i sz cs hSb
     obtain ⟨rfl,hcs,hn,_,h⟩:=h
     exact ⟨_,_,h,go n cs (S.set b .dead) hcs hn (.inr ⟨b,hsv,hSb,rfl⟩)⟩
    ·exact h.elim
   ·exact h.elim
  ·obtain ⟨ys,⟨hm,hall,h⟩,hsrc⟩:=src_rows hD h
   have hys:∀v ∈ ys,v.cells.length=(D e).size:=fun v hv=>by simpa using List.all_eq_true.1 hall v hv
   have go:∀(xs:List V) (S':List Blk),(∀v ∈ xs,v.cells.length=(D e).size)→xs.length≤1073741824→((ρ s=.nils∧xs=[]∧S'=S)∨∃τ,ρ s=.rows (some τ) xs∧S[τ]?=some (.right (D e).size)∧S'=S.set τ .dead) →
     RunOk P o ρ S (.rows (some S.length) (xs++ys)) (S'++[.right (D e).size]):=by
    intro xs S' hxs hn hs G ev w hop hR
    obtain ⟨h1,h2⟩:=hops G ev w hop
    obtain ⟨cc,hc1,hc2⟩:=hsrc G w _ h2 hys
    obtain ⟨r,w',G',g1,g2,g3,g4⟩:=ev_append_row hD hkn hby (ty:=o.type) ht hu hd hxs hys hn hm hs G w (ev s) (ev x) h1 hR hc1 hc2
    exact ⟨r,w',G',.inl (fin ev w w' r g1),g2,g3,g4⟩
   split at h
   ·rename_i hsv
    refine ⟨_,_,h,?_⟩
    have:=go [] S (by simp) (by simp) (.inl ⟨hsv,rfl,rfl⟩)
    simpa using this
   ·rename_i τ xs hsv
    split at h
    ·rename_i sz hSτ
     obtain ⟨rfl,hn,hxa,h⟩:=h
     exact ⟨_,_,h,go xs (S.set τ .dead) (fun v hv=>by simpa using List.all_eq_true.1 hxa v hv) hn (.inr ⟨τ,hsv,hSτ,rfl⟩)⟩
    ·exact h.elim
   ·exact h.elim
 ·exact h.elim
theorem ev_makeSlice (hD:TypesOk P D) {o:Oper} {t:TypeId} {l c:Operand} (ho:o.op=.makeSlice t l c) {ρ:Operand→V} {S:List Blk} {k:V→List Blk→Prop} (h:evMakeSlice D t (ρ l) (ρ c) S k) :
  ∃v S',k v S'∧RunOk P o ρ S v S':=by
 unfold evMakeSlice at h
 split at h
 ·rename_i e a m b n hk hl hc
  obtain ⟨rfl,h0,hm,hkn,hpos,hby,hwr,h⟩:=h
  refine ⟨_,_,h,fun G ev w hop hR=>?_⟩
  have h1:=hop l (by simp [ho,Op.operands])
  have h2:=hop c (by simp [ho,Op.operands])
  rw [hl] at h1
  rw [hc] at h2
  generalize hcl:ev l=cl at h1
  generalize hcc:ev c=cc at h2
  cases h1; cases h2
  obtain ⟨i,z,hi,hisz,hiby,hz,_,_,hzs⟩:=ty_info hD hkn
  obtain ⟨z',hz',hzside,hzlen⟩:=zero_side hD hkn G w
  have hzeq:z'=z:=by
   have:(zeroValue e).run P w=.ok z w:=by simp [zeroValue,typeInfo,hi,hz]
   rw [this] at hz'; injection hz' with hz'; exact hz'.symm
  subst hzeq
  have hbz:(i.bytes:Int) * m≤281474976710656:=by
   rw [hiby]
   have h3:((D e).bytes:Int) * m≤4096 * 1073741824:=Int.mul_le_mul (by omega) hm h0 (by omega)
   omega
  have hrun:=run_make (P:=P) w t e i z' (ty_slc hD hk) hi hz a b m m h0 (Int.le_refl _) hbz (by omega)
  rw [hisz] at hrun
  have hx:∀x ∈ List.replicate m.toNat (V.agg (D e).zero),x.cells.length=(D e).size:=fun x hx=>by
   rw [List.eq_of_mem_replicate hx]; exact hzlen
  have hfl:(List.replicate m.toNat (D e).zero).flatten=(List.replicate m.toNat (V.agg (D e).zero)).flatMap V.cells:=by
   rw [List.flatMap_def,List.map_replicate]; rfl
  have hside:Side G w (List.replicate m.toNat (D e).zero).flatten (madeCells z'.cells (m.toNat * (D e).size)):=by
   rw [hfl]
   refine Side.of_get (by rw [flat_len hx,size_madeCells]; simp) ?_
   intro j v u hv hu
   have hj:j < m.toNat * (D e).size:=by
    rcases Nat.lt_or_ge j (m.toNat * (D e).size) with g | g
    ·exact g
    ·rw [List.getElem?_eq_none (by rw [flat_len hx]; simpa using g)] at hv; cases hv
   have hq:j / (D e).size < m.toNat:=(Nat.div_lt_iff_lt_mul hpos).2 hj
   have hr:j % (D e).size < (D e).size:=Nat.mod_lt _ hpos
   have hdm:j / (D e).size * (D e).size+j % (D e).size=j:=Nat.div_add_mod' j _
   have h1:=flat_get hx (j / (D e).size) (by simpa using hq) (j % (D e).size) hr
   rw [hdm,hv] at h1
   simp [List.getD,List.getElem?_replicate,hq,V.cells] at h1
   simp [madeCells,hj,hzs] at hu
   have hzj:z'.cells[j % (D e).size]?=some u:=by
    rw [Array.getElem?_eq_getElem (by omega)]
    rw [←hu]
    simp [getElem!_def,hzs,hr]
   exact ⟨hzside.2.1 _ v u h1.symm hzj,hzside.2.2 u (Array.mem_toList_iff.2 (Array.mem_of_getElem? hzj))⟩
  obtain ⟨G',g1,g2,g3⟩:=hR.newHeap (n:=m.toNat) (sz:=(D e).size) (rest:=#[]) hside e m.toNat (Nat.le_refl _) (by rw [size_madeCells]; simp) (fun m=>SzOk.small (hD.small e) e m)
  rw [Array.append_empty] at g1 g2 g3
  exact ⟨_,_,G',.inl (by simp only [execOp,ho,hcl,hcc,Sem.run_bind,hrun,Result.andThen_ok,Sem.run_pure]),g1,g2,g3⟩
 ·exact h.elim
end
end
end Go.Proofs.Ytldogccmhncnoaa
