/- A part of the proof: contracts of functions, or plain facts on which these lean. -/
import Derived.Test.YtldogccmhncnoaaMp3
namespace Go.Proofs.Ytldogccmhncnoaa
open Go
set_option linter.unusedVariables false
set_option linter.unusedSimpArgs false
set_option maxRecDepth 100000
set_option maxHeartbeats 16000000

section
open Go
section
variable {P:Program} {D:Nat→TD} (hD:TypesOk P D)
include hD
theorem ev_slice {o:Oper} {t:TypeId} {x:Operand} {lo hi:Option Operand} (ho:o.op=.slice t x lo hi none) {ρ:Operand→V} {k:V→Prop} (h:evSlice D t (ρ x) (lo.map ρ) (hi.map ρ) k):∃v,k v∧PureOk P o ρ v:=by
 have endOk:∀(y:Option Operand) (d:Nat) (q:Int→Prop),evEnd (y.map ρ) d q→∃n,q n∧∀(G:Gh) (ev:Operand→Value) (w:World),(∀z ∈ y,VR G w (ρ z) (ev z)) →
   (y=none∧n=d)∨(∃kk,y.map ev=some (.int kk n)):=by
  intro y d q hq
  cases y with
  | none=>exact ⟨d,hq,fun _ _ _ _=>.inl ⟨rfl,rfl⟩⟩
  | some z =>
   simp only [Option.map_some,evEnd] at hq
   split at hq
   ·rename_i heq; cases heq
   ·rename_i a n heq
    have hz:ρ z=.int a n:=by injection heq
    refine ⟨n,hq,fun G ev w hop=>.inr ?_⟩
    have h1:=hop z rfl
    rw [hz] at h1
    generalize hc:ev z=c at h1
    cases h1
    exact ⟨a,by simp [hc]⟩
   ·exact hq.elim
 have ends:∀(ev:Operand→Value) (w:World) (isS:Bool) (len cap:Nat) (l hh:Int),((lo=none∧l=(0:Nat))∨∃kk,lo.map ev=some (.int kk l))→((hi=none∧hh=len)∨∃kk,hi.map ev=some (.int kk hh)) →
   0≤l→l≤hh→hh≤cap→(Instr.sliceBounds isS len cap (lo.map ev) (hi.map ev) none).run P w=.ok (l.toNat,hh.toNat,cap) w:=by
  intro ev w isS len cap l hh hl hhi h0 hlh hcap
  have e1:0≤hh:=by omega
  have e2:l≤(hh.toNat:Int):=by omega
  rcases hl with ⟨hl,hl'⟩ | ⟨k1,hl⟩ <;> rcases hhi with ⟨hhi,hhi'⟩ | ⟨k2,hhi⟩
  ·subst hl hhi hl' hhi'
   simp [Instr.sliceBounds]
  ·subst hl hl'
   rw [hhi]
   simp [Instr.sliceBounds,Instr.sliceBound,asIntOf,e1,hcap]
  ·subst hhi hhi'
   rw [hl]
   simp [Instr.sliceBounds,Instr.sliceBound,asIntOf,h0,hlh]
  ·rw [hl,hhi]
   simp [Instr.sliceBounds,Instr.sliceBound,asIntOf,h0,e1,e2,hcap]
   intro hm; omega
 unfold evSlice at h
 split at h
 ·rename_i s hx
  obtain ⟨hk,h⟩:=h
  obtain ⟨hh,h,hh1⟩:=endOk hi _ _ h
  obtain ⟨l,h,hl1⟩:=endOk lo _ _ h
  obtain ⟨h0,hlh,hle,h⟩:=h
  refine ⟨_,h,fun G ev w hop=>?_⟩
  have h1:=hop x (by simp [ho,Op.operands])
  rw [hx] at h1
  generalize hc:ev x=c at h1
  cases h1
  have hb:=ends ev w false s.length s.length l hh (hl1 G ev w (fun z hz=>hop z (by cases hz; simp [ho,Op.operands]))) (hh1 G ev w (fun z hz=>hop z (by cases hz; simp [ho,Op.operands]))) h0 hlh hle
  have hsz:(⟨⟨s⟩⟩:ByteArray).size=s.length:=rfl
  refine ⟨.string ⟨⟨(s.take hh.toNat).drop l.toNat⟩⟩,?_,.str _⟩
  simp only [execOp,ho,hc,Instr.sliceAt,Instr.slice,Sem.run_bind,run_underlying (ty_str hD hk),Result.andThen_ok,Option.map_none,hsz,Option.isSome_none,Bool.false_eq_true,if_false,hb,Sem.run_pure]
  congr 3
  apply ByteArray.ext
  rw [ByteArray.data_extract]
  apply Array.ext'
  simp
  rw [List.drop_take]
 ·rename_i tok xs hx
  obtain ⟨⟨e,hk,hke,hall⟩,h⟩:=h
  obtain ⟨hh,h,hh1⟩:=endOk hi _ _ h
  obtain ⟨l,h,hl1⟩:=endOk lo _ _ h
  obtain ⟨h0,hlh,hle,h⟩:=h
  have hsz:∀v ∈ xs,v.cells.length=(D e).size:=fun v hv=>by simpa using List.all_eq_true.1 hall v hv
  refine ⟨_,h,fun G ev w hop=>?_⟩
  have h1:=hop x (by simp [ho,Op.operands])
  rw [hx] at h1
  generalize hc:ev x=c at h1
  have hlo:=hl1 G ev w (fun z hz=>hop z (by cases hz; simp [ho,Op.operands]))
  have hhi:=hh1 G ev w (fun z hz=>hop z (by cases hz; simp [ho,Op.operands]))
  cases h1 with
  | rowsNil =>
   have hh0:hh=0:=by simp at hle; omega
   have hl0:l=0:=by omega
   subst hh0 hl0
   have hb:=ends ev w true 0 0 0 0 hlo hhi (by omega) (by omega) (by omega)
   refine ⟨.slice none 0 0,?_,.rowsNil (fun τ hτ=>by cases hτ)⟩
   simp only [execOp,ho,hc,Instr.sliceAt,Instr.slice,Sem.run_bind,run_underlying (ty_slc hD hk),Result.andThen_ok,Option.map_none]
   rw [hb]
   simp [run_size hD hke]
  | @rowsE a cap =>
   have hh0:hh=0:=by simp at hle; omega
   have hl0:l=0:=by omega
   subst hh0 hl0
   have hb:=ends ev w true 0 cap 0 0 hlo hhi (by omega) (by omega) (by omega)
   refine ⟨.slice (some a) 0 cap,?_,.rowsE⟩
   simp only [execOp,ho,hc,Instr.sliceAt,Instr.slice,Sem.run_bind,run_underlying (ty_slc hD hk),Result.andThen_ok,Option.map_none]
   rw [hb]
   simp only [Result.andThen_ok,run_size hD hke,Sem.run_pure,Option.map_some]
   have e0:a.add 0=a:=rfl
   simp [e0]
  | @rows _ _ b off cap vs hl hr hone hh' hp hcap ht =>
   have hb:=ends ev w true xs.length cap l hh hlo hhi h0 hlh (by omega)
   have hlen:((xs.take hh.toNat).drop l.toNat).length=hh.toNat - l.toNat:=by simp; omega
   have hsz':∀v ∈ (xs.take hh.toNat),v.cells.length=(D e).size:=fun v hv=>hsz v (List.mem_of_mem_take hv)
   have hflat:((xs.take hh.toNat).drop l.toNat).flatMap V.cells=((xs.flatMap V.cells).take (hh.toNat * (D e).size)).drop (l.toNat * (D e).size):=by
    rw [flat_drop _ hsz',flat_take _ hsz]
   have hvl:vs.length=xs.length * (D e).size:=by rw [←hl,flat_len hsz]
   have hm1:l.toNat * (D e).size≤hh.toNat * (D e).size:=Nat.mul_le_mul_right _ (by omega)
   have hm2:hh.toNat * (D e).size≤vs.length:=by rw [hvl]; exact Nat.mul_le_mul_right _ (by omega)
   have hrun:(execOp ev o).run P w=.ok (.value (.slice (some (if cap=l.toNat then ⟨b,off,none⟩ else ⟨b,off+l.toNat * (D e).size,none⟩)) (hh.toNat - l.toNat) (cap - l.toNat))) w:=by
    simp only [execOp,ho,hc,Instr.sliceAt,Instr.slice,Sem.run_bind,run_underlying (ty_slc hD hk),Result.andThen_ok,Option.map_none]
    rw [hb]
    simp only [Result.andThen_ok,run_size hD hke,Sem.run_pure,Option.map_some,addr_add]
    congr 2
    split <;> rfl
   refine ⟨_,hrun,?_⟩
   rw [←hlen]
   have hcell:∀(i:Nat) (v:V) (u:Value),(((xs.take hh.toNat).drop l.toNat).flatMap V.cells)[i]?=some v→((vs.take (hh.toNat * (D e).size)).drop (l.toNat * (D e).size))[i]?=some u→VR G w v u:=by
    intro i v u hv hu
    rw [hflat,List.getElem?_drop,List.getElem?_take] at hv
    rw [List.getElem?_drop,List.getElem?_take] at hu
    split at hv
    ·rename_i hi
     rw [if_pos hi] at hu
     exact hr _ v u hv hu
    ·cases hv
   have hone':∀u ∈ (vs.take (hh.toNat * (D e).size)).drop (l.toNat * (D e).size),u.oneCell'=true:=fun u hu=>hone u (List.mem_of_mem_take (List.mem_of_mem_drop hu))
   have hll:(((xs.take hh.toNat).drop l.toNat).flatMap V.cells).length=((vs.take (hh.toNat * (D e).size)).drop (l.toNat * (D e).size)).length:=by
    rw [hflat]; simp [hl]
   by_cases hcl:cap=l.toNat
   ·rw [if_pos hcl]
    have hz:((vs.take (hh.toNat * (D e).size)).drop (l.toNat * (D e).size)).length=0:=by
     have:hh.toNat=l.toNat:=by omega
     simp [this]
    refine .rows _ hll hcell hone' ?_ (by omega) (by omega) (fun τ hτ=>by cases hτ)
    intro i u hu
    rw [List.getElem?_eq_none (by omega)] at hu
    cases hu
   ·rw [if_neg hcl]
    refine .rows _ hll hcell hone' ?_ ?_ (by omega) (fun τ hτ=>by cases hτ)
    ·intro i u hu
     rw [List.getElem?_drop,List.getElem?_take] at hu
     split at hu
     ·rw [Nat.add_assoc]
      exact hh' _ u hu
     ·cases hu
    ·simp; omega
 ·rename_i bb n hx
  obtain ⟨⟨e,hk,hke⟩,h⟩:=h
  obtain ⟨hh,h,hh1⟩:=endOk hi _ _ h
  obtain ⟨l,h,hl1⟩:=endOk lo _ _ h
  obtain ⟨rfl,h0,hle,h⟩:=h
  refine ⟨_,h,fun G ev w hop=>?_⟩
  have h1:=hop x (by simp [ho,Op.operands])
  rw [hx] at h1
  generalize hc:ev x=c at h1
  have hlo:=hl1 G ev w (fun z hz=>hop z (by cases hz; simp [ho,Op.operands]))
  have hhi:=hh1 G ev w (fun z hz=>hop z (by cases hz; simp [ho,Op.operands]))
  cases h1 with
  | heapNil hb =>
   have hh0:hh=0:=by simp at hle; omega
   subst hh0
   have hb':=ends ev w true 0 0 0 0 hlo hhi (by omega) (by omega) (by omega)
   refine ⟨.slice none 0 0,?_,.heapNil hb⟩
   simp only [execOp,ho,hc,Instr.sliceAt,Instr.slice,Sem.run_bind,run_underlying (ty_slc hD hk),Result.andThen_ok,Option.map_none]
   rw [hb']
   simp [run_size hD hke]
  | @heap _ _ cap hb hok hcap hlim =>
   have hb':=ends ev w true n cap 0 hh hlo hhi (by omega) h0 (by omega)
   have hrun:(execOp ev o).run P w=.ok (.value (.slice (some ⟨G.blk bb,0,none⟩) hh.toNat cap)) w:=by
    simp only [execOp,ho,hc,Instr.sliceAt,Instr.slice,Sem.run_bind,run_underlying (ty_slc hD hk),Result.andThen_ok,Option.map_none]
    rw [hb']
    simp only [Result.andThen_ok,run_size hD hke,Sem.run_pure,Option.map_some,addr_add]
    simp
   exact ⟨_,hrun,.heap hb hok (by omega) hlim⟩
 ·exact h.elim
end
theorem ev_min {P:Program} {o:Oper} {x y:Operand} {c:Call} (ho:o.op=.call c) (hb:c.callee=.builtin .min) (hx:c.args=#[x,y]) {ρ:Operand→V} {k:V→Prop}
  (h:evMin (ρ x) (ρ y) k):∃v,k v∧PureOk P o ρ v:=by
 unfold evMin at h
 split at h
 ·rename_i a m b n hxx hyy
  refine ⟨_,h,fun G ev w hop=>?_⟩
  have h1:=hop x (by simp [ho,Op.operands,Call.operands,hb,hx])
  have h2:=hop y (by simp [ho,Op.operands,Call.operands,hb,hx])
  rw [hxx] at h1
  rw [hyy] at h2
  generalize hc:ev x=cx at h1
  generalize hd:ev y=cy at h2
  cases h1; cases h2
  exact ⟨.int a (if n < m then n else m),by simp [execOp,ho,resolve,hb,hx,invoke,builtin,hc,hd,Builtin.min_,Builtin.min2],.int _ _⟩
 ·exact h.elim
theorem ev_max {P:Program} {o:Oper} {x y:Operand} {c:Call} (ho:o.op=.call c) (hb:c.callee=.builtin .max) (hx:c.args=#[x,y]) {ρ:Operand→V} {k:V→Prop}
  (h:evMax (ρ x) (ρ y) k):∃v,k v∧PureOk P o ρ v:=by
 unfold evMax at h
 split at h
 ·rename_i a m b n hxx hyy
  refine ⟨_,h,fun G ev w hop=>?_⟩
  have h1:=hop x (by simp [ho,Op.operands,Call.operands,hb,hx])
  have h2:=hop y (by simp [ho,Op.operands,Call.operands,hb,hx])
  rw [hxx] at h1
  rw [hyy] at h2
  generalize hc:ev x=cx at h1
  generalize hd:ev y=cy at h2
  cases h1; cases h2
  exact ⟨.int a (if n > m then n else m),by simp [execOp,ho,resolve,hb,hx,invoke,builtin,hc,hd,Builtin.max_,Builtin.max2],.int _ _⟩
 ·exact h.elim
theorem ev_min3 {P:Program} {o:Oper} {x y z:Operand} {c:Call} (ho:o.op=.call c) (hb:c.callee=.builtin .min) (hx:c.args=#[x,y,z]) {ρ:Operand→V} {k:V→Prop}
  (h:evMin (ρ x) (ρ y) fun u=>evMin u (ρ z) k):∃v,k v∧PureOk P o ρ v:=by
 unfold evMin at h
 split at h
 ·rename_i a m b n hxx hyy
  split at h
  ·rename_i a' m' b' n' hxx' hyy'
   cases hxx'
   refine ⟨_,h,fun G ev w hop=>?_⟩
   have h1:=hop x (by simp [ho,Op.operands,Call.operands,hb,hx])
   have h2:=hop y (by simp [ho,Op.operands,Call.operands,hb,hx])
   have h3:=hop z (by simp [ho,Op.operands,Call.operands,hb,hx])
   rw [hxx] at h1
   rw [hyy] at h2
   rw [hyy'] at h3
   generalize hc:ev x=cx at h1
   generalize hd:ev y=cy at h2
   generalize he:ev z=cz at h3
   cases h1; cases h2; cases h3
   exact ⟨_,by simp [execOp,ho,resolve,hb,hx,invoke,builtin,hc,hd,he,Builtin.min_,Builtin.min2],.int _ _⟩
  ·exact h.elim
 ·exact h.elim
def Side (G:Gh) (w:World) (cs:List V) (c:Array Value):Prop :=
 cs.length=c.size∧(∀(i:Nat) (v:V) (u:Value),cs[i]?=some v→c[i]?=some u→VR G w v u)∧∀u ∈ c.toList,u.oneCell'=true
theorem const_ok (G:Gh) (w:World) (u:Value):VR G w (constC u) u:=by
 unfold constC
 split
 ·exact .int _ _
 ·exact .bool _
 ·rename_i s
  obtain ⟨⟨l⟩⟩:=s
  exact .str l
 ·exact .nils
 ·exact .nilp
 ·exact .junk _
theorem constV_ok (G:Gh) (w:World) (u:Value):VR G w (constV u) u:=by
 unfold constV
 split
 ·rename_i cs
  split
  ·rename_i h
   refine .agg (by simp) ?_ (fun u hu=>List.all_eq_true.1 h u hu)
   intro i v u hv hu
   simp at hv
   obtain ⟨a,ha,rfl⟩:=hv
   rw [ha] at hu
   cases hu
   exact const_ok G w _
  ·exact .junk _
 ·exact const_ok G w _
theorem zero_side {P:Program} {D:Nat→TD} (hD:TypesOk P D) {t:TypeId} (h:((D t).k matches .none)=false) (G:Gh) (w:World) :
  ∃z,(zeroValue t).run P w=.ok z w∧Side G w (D t).zero z.cells∧(D t).zero.length=(D t).size:=by
 obtain ⟨i,z,hi,hs,hb,hz,hzz,hone,hsz⟩:=ty_info hD h
 refine ⟨z,by simp [zeroValue,typeInfo,hi,hz],⟨by rw [←hzz]; simp,?_,fun u hu=>List.all_eq_true.1 hone u hu⟩,by rw [←hzz]; simp [hsz]⟩
 intro j v u hv hu
 rw [←hzz] at hv
 simp at hv
 obtain ⟨a,ha,rfl⟩:=hv
 rw [ha] at hu
 cases hu
 exact const_ok G w _
theorem cells_side {G:Gh} {w:World} {v:V} {c:Value} (h:VR G w v c) (ho:v.cells.all V.one=true):Side G w v.cells c.cells:=by
 have one:∀(hv:v.cells=[v]) (hc:c.cells=#[c]) (hcc:c.oneCell'=true),Side G w v.cells c.cells:=by
  intro hv hc hcc
  rw [hv,hc]
  refine ⟨rfl,?_,by simpa using hcc⟩
  intro i a b ha hb
  cases i with
  | zero=>cases ha; cases hb; exact h
  | succ i=>simp at ha
 cases h with
 | agg hl hr hone=>exact ⟨hl,hr,hone⟩
 | tup=>simp [V.cells,V.one] at ho
 | junk=>simp [V.cells,V.one] at ho
 | _=>exact one rfl rfl rfl
theorem eraseC_ok {G:Gh} {w:World} {v:V} {c:Value} (h:VR G w v c):VR G w (eraseC v) c:=by
 cases h with
 | rows vs a1 a2 a3 a4 a5 a6 a7=>exact .rows vs a1 a2 a3 a4 a5 a6 (fun τ hτ=>by cases hτ)
 | rowsNil=>exact .rowsNil (fun τ hτ=>by cases hτ)
 | rowsE=>exact .rowsE
 | nils=>exact .rowsNil (fun τ hτ=>by cases hτ)
 | int=>exact .int _ _
 | bool=>exact .bool _
 | str=>exact .str _
 | agg a b c=>exact .agg a b c
 | tup a b=>exact .tup a b
 | heapNil a=>exact .heapNil a
 | heap a b c d=>exact .heap a b c d
 | ptr a b=>exact .ptr a b
 | eptr vs a b c d e=>exact .eptr vs a b c d e
 | nilp=>exact .nilp
 | fn a b=>exact .fn a b
 | junk=>exact .junk _
theorem erase1_ok {G:Gh} {w:World} {v:V} {c:Value} (h:VR G w v c):VR G w (erase1 v) c:=by
 cases h with
 | agg hl hr ho =>
  refine .agg (by simpa using hl) ?_ ho
  intro i a u ha hu
  simp at ha
  obtain ⟨b,hb,rfl⟩:=ha
  exact eraseC_ok (hr i b u hb hu)
 | rows vs a1 a2 a3 a4 a5 a6 a7=>exact eraseC_ok (.rows vs a1 a2 a3 a4 a5 a6 a7)
 | rowsNil=>exact .rowsNil (fun τ hτ=>by cases hτ)
 | rowsE=>exact .rowsE
 | nils=>exact .rowsNil (fun τ hτ=>by cases hτ)
 | int=>exact .int _ _
 | bool=>exact .bool _
 | str=>exact .str _
 | tup a b=>exact .tup a b
 | heapNil a=>exact .heapNil a
 | heap a b c d=>exact .heap a b c d
 | ptr a b=>exact .ptr a b
 | eptr vs a b c d e=>exact .eptr vs a b c d e
 | nilp=>exact .nilp
 | fn a b=>exact .fn a b
 | junk=>exact .junk _
theorem erase1_cells (v:V):(erase1 v).cells=v.cells.map eraseC:=by cases v <;> rfl
theorem Side.erase {G:Gh} {w:World} {cs:List V} {c:Array Value} (h:Side G w cs c):Side G w (cs.map eraseC) c:=by
 refine ⟨by simpa using h.1,?_,h.2.2⟩
 intro i a u ha hu
 simp at ha
 obtain ⟨b,hb,rfl⟩:=ha
 exact eraseC_ok (h.2.1 i b u hb hu)
theorem Side.splice {G:Gh} {w:World} {cs xs:List V} {c x:Array Value} (h:Side G w cs c) (hx:Side G w xs x) {off:Nat} (hle:off+xs.length≤cs.length) :
  Side G w (splice cs off xs) (x.zipIdx.foldl (fun cs (c,j)=>cs.setIfInBounds (off+j) c) c):=by
 obtain ⟨g1,g2⟩:=Great.foldl_set off x.toList 0 c
 have he:x.zipIdx.foldl (fun cs (c,j)=>cs.setIfInBounds (off+j) c) c=(x.toList.zipIdx 0).foldl (fun cs (y:Value × Nat)=>cs.setIfInBounds (off+y.2) y.1) c:=by
  rw [←Array.foldl_toList,Array.toList_zipIdx]
 rw [he]
 have hcl:=h.1
 have hxl:=hx.1
 refine ⟨by rw [splice_len _ _ _ hle,g1,hcl],?_,?_⟩
 ·intro i v u hv hu
  rw [splice_get _ _ _ _ hle] at hv
  rw [g2 i] at hu
  simp only [Nat.add_zero] at hu
  by_cases hi:off≤i∧i < off+xs.length
  ·rw [if_pos hi] at hv
   rw [if_pos ⟨hi.1,by simp; omega,by omega⟩] at hu
   exact hx.2.1 _ v u hv (by simpa using hu)
  ·rw [if_neg hi] at hv
   rw [if_neg (by simp; omega)] at hu
   exact h.2.1 i v u hv hu
 ·intro u hu
  obtain ⟨i,hi,rfl⟩:=List.getElem_of_mem hu
  have hu2:((x.toList.zipIdx 0).foldl (fun cs (y:Value × Nat)=>cs.setIfInBounds (off+y.2) y.1) c)[i]?=some ((x.toList.zipIdx 0).foldl (fun cs (y:Value × Nat)=>cs.setIfInBounds (off+y.2) y.1) c).toList[i]:=by
   simp at hi ⊢
  rw [g2 i] at hu2
  split at hu2
  ·exact hx.2.2 _ (List.mem_of_getElem? hu2)
  ·exact h.2.2 _ (by have:=Array.mem_of_getElem? hu2; simpa using this)
end
section
open Go
section
variable {P:Program} {D:Nat→TD}
theorem fill_side (fs:List (Nat × Nat × TypeId)) (place:Nat→Option (Nat × Nat)) (hpl:∀i x,fs[i]?=some x→place i=some (x.1,x.2.1)) (ρ:Operand→V):∀(L:List (Nat × Operand)) (cs:List V) (k:List V→Prop),
  evFill fs (L.map fun p=>(p.1,ρ p.2)) cs k→∃cs',k cs'∧∀(G:Gh) (w:World) (ev:Operand→Value) (c:Array Value),Side G w cs c→(∀p ∈ L,VR G w (ρ p.2) (ev p.2)) →
   ∃c',Instr.fill place c (L.map fun p=>(p.1,ev p.2))=some c'∧Side G w cs' c'
 | [],cs,k,h=>⟨cs,h,fun G w ev c hc _=>⟨c,rfl,hc⟩⟩
 | (i,x) :: L,cs,k,h=>by
  simp only [List.map_cons,evFill] at h
  split at h
  ·rename_i off sz u hf
   obtain ⟨hlen,hle,hone,h⟩:=h
   obtain ⟨cs',hk,ih⟩:=fill_side fs place hpl ρ L _ k h
   refine ⟨cs',hk,fun G w ev c hc hop=>?_⟩
   have hx:=cells_side (hop (i,x) List.mem_cons_self) hone
   have hsp:=hc.splice hx (off:=off) (by rw [hlen]; exact hle)
   obtain ⟨c',h1,h2⟩:=ih G w ev _ hsp (fun p hp=>hop p (List.mem_cons_of_mem _ hp))
   refine ⟨c',?_,h2⟩
   simp only [List.map_cons]
   unfold Instr.fill
   rw [hpl i _ hf]
   simp only
   have hxs:(ev x).cells.size=sz:=by rw [←hlen,hx.1]
   rw [if_neg (by simp [hxs]; rw [←hc.1]; exact hle)]
   exact h1
  ·exact h.elim
theorem mapM_places (fs:List (Nat × Nat × TypeId)):∀(fields:List Field) (fs:List (Nat × Nat × TypeId)),fields.map (fun f=>(f.offset,f.type))=fs.map (fun x=>(x.1,x.2.2)) →
  (∀x ∈ fs,∃i,P.info? x.2.2=some i∧i.size=x.2.1)→fields.mapM (fun f=>(P.info? f.type).map fun i=>(f.offset,i.size))=some (fs.map fun x=>(x.1,x.2.1))
 | [],[],_,_=>rfl
 | [],_ :: _,h,_=>by simp at h
 | _ :: _,[],h,_=>by simp at h
 | f :: fields,x :: fs,h,hs=>by
  simp only [List.map_cons,List.cons.injEq,Prod.mk.injEq] at h
  obtain ⟨⟨h1,h2⟩,h3⟩:=h
  obtain ⟨i,hi,hsz⟩:=hs x List.mem_cons_self
  have ih:=mapM_places fs fields fs h3 (fun y hy=>hs y (List.mem_cons_of_mem _ hy))
  simp [List.mapM_cons,h2,hi,ih,h1,hsz]
theorem ev_build (hD:TypesOk P D) {o:Oper} {t:TypeId} {parts:Array (Nat × Operand)} (ho:o.op=.build t parts) {ρ:Operand→V} {k:V→Prop} (h:evBuild D t (parts.toList.map fun p=>(p.1,ρ p.2)) k):∃v,k v∧PureOk P o ρ v:=by
 unfold evBuild at h
 split at h
 ·rename_i fs hk
  obtain ⟨hz,h⟩:=h
  obtain ⟨fields,hun,hm,hs,_⟩:=ty_strct hD hk
  have hkn:((D t).k matches .none)=false:=by simp [hk]
  obtain ⟨cs',hkv,hfill⟩:=fill_side fs (fun i=>((fs.map fun x=>(x.1,x.2.1)).toArray)[i]?) (fun i x hx=>by simp [hx]) ρ parts.toList _ _ h
  refine ⟨_,hkv,fun G ev w hop=>?_⟩
  obtain ⟨i,z,hi,_,_,hzz,_⟩:=ty_info hD hkn
  obtain ⟨z',hz',hside,_⟩:=zero_side hD hkn G w
  have hzeq:z'=z:=by
   have:(zeroValue t).run P w=.ok z w:=by simp [zeroValue,typeInfo,hi,hzz]
   rw [this] at hz'; injection hz' with hz'; exact hz'.symm
  subst hzeq
  obtain ⟨c',hc',hsc⟩:=hfill G w ev z'.cells hside (fun p hp=>hop p.2 (by
   simp only [ho,Op.operands,List.mem_toArray,List.mem_map]
   simp
   exact ⟨p.1,by simpa using hp⟩))
  have hb:P.built t (parts.map fun (i,x)=>(i,ev x)).toList=some c':=by
   have hmp:=mapM_places (P:=P) fs fields.toList fs hm hs
   simp only [Program.built,hi,hun,hzz,hmp]
   rw [Array.toList_map]
   exact hc'
  exact ⟨.agg c',by simp [execOp,ho,run_build w t _ c' hb],.agg hsc.1 hsc.2.1 hsc.2.2⟩
 ·exact h.elim
theorem but_setRow {w:World} {g:Nat} {cs:Array Value}:But w (w.setRow g cs) g :=
 ⟨by simp [World.setRow],rfl,rfl,rfl,fun k hk=>setRow_other w g k cs hk⟩
theorem Rel.write {G:Gh} {w:World} {S:List Blk} (hR:Rel G w S) {b sz:Nat} {cs xs:List V} (hS:S[b]?=some (.cells sz cs)) (hk:G.ok b=true) {vs:List Value} (hx:Side G w xs vs.toArray) {off:Nat}
  (hle:off+xs.length≤cs.length) {arr:Array Value} {ty:TypeId × (Nat × Nat)} (ha:w.heap[G.blk b]?=some (.cells arr ty.1 ty.2)) :
  Rel G (w.setRow (G.blk b) (arr.toList.take off++vs++arr.toList.drop (off+vs.length)).toArray) (S.set b (.cells sz (splice cs off xs))) ∧
  Evol G w S G (w.setRow (G.blk b) (arr.toList.take off++vs++arr.toList.drop (off+vs.length)).toArray) (S.set b (.cells sz (splice cs off xs))):=by
 obtain ⟨arr',ty',h1,h2,h3,h4,h5,h6⟩:=hR.live b _ hS rfl hk
 rw [ha] at h1
 obtain ⟨ty1,ty2⟩:=ty
 obtain ⟨ty1',ty2'⟩:=ty'
 simp only at h1
 cases h1
 have hxl:xs.length=vs.length:=by simpa using hx.1
 refine hR.touch hS rfl hk but_setRow h2 rfl (fun he=>?_)
 have hsize:(arr.toList.take off++vs++arr.toList.drop (off+vs.length)).length=arr.size:=by
  simp; omega
 refine ⟨_,(ty1,ty2),setRow_heap w _ arr _ _ _ ha,h2,by simp only [List.size_toArray]; omega,by simp only [List.size_toArray,splice_len _ _ _ hle]; omega,by rw [List.size_toArray,hsize]; exact h5,?_⟩
 intro i v u hv hu
 rw [splice_get _ _ _ _ hle] at hv
 simp only [List.getElem?_toArray] at hu
 by_cases hi:off≤i∧i < off+xs.length
 ·rw [if_pos hi] at hv
  rw [List.append_assoc,List.getElem?_append_right (by simp; omega),List.getElem?_append_left (by simp; omega)] at hu
  have e:i - (arr.toList.take off).length=i - off:=by simp; omega
  rw [e] at hu
  exact ⟨(hx.2.1 _ v u hv (by simpa using hu)).ext he,hx.2.2 u (by simpa using List.mem_of_getElem? hu)⟩
 ·rw [if_neg hi] at hv
  have hu':arr[i]?=some u:=by
   rcases Nat.lt_or_ge i off with g | g
   ·rw [List.append_assoc,List.getElem?_append_left (by simp; omega),List.getElem?_take,if_pos g] at hu
    simpa using hu
   ·rw [List.getElem?_append_right (by simp; omega),List.getElem?_drop] at hu
    have e:off+vs.length+(i - (arr.toList.take off++vs).length)=i:=by simp; omega
    rw [e] at hu
    simpa using hu
  exact ⟨(h6 i v u hv hu').1.ext he,(h6 i v u hv hu').2⟩
theorem run_storeCells_fr (g o:Nat) (t:TypeId) (fr:Nat × Nat):∀(vs:List Value) (i:Nat) (cur:Array Value) (w:World),w.heap[g]?=some (.cells cur t fr)→(∀k,k < cur.size→¬(fr.1≤k∧k < fr.2))→o+i+vs.length≤cur.size→(∀v ∈ vs,v.oneCell'=true) →
  (storeCells ⟨g,o,none⟩ vs i).run P w=.ok () (w.setRow g (cur.toList.take (o+i)++vs++cur.toList.drop (o+i+vs.length)).toArray)
 | [],i,cur,w,hg,_,_,_=>by
  simp only [storeCells,List.append_nil,List.length_nil,Nat.add_zero,List.take_append_drop,Array.toArray_toList]
  rw [setRow_self w g cur t fr hg]
  rfl
 | v :: rest,i,cur,w,hg,hfr,hl,h1=>by
  have hi:o+i < cur.size:=by simp at hl; omega
  have hadd:(⟨g,o,none⟩:Addr).add i=⟨g,o+i,none⟩:=by unfold Addr.add; split <;> simp_all
  have hcell:w.cell? ⟨g,o+i,none⟩=some cur[o+i]:=by simp [World.cell?,hg,hi]
  have hfro:w.frozen? ⟨g,o+i,none⟩=false:=by
   have:=hfr (o+i) hi
   simp only [World.frozen?,hg]
   simp only [Bool.and_eq_false_iff,decide_eq_false_iff_not]
   omega
  have hst:(store ((⟨g,o,none⟩:Addr).add i) v).run P w=.ok () (w.setRow g (cur.setIfInBounds (o+i) v)):=by
   rw [hadd,run_store P w _ v _ (h1 v (by simp)),hcell]
   simp [hfro,setCell_eq_setRow w g (o+i) cur t fr v hg]
  have ih:=run_storeCells_fr g o t fr rest (i+1) (cur.setIfInBounds (o+i) v) (w.setRow g (cur.setIfInBounds (o+i) v)) (setRow_heap w g cur _ t _ hg) (by simpa using hfr) (by simp at hl ⊢; omega) (fun x hx=>h1 x (by simp [hx]))
  simp only [storeCells,Sem.run_bind,hst,Result.andThen_ok,ih,setRow_setRow]
  congr 3
  have e:=list_seg_step cur.toList (o+i) v rest (by simp at hl ⊢; omega)
  simpa [Array.toList_setIfInBounds,Nat.add_assoc] using e
theorem run_storeVar (hD:TypesOk P D) {t:TypeId} (hkn:((D t).k matches .none)=false) {w:World} {g o:Nat} {v:Value} {cur:Array Value} {ty:TypeId × (Nat × Nat)} (hg:w.heap[g]?=some (.cells cur ty.1 ty.2)) (hfr:∀k,k < cur.size→¬(ty.2.1≤k∧k < ty.2.2))
  (hs:v.cells.size=(D t).size) (hle:o+v.cells.size≤cur.size) (h1:∀u ∈ v.cells.toList,u.oneCell'=true) :
  (Instr.storeAt t (.pointer (some ⟨g,o,none⟩)) v).run P w=.ok () (w.setRow g (cur.toList.take o++v.cells.toList++cur.toList.drop (o+v.cells.toList.length)).toArray):=by
 have hst:=run_storeCells_fr (P:=P) g o ty.1 ty.2 v.cells.toList 0 cur w hg hfr (by simpa using hle) h1
 simp only [Nat.add_zero] at hst
 simp only [Instr.storeAt,Instr.sureAddr,storeVar,Sem.run_bind,Sem.run_pure,Result.andThen_ok,run_size hD hkn]
 rw [if_neg (by simp [hs])]
 exact hst
theorem ev_store (hD:TypesOk P D) {o:Oper} {t:TypeId} {a x:Operand} (ho:o.op=.store t a x) {ρ:Operand→V} {S:List Blk} {k:List Blk→Prop} (h:evStore D t (ρ a) (ρ x) S k):∃S',k S'∧RunOk P o ρ S .junk S':=by
 unfold evStore at h
 split at h
 ·rename_i b off ha
  split at h
  ·rename_i sz cs hS
   obtain ⟨hkn,hlen,hone,hle,h⟩:=h
   refine ⟨_,h,fun G ev w hop hR=>?_⟩
   have h1:=hop a (by simp [ho,Op.operands])
   have h2:=hop x (by simp [ho,Op.operands])
   rw [ha] at h1
   generalize hc:ev a=c at h1
   cases h1 with
   | ptr hb hk =>
    obtain ⟨arr,ty,g1,g2,g3,g4,g5,g6⟩:=hR.live b _ hS rfl hk
    have hx:=cells_side h2 hone
    have hxs:(ev x).cells.size=(ρ x).cells.length:=hx.1.symm
    have hrun:=run_storeVar hD hkn (v:=ev x) (o:=off) g1 g5.fr (by rw [hxs,hlen]) (by rw [hxs]; omega) hx.2.2
    have hsd:Side G w (if sz % 1000000=0 then (ρ x).cells else (ρ x).cells.map eraseC) (ev x).cells.toList.toArray:=by
     split
     ·simpa using hx
     ·simpa using hx.erase
    have hw:=hR.write hS hk hsd (off:=off) (by split <;> simpa using hle) g1
    refine ⟨undef,_,G,.inr ⟨?_,rfl⟩,.junk _,hw.1,hw.2⟩
    simp only [execOp,ho,hc,Sem.run_bind,hrun,Result.andThen_ok,Sem.run_pure]
  ·exact h.elim
 ·exact h.elim
theorem Rel.newCells {G:Gh} {w:World} {S:List Blk} (hR:Rel G w S) {cs:List V} {arr:Array Value} (ty:TypeId) (hs:Side G w cs (arr.extract 0 cs.length)) (hle:cs.length≤arr.size) (sz mk lim:Nat) (hmk:SzOk sz mk (ty,(0,0)) arr.size) (hl:lim≤arr.size) :
  Rel (G.push w.heap.size 0 lim sz 0) (w.alloc (.cells arr ty)) (S++[.cells mk cs])∧Evol G w S (G.push w.heap.size 0 lim sz 0) (w.alloc (.cells arr ty)) (S++[.cells mk cs]):=by
 refine hR.pushNew (w':=w.alloc (.cells arr ty)) (by simp) (fun k hk=>heap_alloc_old w _ k hk) rfl rfl rfl 0 lim sz 0 _ (fun he=>?_)
 have hb:(G.push w.heap.size 0 lim sz 0).blk G.n=w.heap.size:=by simp [Gh.push]
 refine ⟨arr,(ty,(0,0)),by rw [hb]; exact heap_alloc_new w _,by simp [Gh.push],by simpa [Gh.push] using hl,hle,by simpa [Gh.push] using hmk,?_⟩
 intro i v u hv hu
 have hi:i < cs.length:=by
  rcases Nat.lt_or_ge i cs.length with g | g
  ·exact g
  ·rw [List.getElem?_eq_none g] at hv; cases hv
 have hu':(arr.extract 0 cs.length)[i]?=some u:=by
  rw [Array.getElem?_extract]; simp; exact ⟨by omega,hu⟩
 exact ⟨(hs.2.1 i v u hv hu').ext he,hs.2.2 u (Array.mem_toList_iff.2 (Array.mem_of_getElem? hu'))⟩
theorem Rel.newVar {G:Gh} {w:World} {S:List Blk} (hR:Rel G w S) {cs:List V} {arr:Array Value} (ty:TypeId) (hs:Side G w cs arr) (b:Bool) :
  ∃G',VR G' (w.alloc (.cells arr ty)) (.ptr S.length 0) (.pointer (some ⟨w.heap.size,0,none⟩))∧Rel G' (w.alloc (.cells arr ty)) (S++[.cells (if b then 1000000 * (ty+1) else 0) cs])∧Evol G w S G' (w.alloc (.cells arr ty)) (S++[.cells (if b then 1000000 * (ty+1) else 0) cs]):=by
 have hex:arr.extract 0 cs.length=arr:=by rw [hs.1]; simp
 have h:=hR.newCells ty (by rw [hex]; exact hs) (by rw [hs.1]; exact Nat.le_refl _) 0 (if b then 1000000 * (ty+1) else 0) 0 (SzOk.of (b:=b) (by decide) (by unfold mkT; split <;> rfl) _) (Nat.zero_le _)
 refine ⟨_,?_,h.1,h.2⟩
 have hp:=VR.ptr (G:=G.push w.heap.size 0 0 0 0) (w:=w.alloc (.cells arr ty)) (blk:=S.length) (off:=0) (by simp [Gh.push,hR.n]) (by simp [Gh.push,hR.n])
 have hb:(G.push w.heap.size 0 0 0 0).blk S.length=w.heap.size:=by simp [Gh.push,hR.n]
 rw [hb] at hp
 exact hp
theorem ev_alloc (hD:TypesOk P D) {o:Oper} {t:TypeId} (ho:o.op=.alloc t) (ρ:Operand→V) (S:List Blk) (hkn:((D t).k matches .none)=false):RunOk P o ρ S (.ptr S.length 0) (S++[.cells (if (D t).bld then 1000000 * (t+1) else 0) (D t).zero]):=by
 intro G ev w hop hR
 obtain ⟨z,hz,hside,_⟩:=zero_side hD hkn G w
 obtain ⟨G',h1,h2,h3⟩:=hR.newVar t hside (D t).bld
 refine ⟨_,_,G',.inl ?_,h1,h2,h3⟩
 simp [execOp,ho,Instr.alloc,hz,newVar,newRow]
theorem ev_box {o:Oper} {t:TypeId} {x:Operand} (ho:o.op=.box t x) (ρ:Operand→V) (S:List Blk) (hone:(ρ x).cells.all V.one=true):RunOk P o ρ S (.ptr S.length 0) (S++[.cells 0 (ρ x).cells]):=by
 intro G ev w hop hR
 have h1:=hop x (by simp [ho,Op.operands])
 obtain ⟨G',h2,h3,h4⟩:=hR.newVar t (cells_side h1 hone) false
 refine ⟨_,_,G',.inl ?_,h2,h3,h4⟩
 simp [execOp,ho,Instr.box,newVar,newRow]
end
end
section
open Go
section
variable {P:Program} {D:Nat→TD}
theorem Side.of_get {G:Gh} {w:World} {cs:List V} {c:Array Value} (hl:cs.length=c.size) (h:∀(i:Nat) (v:V) (u:Value),cs[i]?=some v→c[i]?=some u→VR G w v u∧u.oneCell'=true):Side G w cs c:=by
 refine ⟨hl,fun i v u a b=>(h i v u a b).1,fun u hu=>?_⟩
 obtain ⟨i,hi,rfl⟩:=List.getElem_of_mem hu
 have hi':i < c.size:=by simpa using hi
 exact (h i cs[i] c[i] (List.getElem?_eq_getElem (by omega)) (Array.getElem?_eq_getElem hi')).2
theorem flat_erase (xs:List V):(xs.map erase1).flatMap V.cells=(xs.flatMap V.cells).map eraseC:=by
 induction xs with
 | nil=>rfl
 | cons x xs ih=>simp only [List.map_cons,List.flatMap_cons,erase1_cells,List.map_append,ih]
theorem fill_range (sz len:Nat) (hsz:0 < sz) (L:List (Nat × Operand)) (hidx:L.map (·.1)=List.range len) (ρ:Operand→V) (hu:∀p ∈ L,(ρ p.2).cells.length=sz∧(ρ p.2).cells.all V.one=true)
  (G:Gh) (w:World) (ev:Operand→Value) (hop:∀p ∈ L,VR G w (ρ p.2) (ev p.2)) (init:Array Value) (hi:init.size=len * sz) :
  ∃c,Instr.fill (fun i=>some (i * sz,sz)) init (L.map fun p=>(p.1,ev p.2))=some c∧Side G w ((L.map fun p=>ρ p.2).flatMap V.cells) c:=by
 have hL:L.length=len:=by have:=congrArg List.length hidx; simpa using this
 have hlist:(L.map fun p=>(p.1,ev p.2))=((L.map fun p=>ev p.2).zipIdx 0).map fun x=>(x.2,x.1):=by
  apply List.ext_getElem?
  intro j
  rcases Nat.lt_or_ge j L.length with g | g
  ·have h1:(L.map (·.1))[j]?=(List.range len)[j]?:=by rw [hidx]
   simp [List.getElem?_eq_getElem g,List.getElem?_range (show j < len by omega)] at h1
   simp [List.getElem?_eq_getElem g,h1]
  ·simp [List.getElem?_eq_none g]
 have hside:∀p ∈ L,Side G w (ρ p.2).cells (ev p.2).cells:=fun p hp=>cells_side (hop p hp) (hu p hp).2
 obtain ⟨c,hc,hcs,hck⟩:=Great.fill_dense hsz (L.map fun p=>ev p.2) 0 init (by
  intro v hv
  obtain ⟨p,hp,rfl⟩:=List.mem_map.1 hv
  rw [←(hside p hp).1,(hu p hp).1]) (by simp [hL,hi])
 have hxs:∀x ∈ (L.map fun p=>ρ p.2),x.cells.length=sz:=by
  intro x hx
  obtain ⟨p,hp,rfl⟩:=List.mem_map.1 hx
  exact (hu p hp).1
 refine ⟨c,by rw [hlist]; exact hc,Side.of_get (by rw [flat_len hxs,hcs,hi]; simp [hL]) ?_⟩
 intro k v u hv hu'
 have hk:k < len * sz:=by
  rcases Nat.lt_or_ge k (len * sz) with g | g
  ·exact g
  ·rw [List.getElem?_eq_none (by rw [flat_len hxs]; simpa [hL] using g)] at hv; cases hv
 have hq:k / sz < L.length:=by rw [hL]; exact (Nat.div_lt_iff_lt_mul hsz).2 hk
 have hr:k % sz < sz:=Nat.mod_lt _ hsz
 have hdm:k / sz * sz+k % sz=k:=Nat.div_add_mod' k sz
 have h1:=flat_get hxs (k / sz) (by simpa using hq) (k % sz) hr
 rw [hdm,hv] at h1
 rw [hck k,if_pos (by simp [hL]; exact hk)] at hu'
 simp [List.getElem?_eq_getElem hq] at hu'
 have hm:L[k / sz] ∈ L:=List.getElem_mem _
 have hs:=hside _ hm
 have h2:(ρ L[k / sz].2).cells[k % sz]?=some v:=by
  rw [h1]; simp [List.getD,List.getElem?_eq_getElem hq]
 exact ⟨hs.2.1 _ v u h2 hu',hs.2.2 u (Array.mem_toList_iff.2 (Array.mem_of_getElem? hu'))⟩
theorem Rel.newRow {G:Gh} {w:World} {S:List Blk} (hR:Rel G w S) {xs:List V} {sz:Nat} (hsz:∀x ∈ xs,x.cells.length=sz) {c rest:Array Value} (hs:Side G w (xs.flatMap V.cells) c) (ty:TypeId) (cap:Nat)
  (hcap:xs.length≤cap) (hfull:cap * sz≤c.size+rest.size) :
  ∃G',VR G' (w.alloc (.cells (c++rest) ty)) (.rows (some S.length) xs) (.slice (some ⟨w.heap.size,0,none⟩) xs.length cap)∧Rel G' (w.alloc (.cells (c++rest) ty)) (S++[.right sz]) ∧
   Evol G w S G' (w.alloc (.cells (c++rest) ty)) (S++[.right sz]):=by
 have hcs:c.size=xs.length * sz:=by rw [←hs.1,flat_len hsz]
 have hn:=hR.n
 have h:=hR.pushNew (w':=w.alloc (.cells (c++rest) ty)) (by simp) (fun k hk=>heap_alloc_old w _ k hk) rfl rfl rfl c.size (cap * sz) sz c.size (.right sz) (fun he=>by
  have hb:(G.push w.heap.size c.size (cap * sz) sz c.size).blk G.n=w.heap.size:=by simp [Gh.push]
  refine ⟨c++rest,ty,by rw [hb]; exact heap_alloc_new w _,by simp [Gh.push],by simpa [Gh.push] using hfull,by simp [Gh.push]⟩)
 refine ⟨_,?_,h.1,h.2⟩
 refine .rows c.toList (by simpa using hs.1) (fun i v u hv hu=>(hs.2.1 i v u hv (by simpa using hu)).ext h.2.ext) hs.2.2 ?_ (by simp [Gh.push]) hcap ?_
 ·intro i u hu
  have hi:c[i]?=some u:=by simpa using hu
  have hlt:i < c.size:=by
   rcases Nat.lt_or_ge i c.size with g | g
   ·exact g
   ·rw [Array.getElem?_eq_none g] at hi; cases hi
  rw [cell_blk (heap_alloc_new w _),Nat.zero_add,Array.getElem?_append_left hlt]
  exact hi
 ·intro τ hτ
  cases hτ
  simp [Gh.push,hn,hcs]
theorem Rel.newHeap {G:Gh} {w:World} {S:List Blk} (hR:Rel G w S) {cs:List V} {sz mk n:Nat} {c rest:Array Value} (hs:Side G w cs c) (ty:TypeId) (cap:Nat)
  (hcap:n≤cap) (hfull:cap * sz≤c.size+rest.size) (hmk:∀m,SzOk sz mk (ty,(0,0)) m) :
  ∃G',VR G' (w.alloc (.cells (c++rest) ty)) (.heap S.length n) (.slice (some ⟨w.heap.size,0,none⟩) n cap)∧Rel G' (w.alloc (.cells (c++rest) ty)) (S++[.cells mk cs]) ∧
   Evol G w S G' (w.alloc (.cells (c++rest) ty)) (S++[.cells mk cs]):=by
 have hex:(c++rest).extract 0 cs.length=c:=by rw [hs.1]; simp
 have h:=hR.newCells (cs:=cs) (arr:=c++rest) ty (by rw [hex]; exact hs) (by rw [hs.1]; simp) sz mk (cap * sz) (hmk _) (by simpa using hfull)
 refine ⟨_,?_,h.1,h.2⟩
 have hn:=hR.n
 have hp:=VR.heap (G:=G.push w.heap.size 0 (cap * sz) sz 0) (w:=w.alloc (.cells (c++rest) ty)) (blk:=S.length) (len:=n) (cap:=cap) (by simp [Gh.push,hn]) (by simp [Gh.push,hn]) hcap (by simp [Gh.push,hn])
 have hb:(G.push w.heap.size 0 (cap * sz) sz 0).blk S.length=w.heap.size:=by simp [Gh.push,hn]
 rw [hb] at hp
 exact hp
theorem ev_buildSlice (hD:TypesOk P D) {o:Oper} {t:TypeId} {len:Nat} {parts:Array (Nat × Operand)} (ho:o.op=.buildSlice t len parts) {ρ:Operand→V} {S:List Blk} {k:V→List Blk→Prop}
  (h:evBuildSlice D t len (parts.toList.map fun p=>(p.1,ρ p.2)) S k):∃v S',k v S'∧RunOk P o ρ S v S':=by
 unfold evBuildSlice at h
 split at h
 ·rename_i e hk
  obtain ⟨hkn,hpos,hmax,hidx,hall,h⟩:=h
  have hidx':parts.toList.map (·.1)=List.range len:=by rw [←hidx,List.map_map]; rfl
  have hu:∀p ∈ parts.toList,(ρ p.2).cells.length=(D e).size∧(ρ p.2).cells.all V.one=true:=by
   intro p hp
   have:=List.all_eq_true.1 hall (p.1,ρ p.2) (List.mem_map.2 ⟨p,hp,rfl⟩)
   simpa using this
  have hlen:parts.toList.length=len:=by have:=congrArg List.length hidx'; simpa using this
  have key:∀(G:Gh) (ev:Operand→Value) (w:World),(∀x ∈ o.op.operands,VR G w (ρ x) (ev x))→∃c,Side G w ((parts.toList.map fun p=>ρ p.2).flatMap V.cells) c ∧
    (execOp ev o).run P w=.ok (.value (.slice (some ⟨w.heap.size,0,none⟩) len len)) (w.alloc (.cells c e)):=by
   intro G ev w hop
   have hops:∀p ∈ parts.toList,VR G w (ρ p.2) (ev p.2):=fun p hp=>hop p.2 (by
    simp only [ho,Op.operands,List.mem_toArray,List.mem_map]
    simp
    exact ⟨p.1,by simpa using hp⟩)
   obtain ⟨z,hz,hzs,hzl⟩:=zero_side hD hkn G w
   obtain ⟨c,hc,hs⟩:=fill_range (D e).size len hpos parts.toList hidx' ρ hu G w ev hops
    ((Array.range (len * (D e).size)).map ((if len * (D e).size=0 then (#[]:Array Value) else z.cells)[· % (if len * (D e).size=0 then (#[]:Array Value) else z.cells).size]!)) (by simp)
   refine ⟨c,hs,?_⟩
   have hm:¬(16777216 < len * (D e).size):=by omega
   by_cases h0:len * (D e).size=0
   ·rw [if_pos h0] at hc
    simp only [execOp,ho,Instr.buildSlice,Sem.run_bind,run_underlying (ty_slc hD hk),Result.andThen_ok,run_size hD hkn,Sem.run_ite]
    rw [if_neg (by simpa using hm),if_pos h0]
    simp only [Sem.run_pure,Result.andThen_ok,Array.toList_map]
    rw [hc]
    simp [Go.newRow]
   ·rw [if_neg h0] at hc
    simp only [execOp,ho,Instr.buildSlice,Sem.run_bind,run_underlying (ty_slc hD hk),Result.andThen_ok,run_size hD hkn,Sem.run_ite]
    rw [if_neg (by simpa using hm),if_neg h0]
    simp only [hz,Sem.run_pure,Result.andThen_ok,Array.toList_map]
    rw [hc]
    simp [Go.newRow]
  by_cases hw:(D e).wr=true
  ·rw [if_pos hw] at h
   refine ⟨_,_,h,fun G ev w hop hR=>?_⟩
   obtain ⟨c,hs,hrun⟩:=key G ev w hop
   have hs':Side G w ((parts.toList.map fun p=>(p.1,ρ p.2)).map fun x=>x.2.cells.map eraseC).flatten c:=by
    have he:((parts.toList.map fun p=>(p.1,ρ p.2)).map fun x=>x.2.cells.map eraseC).flatten=((parts.toList.map fun p=>ρ p.2).flatMap V.cells).map eraseC:=by
     simp [List.flatMap_def,List.map_flatten,List.map_map,Function.comp_def]
    rw [he]
    exact hs.erase
   have hcs:c.size=len * (D e).size:=by
    rw [←hs.1,flat_len (sz:=(D e).size) (fun x hx=>by obtain ⟨p,hp,rfl⟩:=List.mem_map.1 hx; exact (hu p hp).1)]
    simp [←hlen]
   obtain ⟨G',h1,h2,h3⟩:=hR.newHeap (n:=len) (sz:=(D e).size) (rest:=#[]) hs' e len (Nat.le_refl _) (by rw [hcs]; simp) (fun m=>SzOk.small (hD.small e) e m)
   rw [Array.append_empty] at h1 h2 h3
   exact ⟨_,_,G',.inl hrun,h1,h2,h3⟩
  ·rw [if_neg hw] at h
   refine ⟨_,_,h,fun G ev w hop hR=>?_⟩
   obtain ⟨c,hs,hrun⟩:=key G ev w hop
   have hxs:((parts.toList.map fun p=>(p.1,ρ p.2)).map fun x=>erase1 x.2)=(parts.toList.map fun p=>ρ p.2).map erase1:=by simp
   rw [hxs]
   have hs':=hs.erase
   rw [←flat_erase] at hs'
   have hu':∀x ∈ (parts.toList.map fun p=>ρ p.2).map erase1,x.cells.length=(D e).size:=by
    intro x hx
    obtain ⟨y,hy,rfl⟩:=List.mem_map.1 hx
    obtain ⟨p,hp,rfl⟩:=List.mem_map.1 hy
    rw [erase1_cells,List.length_map]; exact (hu p hp).1
   have hlen':((parts.toList.map fun p=>ρ p.2).map erase1).length=len:=by simpa using hlen
   have hcs:c.size=len * (D e).size:=by rw [←hs'.1,flat_len hu',hlen']
   obtain ⟨G',h1,h2,h3⟩:=hR.newRow hu' (rest:=#[]) hs' e len (by omega) (by rw [hcs]; simp)
   rw [Array.append_empty] at h1 h2 h3
   rw [hlen'] at h1
   exact ⟨_,_,G',.inl hrun,h1,h2,h3⟩
 ·exact h.elim
end
end
end Go.Proofs.Ytldogccmhncnoaa
