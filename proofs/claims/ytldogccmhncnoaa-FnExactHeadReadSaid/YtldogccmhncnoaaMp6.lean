/- A part of the proof: contracts of functions, or plain facts on which these lean. -/
import Derived.Lib.ConvBytes
import Derived.Lib.UnsafeStr
import Derived.Test.YtldogccmhncnoaaMp5
namespace Go.Proofs.Ytldogccmhncnoaa
open Go
set_option linter.unusedVariables false
set_option linter.unusedSimpArgs false
set_option maxRecDepth 100000
set_option maxHeartbeats 16000000

section
open Go
section
variable {P:Program} {D:Nat→TD}
theorem bytes_side {G:Gh} {w:World} {cs:List V} {vs:List Value} (hl:cs.length=vs.length) (h:∀(i:Nat) (v:V) (u:Value),cs[i]?=some v→vs[i]?=some u→VR G w v u) (h8:cs.all isU8=true) :
  vs=(cs.map fun v=>match v with | .int _ n=>n | _=>0).map (Value.int .u8):=by
 apply List.ext_getElem?
 intro i
 rcases Nat.lt_or_ge i cs.length with g | g
 ·have h1:=List.all_eq_true.1 h8 cs[i] (List.getElem_mem _)
  obtain ⟨n,hn⟩:∃n,cs[i]=.int .u8 n:=by
   unfold isU8 at h1
   split at h1
   ·rename_i n hq; exact ⟨n,hq⟩
   ·cases h1
  have:=h i cs[i] vs[i] (List.getElem?_eq_getElem g) (List.getElem?_eq_getElem (by omega))
  rw [hn] at this
  generalize hvi:vs[i]=vi at this
  cases this
  simp [List.getElem?_eq_getElem g,List.getElem?_eq_getElem (show i < vs.length by omega),hn,hvi]
 ·simp [List.getElem?_eq_none g,List.getElem?_eq_none (show vs.length≤i by omega)]
theorem bytes_fold:∀(ys:List V) (s:ByteArray),ys.all isU8=true→(ys.map fun v=>match v with | .int _ n=>n | _=>0).foldl (fun r n=>r.push (UInt8.ofNat n.toNat)) s=⟨⟨s.data.toList++ys.map byteOfV⟩⟩
 | [],s,_=>by simp
 | v :: ys,s,h=>by
  simp only [List.all_cons,Bool.and_eq_true] at h
  obtain ⟨n,rfl⟩:∃n,v=.int .u8 n:=by
   have h1:=h.1
   unfold isU8 at h1
   split at h1
   ·rename_i n; exact ⟨n,rfl⟩
   ·cases h1
  simp only [List.map_cons,List.foldl_cons]
  rw [bytes_fold ys _ h.2]
  simp [byteOfV,ByteArray.push]
theorem conv_heap (hD:TypesOk P D) {o:Oper} {src dst:TypeId} {x:Operand} (ho:o.op=.convert src dst x) {ρ:Operand→V} {S:List Blk} {b n:Nat} (hx:ρ x=.heap b n) {k:V→Prop} (h:convHeap D src dst n k S[b]?) :
  ∃v,k v∧(S[b]?).isSome=true∧∀S2:List Blk,S2[b]?=S[b]?→RunOk P o ρ S2 v S2:=by
 unfold convHeap at h
 split at h
 ·rename_i sz cs hS
  obtain ⟨hk,⟨e,he,hu8⟩,hn,h8,h⟩:=h
  refine ⟨_,h,by rw [hS]; rfl,fun S2 hS2 G ev w hop hR=>?_⟩
  have h1:=hop x (by simp [ho,Op.operands])
  rw [hx] at h1
  generalize hc:ev x=c at h1
  cases h1 with
  | heapNil =>
   exact ⟨.string ⟨⟨[]⟩⟩,w,G,.inl (by simp [execOp,ho,hc,run_convert_bytes_string w src dst e none 0 0 (ty_slc hD he) (ty_int hD hu8) (ty_str hD hk),Conv.bytesToString]; rfl),by simpa using VR.str (G:=G) (w:=w) ([]:List UInt8),hR,Evol.refl _ _ _⟩
  | @heap _ _ cap hb hok hcap hlim =>
   obtain ⟨arr,ty,g1,g2,g3,g4,g5,g6⟩:=hR.live b _ (hS2.trans hS) rfl hok
   have hlen:(arr.toList.take n).length=n:=by simp; omega
   have hvs:=bytes_side (G:=G) (w:=w) (cs:=cs.take n) (vs:=arr.toList.take n) (by simp; omega) (fun i v u hv hu=>by
    rw [List.getElem?_take] at hv hu
    split at hv
    ·rename_i hi
     rw [if_pos hi] at hu
     exact (g6 i v u hv (by simpa using hu)).1
    ·cases hv) h8
   have hload:=run_loadCells_list (P:=P) w ⟨G.blk b,0,none⟩ (arr.toList.take n) (fun j v hv=>by
    rw [addr_add,cell_blk g1,Nat.zero_add]
    rw [List.getElem?_take] at hv
    split at hv
    ·simpa using hv
    ·cases hv)
   rw [hlen,hvs] at hload
   have hrun:=run_bytesToString w ⟨G.blk b,0,none⟩ n cap _ hload
   rw [bytes_fold _ _ h8] at hrun
   refine ⟨.string ⟨⟨(cs.take n).map byteOfV⟩⟩,w,G,.inl ?_,.str _,hR,Evol.refl _ _ _⟩
   simp only [execOp,ho,hc,Sem.run_bind,run_convert_bytes_string w src dst e (some ⟨G.blk b,0,none⟩) n cap (ty_slc hD he) (ty_int hD hu8) (ty_str hD hk),hrun]
   simp [ByteArray.empty,ByteArray.emptyWithCapacity]
   rfl
 ·exact h.elim
theorem conv_ptr {o:Oper} {src dst:TypeId} {x:Operand} (ho:o.op=.convert src dst x) {ρ:Operand→V} {S:List Blk} {b n:Nat} (hx:ρ x=.ptr b n) {k:V→Prop} (h:convPtr P src dst b n k S[b]?) :
  ∃v,k v∧(S[b]?).isSome=true∧∀S2:List Blk,S2[b]?=S[b]?→RunOk P o ρ S2 v S2:=by
 unfold convPtr at h
 split at h
 ·rename_i sz cs hS
  obtain ⟨rfl,hm,hcp,h⟩:=h
  refine ⟨_,h,by rw [hS]; rfl,fun S2 hS2 G ev w hop hR=>?_⟩
  have h1:=hop x (by simp [ho,Op.operands])
  rw [hx] at h1
  generalize hc:ev x=c at h1
  cases h1 with
  | ptr hb hok =>
   obtain ⟨arr,ty,g1,g2,g3,g4,g5,g6⟩:=hR.live b _ (hS2.trans hS) rfl hok
   have hty:sz / 1000000 - 1=ty.1:=by have h9:(ty.1:Nat)+1=sz / 1000000:=g5.ty hm; show sz / 1000000 - 1=(ty.1:Nat); rw [←h9]; rfl
   have hrun:=hcp w (G.blk b) arr ty.2 (by rw [hty]; exact g1) g4
   exact ⟨_,w,G,.inl (by simp [execOp,ho,hc,hrun]),.ptr hb hok,hR,Evol.refl _ _ _⟩
 ·exact h.elim
theorem mark_ty (e:Nat):e+1=(1000000 * (e+1)+1) / 1000000:=by omega
theorem conv_str (hD:TypesOk P D) {o:Oper} {src dst e:TypeId} {x:Operand} (ho:o.op=.convert src dst x) {ρ:Operand→V} {s:List UInt8} (hx:ρ x=.str s) (hd:(D dst).k=.slc e) (hs:(D src).k=.str) (h8:(D e).k=.int .u8) (S:List Blk) :
  RunOk P o ρ S (.heap S.length s.length) (S++[.cells (1000000 * (e+1)+1) (u8s s)]):=by
 intro G ev w hop hR
 have h1:=hop x (by simp [ho,Op.operands])
 rw [hx] at h1
 generalize hc:ev x=c at h1
 cases h1
 have hrun:=Lib.run_convert_string_bytes (P:=P) w src dst e ⟨⟨s⟩⟩ (ty_str hD hs) (ty_slc hD hd) (ty_int hD h8)
 have hsz:(⟨⟨s⟩⟩:ByteArray).size=s.length:=rfl
 have hcap:s.length≤grownCap w s.length 0 e:=grownCap_ge _ _ _ _
 have hbs:(Lib.bytesCells w e ⟨⟨s⟩⟩).size=grownCap w s.length 0 e:=by
  unfold Lib.bytesCells
  rw [hsz]
  simp
  omega
 have hg0:∀i,i < s.length→(Lib.bytesCells w e ⟨⟨s⟩⟩)[i]?=some (.int .u8 ((s.getD i 0).toNat:Int)):=by
  intro i hi
  unfold Lib.bytesCells
  rw [Array.getElem?_append_left (by simpa using hi)]
  simp [List.getElem?_eq_getElem hi]
 have hside:Side G w (u8s s) ((Lib.bytesCells w e ⟨⟨s⟩⟩).extract 0 (u8s s).length):=by
  have hul:(u8s s).length=s.length:=by simp [u8s]
  refine Side.of_get (by rw [Array.size_extract,hbs,hul]; omega) ?_
  intro i v u hv hu
  have hi:i < s.length:=by
   rcases Nat.lt_or_ge i s.length with g | g
   ·exact g
   ·rw [List.getElem?_eq_none (by omega)] at hv; cases hv
  rw [Array.getElem?_extract] at hu
  rw [if_pos (by rw [hbs,hul,Nat.min_def]; split <;> omega),Nat.zero_add,hg0 i hi] at hu
  simp [u8s,List.getElem?_eq_getElem hi] at hv
  cases hu
  subst hv
  rw [List.getD_eq_getElem?_getD,List.getElem?_eq_getElem hi]
  exact ⟨.int _ _,rfl⟩
 have hd0:=hR.drew
 obtain ⟨G1,hG1⟩:∃G1,G1=G.push w.heap.size 0 (grownCap w s.length 0 e) 1 0:=⟨_,rfl⟩
 have hb:G1.blk G.n=w.heap.size:=by rw [hG1]; simp [Gh.push]
 have h:=hd0.1.pushNew (w':=Lib.bytesWorld w e ⟨⟨s⟩⟩) (Lib.bytesWorld_size w e _) (fun k hk=>Lib.bytesWorld_at_old w e _ k hk) (by simp [Lib.bytesWorld,World.freeze,World.alloc]) (by simp [Lib.bytesWorld,World.freeze,World.alloc]) (by simp [Lib.bytesWorld,World.freeze,World.alloc])
  0 (grownCap w s.length 0 e) 1 0 (.cells (1000000 * (e+1)+1) (u8s s)) (fun he=>by
   refine ⟨Lib.bytesCells w e ⟨⟨s⟩⟩,(e,((Lib.bytesCells w e ⟨⟨s⟩⟩).size,(Lib.bytesCells w e ⟨⟨s⟩⟩).size+1)),?_,by simp [Gh.push],by simp [Gh.push,hbs],by rw [hbs]; simpa [u8s] using hcap,⟨by simp [Gh.push],fun _=>mark_ty e,fun g=>absurd (show (1000000 * ((e:Nat)+1)+1) < 1000000 from g) (by omega),fun k hk hh=>by simp at hh; omega⟩,?_⟩
   ·have:(G.push w.drew.heap.size 0 (grownCap w s.length 0 e) 1 0).blk G.n=w.heap.size:=by simp [Gh.push]
    rw [this]
    exact Lib.bytesWorld_at_new w e _
   ·intro i v u hv hu
    have hi:i < (u8s s).length:=by
     rcases Nat.lt_or_ge i (u8s s).length with g | g
     ·exact g
     ·rw [List.getElem?_eq_none g] at hv; cases hv
    have hu':((Lib.bytesCells w e ⟨⟨s⟩⟩).extract 0 (u8s s).length)[i]?=some u:=by
     rw [Array.getElem?_extract,if_pos (by rw [hbs,show (u8s s).length=s.length by simp [u8s],Nat.min_def]; rw [show (u8s s).length=s.length by simp [u8s]] at hi; split <;> omega),Nat.zero_add]; exact hu
    exact ⟨((hside.2.1 i v u hv hu').ext hd0.2.ext).ext he,hside.2.2 u (Array.mem_toList_iff.2 (Array.mem_of_getElem? hu'))⟩)
 refine ⟨.slice (some ⟨w.heap.size,0,none⟩) s.length (grownCap w s.length 0 e),_,_,.inl ?_,?_,h.1,hd0.2.trans h.2⟩
 ·simp only [execOp,ho,hc,Sem.run_bind,hrun,Result.andThen_ok,Sem.run_pure]
  rfl
 ·have hp:=VR.heap (G:=G.push w.drew.heap.size 0 (grownCap w s.length 0 e) 1 0) (w:=Lib.bytesWorld w e ⟨⟨s⟩⟩) (blk:=S.length) (len:=s.length) (cap:=grownCap w s.length 0 e) (by simp [Gh.push,hR.n]) (by simp [Gh.push,hR.n]) hcap (by simp [Gh.push,hR.n])
  have hb2:(G.push w.drew.heap.size 0 (grownCap w s.length 0 e) 1 0).blk S.length=w.heap.size:=by simp [Gh.push,hR.n]
  rw [hb2] at hp
  exact hp
theorem ev_convS (hD:TypesOk P D) {o:Oper} {src dst:TypeId} {x:Operand} (ho:o.op=.convert src dst x) {ρ:Operand→V} {S:List Blk} {k:V→List Blk→Prop} (h:evConvS P D src dst (ρ x) S k):∃v S',k v S'∧RunOk P o ρ S v S':=by
 have pure_:evConv D src dst (ρ x) (atS k S)→∃v S',k v S'∧RunOk P o ρ S v S':=by
  intro h
  obtain ⟨v,hk,hv⟩:=ev_conv hD ho h
  exact ⟨v,S,hk,hv.run S⟩
 unfold evConvS at h
 split at h
 ·rename_i b n hx
  obtain ⟨v,hk,_,hv⟩:=conv_heap hD ho hx h
  exact ⟨v,S,hk,hv S rfl⟩
 ·rename_i b n hx
  obtain ⟨v,hk,_,hv⟩:=conv_ptr ho hx h
  exact ⟨v,S,hk,hv S rfl⟩
 ·rename_i s hx
  unfold convStr at h
  split at h
  ·rename_i e hd
   obtain ⟨h1,h2,_,h4⟩:=h
   exact ⟨_,_,h4,conv_str hD ho hx hd h1 h2 S⟩
  ·exact pure_ (by rw [hx]; exact h)
 ·exact pure_ h
theorem ev_data {o:Oper} {x:Operand} {c:Call} (ho:o.op=.call c) (hb:c.callee=.builtin .unsafeSliceData) (hx:c.args=#[x]) {ρ:Operand→V} {k:V→Prop} (h:evData (ρ x) k):∃v,k v∧PureOk P o ρ v:=by
 have fin:∀(ev:Operand→Value) (w:World) (r:Value),(Builtin.unsafeSliceData_ c.argTypes o.type #[ev x]).run P w=.ok r w→(execOp ev o).run P w=.ok (.value r) w:=by
  intro ev w r hr
  simp [execOp,ho,resolve,hb,hx,invoke,builtin,hr]
 unfold evData at h
 split at h
 ·rename_i hxx
  refine ⟨_,h,fun G ev w hop=>?_⟩
  have h1:=hop x (by simp [ho,Op.operands,Call.operands,hb,hx])
  rw [hxx] at h1
  generalize hc:ev x=cc at h1
  cases h1
  exact ⟨_,fin ev w _ (by rw [hc]; exact Lib.run_unsafeSliceData_nil w _ _ 0 0),.nilp⟩
 ·rename_i b n hxx
  obtain ⟨hn,h⟩:=h
  refine ⟨_,h,fun G ev w hop=>?_⟩
  have h1:=hop x (by simp [ho,Op.operands,Call.operands,hb,hx])
  rw [hxx] at h1
  generalize hc:ev x=cc at h1
  cases h1 with
  | heapNil=>omega
  | @heap _ _ cap hb hok hcap hlim =>
   exact ⟨_,fin ev w _ (by rw [hc]; exact Lib.run_unsafeSliceData_row w _ _ _ n cap (by omega)),.ptr hb hok⟩
 ·exact h.elim
theorem Rel.lose {G:Gh} {w w':World} {S:List Blk} (hR:Rel G w S) {b:Nat} {B:Blk} (hS:S[b]?=some B) (hl:B.live=true) (hk:G.ok b=true) (hb:But w w' (G.blk b)) (hc:∀o,w'.cell? ⟨G.blk b,o,none⟩=w.cell? ⟨G.blk b,o,none⟩) :
  Rel G w' (S.set b .dead)∧Evol G w S G w' (S.set b .dead):=by
 have hext:Ext G w G w':=⟨Nat.le_refl _,fun _ _=>⟨rfl,rfl,rfl,rfl,rfl⟩,fun _=>Nat.le_refl _,fun k o ho=>by
  by_cases e:k=G.blk b
  ·subst e; exact hc o
  ·exact cell_same (hb.other k e) o⟩
 obtain ⟨h1,h2⟩:=hR.kill b
 have hne:∀j C,(S.set b .dead)[j]?=some C→C.live=true→G.ok j=true→G.blk j≠G.blk b:=by
  intro j C hj hlC hkj e
  rw [List.getElem?_set] at hj
  by_cases ej:b=j
  ·rw [if_pos ej] at hj
   split at hj
   ·cases hj; cases hlC
   ·cases hj
  ·rw [if_neg ej] at hj
   exact ej (hR.inj b j B C hS hj hl hlC hk hkj e.symm)
 refine ⟨⟨h1.n,fun k hk'=>h1.fresh k (by rw [←hb.size]; exact hk'),fun j C hj hlC hkj=>by rw [hb.size]; exact h1.lt j C hj hlC hkj,fun j C hj hlC hkj=>(h1.live j C hj hlC hkj).keep hext (h1.get_lt hj) rfl (hb.other _ (hne j C hj hlC hkj)),h1.vac,h1.inj⟩,
  ⟨hext,by rw [hb.size]; exact Nat.le_refl _,hb.os,hb.tape,hb.output,fun k hk' hno=>hb.other k (fun e=>hno ⟨b,B,hS,hl,hk,e.symm⟩),fun k hk' ho=>h2.own k hk' ho,fun _ _ _=>rfl⟩⟩
theorem but_freeze (w:World) (g n:Nat):But w (w.freeze ⟨g,0,none⟩ n) g:=by
 unfold World.freeze
 split
 ·exact ⟨rfl,rfl,rfl,rfl,fun _ _=>rfl⟩
 ·exact ⟨by simp,rfl,rfl,rfl,fun k hk=>by
   simp only [Array.getElem?_modify]
   rw [if_neg (fun e=>hk e.symm)]⟩
theorem cell_freeze (w:World) (g n o:Nat):(w.freeze ⟨g,0,none⟩ n).cell? ⟨g,o,none⟩=w.cell? ⟨g,o,none⟩:=by
 unfold World.freeze
 split
 ·rfl
 ·simp only [World.cell?,Array.getElem?_modify,if_true]
  cases h:w.heap[g]? with
  | none=>rfl
  | some ob=>cases ob <;> rfl
theorem ev_ustr (hD:TypesOk P D) {o:Oper} {x y:Operand} {t u:TypeId} {c:Call} (ho:o.op=.call c) (hb:c.callee=.builtin .unsafeString) (hts:c.argTypes=#[t,u]) (hargs:c.args=#[x,y]) {ρ:Operand→V} {S:List Blk} {k:V→List Blk→Prop}
  (h:evUStr P t (ρ x) (ρ y) S k):∃v S',k v S'∧RunOk P o ρ S v S':=by
 have fin:∀(ev:Operand→Value) (w w':World) (r:Value),(Builtin.unsafeString_ #[t,u] o.type #[ev x,ev y]).run P w=.ok r w'→(execOp ev o).run P w=.ok (.value r) w':=by
  intro ev w w' r hr
  simp [execOp,ho,resolve,hb,hts,hargs,invoke,builtin,hr]
 have hops:∀(G:Gh) (ev:Operand→Value) (w:World),(∀y ∈ o.op.operands,VR G w (ρ y) (ev y))→VR G w (ρ x) (ev x)∧VR G w (ρ y) (ev y):=by
  intro G ev w hop
  exact ⟨hop x (by simp [ho,Op.operands,Call.operands,hb,hargs]),hop y (by simp [ho,Op.operands,Call.operands,hb,hargs])⟩
 unfold evUStr at h
 split at h
 ·rename_i K n hx hy
  obtain ⟨rfl,hK,h⟩:=h
  subst hK
  refine ⟨_,_,h,fun G ev w hop hR=>?_⟩
  obtain ⟨h1,h2⟩:=hops G ev w hop
  rw [hx] at h1
  rw [hy] at h2
  generalize hcx:ev x=cx at h1
  generalize hcy:ev y=cy at h2
  cases h1; cases h2
  exact ⟨_,w,G,.inl (fin ev w w _ (by rw [hcx,hcy]; exact Lib.run_unsafeString_none w t u o.type none)),.str [],hR,Evol.refl _ _ _⟩
 ·rename_i b off K n hx hy
  obtain ⟨rfl,hK,h0,h⟩:=h
  subst hK
  unfold ustrB at h
  split at h
  ·rename_i sz cs hS
   obtain ⟨hm,⟨hp,hc1⟩,hn1,hn,h63,h8,h⟩:=h
   refine ⟨_,_,h,fun G ev w hop hR=>?_⟩
   obtain ⟨h1,h2⟩:=hops G ev w hop
   rw [hx] at h1
   rw [hy] at h2
   generalize hcx:ev x=cx at h1
   generalize hcy:ev y=cy at h2
   cases h2
   cases h1 with
   | ptr hbb hok =>
    obtain ⟨arr,ty,g1,g2,g3,g4,g5,g6⟩:=hR.live b _ hS rfl hok
    have hty:sz / 1000000 - 1=ty.1:=by have h9:(ty.1:Nat)+1=sz / 1000000:=g5.ty hm; show sz / 1000000 - 1=(ty.1:Nat); rw [←h9]; rfl
    rw [hty] at hp hc1
    have hl:((cs.take n.toNat).map byteOfV).length=n.toNat:=by simp; omega
    have hcell:∀j z,((cs.take n.toNat).map byteOfV)[j]?=some z→w.cell? ((⟨G.blk b,0,none⟩:Addr).add j)=some (.int .u8 z.toNat):=by
     intro j z hj
     rw [addr_add,cell_blk g1,Nat.zero_add]
     rw [List.getElem?_map,List.getElem?_take] at hj
     split at hj
     ·rename_i hjn
      cases hv:cs[j]? with
      | none=>rw [hv] at hj; cases hj
      | some v =>
       rw [hv] at hj
       have hv8:=List.all_eq_true.1 h8 v (List.mem_of_getElem? (i:=j) (by rw [List.getElem?_take,if_pos hjn]; exact hv))
       unfold isB8 at hv8
       split at hv8
       ·rename_i q
        simp only [Bool.and_eq_true,decide_eq_true_eq] at hv8
        have hlt:j < arr.size:=by
         rcases Nat.lt_or_ge j cs.length with g | g
         ·omega
         ·rw [List.getElem?_eq_none g] at hv; cases hv
        have ha:arr[j]?=some arr[j]:=Array.getElem?_eq_getElem hlt
        have hvr:=(g6 j _ _ hv ha).1
        rw [ha]
        generalize arr[j]=av at hvr
        cases hvr
        simp only [Option.map_some,Option.some.injEq,byteOfV] at hj
        subst hj
        have:((UInt8.ofNat q.toNat).toNat:Int)=q:=by
         rw [UInt8.toNat_ofNat']
         omega
        rw [this]
       ·cases hv8
     ·cases hj
    have hrun:=Lib.run_unsafeString_row (P:=P) w t u o.type ty.1 hp hc1 (G.blk b) arr.size (by simp [World.shape?,g1]) ((cs.take n.toNat).map byteOfV) (by intro e; rw [e] at hl; simp at hl; omega) (by rw [hl]; omega) (by rw [hl]; omega) hcell
    rw [hl] at hrun
    have hlose:=hR.lose hS rfl hok (but_freeze w (G.blk b) n.toNat) (fun o=>cell_freeze w (G.blk b) n.toNat o)
    have hnn:((n.toNat:Nat):Int)=n:=by omega
    rw [hnn] at hrun
    exact ⟨_,_,G,.inl (fin ev w _ _ (by rw [hcx,hcy]; exact hrun)),.str _,hlose.1,hlose.2⟩
  ·exact h.elim
 ·exact h.elim
end
end
section
open Go
def OpStep (P:Program) (o:Oper) (ρ:Operand→V) (S:List Blk) (v:V) (S':List Blk):Prop :=
 ∀(G:Gh) (a:Act) (w:World) (K:Act→World→Prop) (Q:Exit→Act→World→Prop),(∀x ∈ o.op.operands,VR G w (ρ x) (a.eval x))→Rel G w S →
  (∀c G' w',VR G' w' v c→Rel G' w' S'→Evol G w S G' w' S'→K (a.put o.dst c) w')→o.wp P a w K Q
section
variable {P:Program} {D:Nat→TD}
theorem RunOk.step {o:Oper} {ρ:Operand→V} {S:List Blk} {v:V} {S':List Blk} (h:RunOk P o ρ S v S'):OpStep P o ρ S v S':=by
 intro G a w K Q hop hR hK
 obtain ⟨c,w',G',hr,hv,hR',hE⟩:=h G a.eval w hop hR
 unfold Oper.wp
 rcases hr with hr | ⟨hr,rfl⟩
 ·rw [hr]; exact hK c G' w' hv hR' hE
 ·rw [hr]; exact hK undef G' w' hv hR' hE
theorem eraseArgs_ok {G:Gh} {w:World} {l:List V} {vs:List Value} (h:AllR G w l vs):AllR G w (eraseArgs l) vs:=by
 unfold eraseArgs
 split
 ·exact h
 ·refine ⟨by simpa using h.1,fun i v u hv hu=>?_⟩
  rw [List.getElem?_map] at hv
  cases hq:l[i]? with
  | none=>rw [hq] at hv; cases hv
  | some v'=>rw [hq] at hv; cases hv; exact erase1_ok (h.2 i v' u hq hu)
theorem call_args {o:Oper} {c:Call} {f:Operand} (ho:o.op=.call c) (hc:c.callee=.value f) {ρ:Operand→V} {g:FuncId} {cap:List V} (hf:ρ f=.fn g cap) {G:Gh} {a:Act} {w:World} (hop:∀x ∈ o.op.operands,VR G w (ρ x) (a.eval x)) :
  ∃cc,a.eval f=.func (.func g) #[] cc∧AllR G w (eraseArgs (c.args.toList.map ρ++cap)) ((c.args.map a.eval)++cc).toList:=by
 have h1:=hop f (by simp [ho,Op.operands,Call.operands,hc])
 have hargs:∀x ∈ c.args,VR G w (ρ x) (a.eval x):=fun x hx=>hop x (by simp [ho,Op.operands,Call.operands,hc]; exact .inr hx)
 rw [hf] at h1
 generalize hcf:a.eval f=cf at h1
 cases h1 with
 | @fn _ _ cc hl hr =>
  refine ⟨cc,rfl,eraseArgs_ok ⟨by simp [hl],?_⟩⟩
  intro i v u hv hu
  cases hq:(c.args.toList.map ρ++cap)[i]? with
  | none=>rw [hq] at hv; cases hv
  | some v' =>
   rw [hq] at hv
   cases hv
   rw [Array.toList_append,Array.toList_map] at hu
   rcases Nat.lt_or_ge i c.args.toList.length with g' | g'
   ·rw [List.getElem?_append_left (by simpa using g')] at hq
    rw [List.getElem?_append_left (by simpa using g')] at hu
    simp only [List.getElem?_map] at hq hu
    cases hx:c.args.toList[i]? with
    | none=>rw [hx] at hq; cases hq
    | some x =>
     rw [hx] at hq hu
     cases hq; cases hu
     exact hargs x (by simpa using List.mem_of_getElem? hx)
   ·rw [List.getElem?_append_right (by simpa using g')] at hq
    rw [List.getElem?_append_right (by simpa using g')] at hu
    simp only [List.length_map] at hq hu
    exact hr _ v u hq (by simpa using hu)
theorem ev_call {o:Oper} {c:Call} {f:Operand} (ho:o.op=.call c) (hc:c.callee=.value f) {ρ:Operand→V} {S:List Blk} {k:V→List Blk→Prop} (h:evFn P (ρ f) (c.args.toList.map ρ) S k):∃v S',k v S'∧OpStep P o ρ S v S':=by
 unfold evFn at h
 split at h
 ·rename_i g cap hf
  rcases h with ⟨⟨fn,hfn,hbody,hname⟩,r,S',hk,hcall⟩ | ⟨r,hk,hx⟩
  ·refine ⟨r,S',hk,fun G a w K Q hop hR hK=>?_⟩
   obtain ⟨cc,hcf,hall⟩:=call_args ho hc hf hop
   have hcalls:=hcall G w _ hall hR
   unfold Oper.wp
   have hrun:(execOp a.eval o).run P w=.ok (.enter g ((c.args.map a.eval)++cc)) w:=by
    simp [execOp,ho,resolve,hc,hcf,Deferred.ofValue,invoke,callFunc,hfn,hbody,hname]
    have hne:¬fn.name= "runtime.NumGoroutine":=by simpa using hname
    simp [hne]
    intro hbn
    rw [hbn] at hbody; cases hbody
   rw [hrun]
   refine Calls.mono hcalls ?_
   rintro e w' ⟨c',G',rfl,hv,hR',hE⟩
   exact hK c' G' w' hv hR' hE
  ·refine ⟨r,S,hk,fun G a w K Q hop hR hK=>?_⟩
   obtain ⟨cc,hcf,hall⟩:=call_args ho hc hf hop
   obtain ⟨u,hrun0,hv⟩:=hx G w _ hall
   unfold Oper.wp
   have hrun:(execOp a.eval o).run P w=.ok (.value u) w:=by
    simp only [execOp,ho,resolve,hc,hcf,Deferred.ofValue,invoke,Sem.run_bind,Sem.run_pure,Result.andThen_ok]
    simpa using hrun0
   rw [hrun]
   exact hK u G w hv hR (Evol.refl _ _ _)
 ·exact h.elim
theorem ev_builtin (hD:TypesOk P D) {o:Oper} {c:Call} {b:Builtin} (ho:o.op=.call c) (hc:c.callee=.builtin b) {ρ:Operand→V} {S:List Blk} {k:V→List Blk→Prop} (h:evBuiltin P D b c.argTypes.toList (c.args.toList.map ρ) S k) :
  ∃v S',k v S'∧RunOk P o ρ S v S':=by
 have arr:∀{α:Type} (a:Array α) (l:List α),a.toList=l→a=l.toArray:=fun a l h=>by rw [←h]
 unfold evBuiltin at h
 split at h
 ·rename_i t ts x hts hxs
  obtain ⟨y,hy,rfl⟩:∃y,c.args=#[y]∧ρ y=x:=by
   cases hq:c.args.toList with
   | nil=>rw [hq] at hxs; cases hxs
   | cons y l=>rw [hq] at hxs; simp at hxs; obtain ⟨rfl,rfl⟩:=hxs; exact ⟨y,arr _ _ hq,rfl⟩
  obtain ⟨v,hk,hv⟩:=ev_len hD ho hc ⟨ts,hts⟩ hy h
  exact ⟨v,S,hk,hv.run S⟩
 ·rename_i t u s x hts hxs
  obtain ⟨y,z,hy,rfl,rfl⟩:∃y z,c.args=#[y,z]∧ρ y=s∧ρ z=x:=by
   cases hq:c.args.toList with
   | nil=>rw [hq] at hxs; cases hxs
   | cons y l =>
    rw [hq] at hxs
    cases l with
    | nil=>simp at hxs
    | cons z l=>simp at hxs; obtain ⟨rfl,rfl,rfl⟩:=hxs; exact ⟨y,z,arr _ _ hq,rfl,rfl⟩
  exact ev_append hD ho hc (arr _ _ hts) hy h
 ·rename_i x y hxs
  obtain ⟨p,q,hy,rfl,rfl⟩:∃p q,c.args=#[p,q]∧ρ p=x∧ρ q=y:=by
   cases hq:c.args.toList with
   | nil=>rw [hq] at hxs; cases hxs
   | cons y l =>
    rw [hq] at hxs
    cases l with
    | nil=>simp at hxs
    | cons z l=>simp at hxs; obtain ⟨rfl,rfl,rfl⟩:=hxs; exact ⟨y,z,arr _ _ hq,rfl,rfl⟩
  obtain ⟨v,hk,hv⟩:=ev_min ho hc hy h
  exact ⟨v,S,hk,hv.run S⟩
 ·rename_i x y z hxs
  obtain ⟨p,q,r,hy,rfl,rfl,rfl⟩:∃p q r,c.args=#[p,q,r]∧ρ p=x∧ρ q=y∧ρ r=z:=by
   cases hq:c.args.toList with
   | nil=>rw [hq] at hxs; cases hxs
   | cons y l =>
    rw [hq] at hxs
    cases l with
    | nil=>simp at hxs
    | cons z l =>
     cases l with
     | nil=>simp at hxs
     | cons u l=>simp at hxs; obtain ⟨rfl,rfl,rfl,rfl⟩:=hxs; exact ⟨y,z,u,arr _ _ hq,rfl,rfl,rfl⟩
  obtain ⟨v,hk,hv⟩:=ev_min3 ho hc hy h
  exact ⟨v,S,hk,hv.run S⟩
 ·rename_i x y hxs
  obtain ⟨p,q,hy,rfl,rfl⟩:∃p q,c.args=#[p,q]∧ρ p=x∧ρ q=y:=by
   cases hq:c.args.toList with
   | nil=>rw [hq] at hxs; cases hxs
   | cons y l =>
    rw [hq] at hxs
    cases l with
    | nil=>simp at hxs
    | cons z l=>simp at hxs; obtain ⟨rfl,rfl,rfl⟩:=hxs; exact ⟨y,z,arr _ _ hq,rfl,rfl⟩
  obtain ⟨v,hk,hv⟩:=ev_max ho hc hy h
  exact ⟨v,S,hk,hv.run S⟩
 ·rename_i x hxs
  obtain ⟨y,hy,rfl⟩:∃y,c.args=#[y]∧ρ y=x:=by
   cases hq:c.args.toList with
   | nil=>rw [hq] at hxs; cases hxs
   | cons y l=>rw [hq] at hxs; simp at hxs; obtain ⟨rfl,rfl⟩:=hxs; exact ⟨y,arr _ _ hq,rfl⟩
  obtain ⟨v,hk,hv⟩:=ev_data ho hc hy h
  exact ⟨v,S,hk,hv.run S⟩
 ·rename_i t u x y hts hxs
  obtain ⟨p,q,hy,rfl,rfl⟩:∃p q,c.args=#[p,q]∧ρ p=x∧ρ q=y:=by
   cases hq:c.args.toList with
   | nil=>rw [hq] at hxs; cases hxs
   | cons y l =>
    rw [hq] at hxs
    cases l with
    | nil=>simp at hxs
    | cons z l=>simp at hxs; obtain ⟨rfl,rfl,rfl⟩:=hxs; exact ⟨y,z,arr _ _ hq,rfl,rfl⟩
  exact ev_ustr hD ho hc (arr _ _ hts) hy h
 ·exact h.elim
theorem ev_op (hD:TypesOk P D) (o:Oper) {ρ:Operand→V} {S:List Blk} {k:V→List Blk→Prop} (h:evOp P D o.op ρ S k):∃v S',k v S'∧OpStep P o ρ S v S':=by
 have pure_:∀{q:V→Prop},(∃v,q v∧PureOk P o ρ v)→(∀v,q v→k v S)→∃v S',k v S'∧OpStep P o ρ S v S':=by
  rintro q ⟨v,hq,hv⟩ hk
  exact ⟨v,S,hk v hq,(hv.run S).step⟩
 have run_:(∃v S',k v S'∧RunOk P o ρ S v S')→∃v S',k v S'∧OpStep P o ρ S v S':=by
  rintro ⟨v,S',hk,hv⟩
  exact ⟨v,S',hk,hv.step⟩
 unfold evOp at h
 split at h
 ·rename_i x ho; exact ⟨_,S,h,((ev_move (.inl ho) ρ).run S).step⟩
 ·rename_i x ho; exact ⟨_,S,h,((ev_move (.inr ho) ρ).run S).step⟩
 ·rename_i c a b ho
  split at h
  ·rename_i t hc
   refine ⟨_,S,?_,((ev_pick ho ρ t hc).run S).step⟩
   cases t
   ·exact h.2 rfl
   ·exact h.1 rfl
  ·exact h.elim
 ·rename_i t ho; exact ⟨_,_,h.2.2,(ev_alloc hD ho ρ S h.1).step⟩
 ·rename_i t x ho; exact ⟨_,_,h.2,(ev_box ho ρ S h.1).step⟩
 ·rename_i t parts ho; exact pure_ (ev_build hD ho h) (fun _ hq=>hq)
 ·rename_i t len parts ho; exact run_ (ev_buildSlice hD ho h)
 ·rename_i t a ho
  obtain ⟨v,hk,hv⟩:=ev_load hD ho h
  exact ⟨v,S,hk,hv.step⟩
 ·rename_i t a x ho
  obtain ⟨S',hk,hv⟩:=ev_store hD ho h
  exact ⟨_,S',hk,hv.step⟩
 ·rename_i x ho; exact pure_ (ev_nil ho h) (fun _ hq=>hq)
 ·rename_i op t x y u ho; exact pure_ (ev_bin hD ho h) (fun _ hq=>hq)
 ·rename_i op t x ho; exact pure_ (ev_un ho h) (fun _ hq=>hq)
 ·rename_i src dst x ho; exact run_ (ev_convS hD ho h)
 ·rename_i fn first captured ho; exact pure_ (ev_makeFunc ho h) (fun _ hq=>hq)
 ·rename_i t l c ho; exact run_ (ev_makeSlice hD ho h)
 ·rename_i t x lo hi ho; exact pure_ (ev_slice hD ho h) (fun _ hq=>hq)
 ·rename_i t x f ho; exact pure_ (ev_fieldAddr hD ho h) (fun _ hq=>hq)
 ·rename_i t x f ho; exact pure_ (ev_field hD ho h) (fun _ hq=>hq)
 ·rename_i t x i ho; exact pure_ (ev_indexAddr hD ho h) (fun _ hq=>hq)
 ·rename_i t x i ho; exact pure_ (ev_index hD ho h) (fun _ hq=>hq)
 ·rename_i x i ho; exact pure_ (ev_extract ho h) (fun _ hq=>hq)
 ·rename_i c ho
  split at h
  ·rename_i f hc; exact ev_call ho hc h
  ·rename_i b hc; exact run_ (ev_builtin hD ho hc h)
  ·exact h.elim
 ·exact h.elim
structure ActR (N:Nat) (G:Gh) (w:World) (t:Nat→V) (a:Act):Prop where
 size:a.tmps.size=N
 defers:a.defers=[]
 rel:∀i,VR G w (t i) (a.tmps.getD i undef)
theorem ActR.ext {N:Nat} {G G':Gh} {w w':World} {t:Nat→V} {a:Act} (h:ActR N G w t a) (he:Ext G w G' w'):ActR N G' w' t a:=⟨h.size,h.defers,fun i=>(h.rel i).ext he⟩
theorem ActR.put {N:Nat} {G:Gh} {w:World} {t:Nat→V} {a:Act} (h:ActR N G w t a) {d:Option Nat} (hd:∀x,d=some x→x < N) {v:V} {c:Value} (hv:VR G w v c):ActR N G w (putT t d v) (a.put d c):=by
 cases d with
 | none=>exact h
 | some d =>
  have hlt:=hd d rfl
  have hs:=h.size
  refine ⟨by simp [Act.put,hs],h.defers,fun i=>?_⟩
  by_cases e:i=d
  ·subst e
   simp only [putT,if_true,Act.put]
   rw [Array.getD_eq_getD_getElem?,Array.getElem?_setIfInBounds]
   simp [hs,hlt]
   exact hv
  ·simp only [putT,e,if_false,Act.put]
   rw [Array.getD_eq_getD_getElem?,Array.getElem?_setIfInBounds,if_neg (fun h=>e h.symm),←Array.getD_eq_getD_getElem?]
   exact h.rel i
theorem evalT_ok {N:Nat} {G:Gh} {w:World} {t:Nat→V} {a:Act} (h:ActR N G w t a) (x:Operand):VR G w (evalT t x) (a.eval x):=by
 cases x with
 | tmp i=>exact h.rel i
 | const v=>exact constV_ok G w v
 | global g=>exact .junk _
 | func f=>exact .fn (by simp) (by simp)
def opsOk (N:Nat) (ops:List Oper):Bool:=ops.all fun o=>match o.dst with | some d=>decide (d < N) | none=>true
theorem opsOk_dst {N:Nat} {ops:List Oper} (h:opsOk N ops=true) {o:Oper} (ho:o ∈ ops):∀x:Nat,o.dst=some x→x < N:=by
 intro x hx
 have:=List.all_eq_true.1 h o ho
 rw [hx] at this
 simpa using this
theorem yielded_ok {N:Nat} {G:Gh} {w:World} {t:Nat→V} {a:Act} (h:ActR N G w t a) {full:Array Oper} {j d:Nat} {b:Bool} (hd:dstAt full.toList j=some d) (hb:t d=.bool b) (hlt:d < N):yielded full a.tmps j=some b:=by
 have h1:(full[j]?).bind (·.dst)=some d:=by simpa [dstAt] using hd
 have h2:=h.rel d
 rw [hb] at h2
 have hs:=h.size
 rw [Array.getD_eq_getD_getElem?,Array.getElem?_eq_getElem (by omega)] at h2
 simp only [Option.getD_some] at h2
 unfold yielded
 rw [h1]
 simp only [Option.bind_some]
 rw [Array.getElem?_eq_getElem (by omega)]
 generalize a.tmps[d]=c at h2
 cases h2
 rfl
theorem vr_undef {G:Gh} {w:World}:VR G w (.tup []) undef:=.tup rfl (fun i v u h=>by simp at h)
theorem vr_undef_inv {G:Gh} {w:World} {c:Value} (h:VR G w (.tup []) c):c=undef:=by
 cases h with
 | tup hl _=>rw [Array.eq_empty_of_size_eq_zero hl.symm]; rfl
theorem yielded_undef {G:Gh} {w:World} {N:Nat} {t:Nat→V} {a:Act} {full:Array Oper} (h:ActR N G w t a) {j d:Nat} (hd:dstAt full.toList j=some d) (hb:t d=.tup []) (hlt:d < N):yielded full a.tmps j=none:=by
 have h1:(full[j]?).bind (·.dst)=some d:=by simpa [dstAt] using hd
 have h2:=h.rel d
 rw [hb] at h2
 have h3:=vr_undef_inv h2
 unfold yielded
 rw [h1]
 have hlt2:d < a.tmps.size:=by rw [h.size]; exact hlt
 simp only [Option.bind_some]
 rw [Array.getD_eq_getD_getElem?,Array.getElem?_eq_getElem hlt2] at h3
 rw [Array.getElem?_eq_getElem hlt2]
 simp only [Option.getD_some] at h3
 rw [h3]
 rfl
theorem putT_bool {G:Gh} {w:World} {N:Nat} {t:Nat→V} {a:Act} (h:ActR N G w t a) {d:Nat} {b:Bool} (hb:t d=.bool b):ActR N G w (putT t (some d) (.bool b)) a:=by
 refine ⟨h.size,h.defers,fun i=>?_⟩
 by_cases e:i=d
 ·subst e; simp only [putT,if_true]; rw [←hb]; exact h.rel i
 ·simp only [putT,e,if_false]; exact h.rel i
theorem ev_ops (hD:TypesOk P D) {N:Nat} (full:Array Oper) (hN:opsOk N full.toList=true):∀(os:List Oper) (n:Nat),(∀j,os[j]?=full[n+j]?)→∀(t:Nat→V) (S:List Blk) (k:(Nat→V)→List Blk→Prop),evOps P D full.toList os t S k →
  ∃t' S',k t' S'∧∀(G:Gh) (a:Act) (w:World) (Q:Exit→Act→World→Prop),ActR N G w t a→Rel G w S→(∀a' w' G',ActR N G' w' t' a'→Rel G' w' S'→Evol G w S G' w' S'→Q .normal a' w') →
   wpOps P full Q (List.range' n os.length) a w
 | [],n,_,t,S,k,h=>⟨t,S,h,fun G a w Q ha hR hQ=>hQ a w G ha hR (Evol.refl _ _ _)⟩
 | o :: os,n,hfull,t,S,k,h=>by
  have ho:full[n]?=some o:=by have:=hfull 0; simpa using this.symm
  have hmem:o ∈ full.toList:=by simpa using Array.mem_of_getElem? ho
  have hdst:=opsOk_dst hN hmem
  have hrest:∀j,os[j]?=full[n+1+j]?:=fun j=>by have:=hfull (j+1); simpa [Nat.add_assoc,Nat.add_comm 1 j] using this
  have wantedCase:∀(t1:Nat→V),evOp P D o.op (evalT t1) S (fun v S'=>evOps P D full.toList os (putT t1 o.dst v) S' k) →
    ∃t' S',k t' S'∧∀(G:Gh) (a:Act) (w:World) (Q:Exit→Act→World→Prop),Region.wanted o (yielded full a.tmps)=true→ActR N G w t1 a→Rel G w S →
     (∀a' w' G',ActR N G' w' t' a'→Rel G' w' S'→Evol G w S G' w' S'→Q .normal a' w')→wpOps P full Q (List.range' n (o :: os).length) a w:=by
   intro t1 h1
   obtain ⟨v,S1,hk,hstep⟩:=ev_op hD o h1
   obtain ⟨t',S',hk',ih⟩:=ev_ops hD full hN os (n+1) hrest _ _ k hk
   refine ⟨t',S',hk',fun G a w Q hw ha hR hQ=>?_⟩
   simp only [List.length_cons,List.range'_succ,wpOps,ho,hw,if_true]
   refine .inl (hstep G a w _ Q (fun x _=>evalT_ok ha x) hR (fun c G' w' hv hR' hE=>?_))
   refine ih G' (a.put o.dst c) w' Q ((ha.ext hE.ext).put hdst hv) hR' (fun a2 w2 G2 ha2 hR2 hE2=>?_)
   exact hQ a2 w2 G2 ha2 hR2 (hE.trans hE2)
  have skipCase:∀(t1:Nat→V),evOps P D full.toList os (putT t1 o.dst (.tup [])) S k →
    ∃t' S',k t' S'∧∀(G:Gh) (a:Act) (w:World) (Q:Exit→Act→World→Prop),Region.wanted o (yielded full a.tmps)=false→ActR N G w t1 a→Rel G w S →
     (∀a' w' G',ActR N G' w' t' a'→Rel G' w' S'→Evol G w S G' w' S'→Q .normal a' w')→wpOps P full Q (List.range' n (o :: os).length) a w:=by
   intro t1 h1
   obtain ⟨t',S',hk',ih⟩:=ev_ops hD full hN os (n+1) hrest _ _ k h1
   refine ⟨t',S',hk',fun G a w Q hw ha hR hQ=>?_⟩
   simp only [List.length_cons,List.range'_succ,wpOps,ho,hw,Bool.false_eq_true,if_false]
   exact ih G (a.put o.dst undef) w Q (ha.put hdst vr_undef) hR hQ
  simp only [evOps] at h
  split at h
  ·rename_i hg
   obtain ⟨t',S',hk',ih⟩:=wantedCase t h
   exact ⟨t',S',hk',fun G a w Q ha hR hQ=>ih G a w Q (by simp [Region.wanted,hg]) ha hR hQ⟩
  ·rename_i j want hg
   split at h
   ·rename_i d hd
    split at h
    ·rename_i b hb
     have hlt:d < N:=by
      have h1:(full.toList[j]?).bind (·.dst)=some d:=hd
      cases hq:full.toList[j]? with
      | none=>rw [hq] at h1; cases h1
      | some oj=>rw [hq] at h1; exact opsOk_dst hN (List.mem_of_getElem? hq) d h1
     by_cases hbw:b=want
     ·obtain ⟨t',S',hk',ih⟩:=wantedCase _ (h.1 hbw)
      refine ⟨t',S',hk',fun G a w Q ha hR hQ=>ih G a w Q ?_ (putT_bool ha (by rw [hb,hbw])) hR hQ⟩
      simp [Region.wanted,hg,yielded_ok ha hd hb hlt,hbw]
     ·have hbn:b=!want:=by cases b <;> cases want <;> simp_all
      obtain ⟨t',S',hk',ih⟩:=skipCase _ (h.2 hbn)
      refine ⟨t',S',hk',fun G a w Q ha hR hQ=>ih G a w Q ?_ (putT_bool ha (by rw [hb,hbn])) hR hQ⟩
      simp [Region.wanted,hg,yielded_ok ha hd hb hlt,hbn]
    ·rename_i hu
     have hlt:d < N:=by
      have h1:(full.toList[j]?).bind (·.dst)=some d:=hd
      cases hq:full.toList[j]? with
      | none=>rw [hq] at h1; cases h1
      | some oj=>rw [hq] at h1; exact opsOk_dst hN (List.mem_of_getElem? hq) d h1
     obtain ⟨t',S',hk',ih⟩:=skipCase _ h
     refine ⟨t',S',hk',fun G a w Q ha hR hQ=>ih G a w Q ?_ ha hR hQ⟩
     simp [Region.wanted,hg,yielded_undef ha hd hu hlt]
    ·exact h.elim
   ·exact h.elim
end
end
end Go.Proofs.Ytldogccmhncnoaa
