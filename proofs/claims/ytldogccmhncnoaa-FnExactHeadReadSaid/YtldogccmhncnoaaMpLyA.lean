/- A part of the proof: contracts of functions, or plain facts on which these lean. -/
import Derived.Test.YtldogccmhncnoaaMp19
import Derived.Test.YtldogccmhncnoaaMpCbA
namespace Go.Proofs.Ytldogccmhncnoaa
open Go
set_option linter.unusedVariables false
set_option linter.unusedSimpArgs false
set_option maxRecDepth 100000
set_option maxHeartbeats 16000000

section
open Go Go.ChangeShapes Go.WideShapes Go.ChangeAt Go.RowKit
section
variable {H:Type} {enc:TypeId × Value→H} {W:World}
def CR (W:World) (vs:List V) (cs:List Value):Prop:=∃K,∀K',K≤K'→AllR (lawG W K') W vs cs∧∀u ∈ cs,u.oneCell'=true
theorem CR.nil:CR W [] []:=⟨0,fun _ _=>⟨⟨rfl,fun i v u h=>by simp at h⟩,by simp⟩⟩
theorem CR.app {vs us:List V} {cs ds:List Value} (h:CR W vs cs) (g:CR W us ds):CR W (vs++us) (cs++ds):=by
 obtain ⟨K,h⟩:=h
 obtain ⟨L,g⟩:=g
 refine ⟨K+L,fun K' hK=>?_⟩
 obtain ⟨⟨h1,h2⟩,h3⟩:=h K' (by omega)
 obtain ⟨⟨g1,g2⟩,g3⟩:=g K' (by omega)
 refine ⟨⟨by simp [h1,g1],fun i v u hv hu=>?_⟩,fun u hu=>(List.mem_append.1 hu).elim (h3 u) (g3 u)⟩
 rcases Nat.lt_or_ge i vs.length with q | q
 ·rw [List.getElem?_append_left q] at hv
  rw [List.getElem?_append_left (by omega)] at hu
  exact h2 i v u hv hu
 ·rw [List.getElem?_append_right q] at hv
  rw [List.getElem?_append_right (by omega),←h1] at hu
  exact g2 _ v u hv hu
theorem CR.one {v:V} {u:Value} (K:Nat) (h:∀K',K≤K'→VR (lawG W K') W v u) (ho:u.oneCell'=true):CR W [v] [u] :=
 ⟨K,fun K' hK=>⟨⟨rfl,fun i x y hx hy=>by
  cases i with
  | zero=>cases hx; cases hy; exact h K' hK
  | succ i=>simp at hx⟩,fun y hy=>by rw [List.mem_singleton.1 hy]; exact ho⟩⟩
theorem CR.piece {vs us:List V} {cs:List Value} {o k:Nat} (h:CR W vs ((cs.drop o).take k)) (g:CR W us (cs.drop (o+k))):CR W (vs++us) (cs.drop o):=by
 have:=h.app g
 rwa [←List.drop_drop,List.take_append_drop] at this
def RdT {H:Type} (enc:TypeId × Value→H) (W:World) (t:TypeId) {M:Type} (mc:M→List V) (B:M→Prop):Prop :=
 ∀n cs x,DataW.trod enc Try.prog W 0 (fun _=>true) true n t cs=some x→∃m,CR W (mc m) cs∧B m
theorem rd_bool:RdT enc W 4 (fun b:Bool=>[.bool b]) (fun _=>True):=fun n cs x h=>by
 obtain ⟨b,rfl,_⟩:=DataW.trod_bool Try.underlying4 h
 exact ⟨b,.one 0 (fun _ _=>.bool b) rfl,trivial⟩
theorem rd_int:RdT enc W 3 (fun z:Int=>[.int .i64 z]) (fun _=>True):=fun n cs x h=>by
 obtain ⟨z,rfl,_,_⟩:=DataW.trod_int Try.underlying3 h
 exact ⟨z,.one 0 (fun _ _=>.int _ _) rfl,trivial⟩
theorem rd_str:RdT enc W 9 (fun s:List UInt8=>[.str s]) (fun s=>s.length≤mxL):=fun n cs x h=>by
 obtain ⟨s,rfl,_,hs⟩:=DataW.trod_string Try.underlying9 h
 refine ⟨s.data.toList,.one 0 (fun _ _=>?_) rfl,?_⟩
 ·exact VR.str s.data.toList
 ·show s.data.toList.length≤mxL
  exact hs
theorem rd_slice {t e:TypeId} {M:Type} {mc:M→List V} {B:M→Prop} {mV:M→V} {k:Nat} (ht:Try.prog.underlying t=some (.slice e)) (hk:Try.prog.cellsOf e=k) (hk0:0 < k)
  (hmc:∀m,(mc m).length=k) (hmV:∀m,(mV m).cells=mc m) (h:RdT enc W e mc B):RdT enc W t (fun ms:List M=>[.rows none (ms.map mV)]) (fun ms=>ms.length≤mxL∧∀m ∈ ms,B m):=fun n cs x hx=>by
 rcases DataW.trod_slice ht hx with ⟨rfl,_⟩ | ⟨a,len,cap,elems,rest,n',_,rfl,_,_,hl,hm,hlen,hel,hsp,_⟩
 ·exact ⟨[],.one 0 (fun _ _=>.rowsNil (fun τ hτ=>by cases hτ)) rfl,by simp,by simp⟩
 ·by_cases h0:len=0
  ·subst h0
   exact ⟨[],.one 0 (fun _ _=>.rowsE) rfl,by simp,by simp⟩
  ·have each:∀i,i < len→∃m ds,CR W (mc m) ds∧B m∧ds.length=k∧∀j,j < k→W.cell? ((a.add (i * k)).add j)=ds[j]?:=fun i hi=>by
    have h1:=hel i hi
    rw [List.getElem?_eq_getElem (by omega),hk,Option.bind_eq_some_iff] at h1
    obtain ⟨ds,h2,h3⟩:=h1
    obtain ⟨m,g1,g2⟩:=h _ _ _ h3
    unfold World.cells? at h2
    rw [if_pos (Nat.zero_le _)] at h2
    have hdl:ds.length=k:=by simpa using mapM_some_length h2
    exact ⟨m,ds,g1,g2,hdl,fun j hj=>mapM_some_get h2 j j (by rw [List.getElem?_range hj])⟩
   have hspot:a.spot=none:=by
    obtain ⟨m,ds,_,_,g3,g4⟩:=each 0 (by omega)
    have:=g4 0 hk0
    rw [Nat.zero_mul,List.getElem?_eq_getElem (by omega)] at this
    have e:(a.add 0).add 0=a:=rfl
    rw [e] at this
    unfold World.cell? at this
    split at this
    ·split at this
     ·cases this
     ·rename_i q; simpa using q
    ·cases this
   obtain ⟨b,off,sp⟩:=a
   simp only at hspot
   subst hspot
   have hb:b < W.heap.size:=by
    obtain ⟨m,ds,_,_,g3,g4⟩:=each 0 (by omega)
    have:=g4 0 hk0
    rw [Nat.zero_mul,List.getElem?_eq_getElem (by omega)] at this
    rcases Nat.lt_or_ge b W.heap.size with g | g
    ·exact g
    ·have hn:W.heap[b]?=none:=Array.getElem?_eq_none g
     have e:((⟨b,off,none⟩:Addr).add 0).add 0=⟨b,off,none⟩:=rfl
     rw [e] at this
     simp [World.cell?,hn] at this
   have all:∀l,l≤len→∃(ms:List M) (vs:List Value),ms.length=l∧vs.length=l * k∧CR W (ms.flatMap mc) vs∧(∀m ∈ ms,B m)∧∀j,j < l * k→W.cell? ⟨b,off+j,none⟩=vs[j]?:=fun l=>by
    induction l with
    | zero=>exact fun _=>⟨[],[],rfl,by simp,.nil,by simp,fun j hj=>by omega⟩
    | succ l ih =>
     intro hll
     obtain ⟨ms,vs,e1,e2,e3,e4,e5⟩:=ih (by omega)
     obtain ⟨m,ds,g1,g2,g3,g4⟩:=each l (by omega)
     refine ⟨ms++[m],vs++ds,by simp [e1],by rw [List.length_append,e2,g3,Nat.add_mul,Nat.one_mul],?_,fun z hz=>?_,fun j hj=>?_⟩
     ·rw [List.flatMap_append]
      simpa using e3.app g1
     ·rcases List.mem_append.1 hz with q | q
      ·exact e4 z q
      ·rw [List.mem_singleton.1 q]; exact g2
     ·rw [Nat.add_mul,Nat.one_mul] at hj
      rcases Nat.lt_or_ge j (l * k) with q | q
      ·rw [List.getElem?_append_left (by omega)]
       exact e5 j q
      ·rw [List.getElem?_append_right (by omega),e2,←g4 (j - l * k) (by omega),add_plain,add_plain,show off+l * k+(j - l * k)=off+j by omega]
   obtain ⟨ms,vs,e1,e2,⟨K,e3⟩,e4,e5⟩:=all len (Nat.le_refl _)
   have hfl:(ms.map mV).flatMap V.cells=ms.flatMap mc:=by
    rw [List.flatMap_map]
    congr 1
    funext m
    exact hmV m
   refine ⟨ms,.one (K+off+len * k) (fun K' hK=>?_) rfl,by rw [e1]; unfold mxL; unfold maxLen at hm; omega,e4⟩
   obtain ⟨⟨f1,f2⟩,f3⟩:=e3 K' (by omega)
   have:=VR.rows (G:=lawG W K') (w:=W) (tok:=none) (xs:=ms.map mV) (b:=b) (off:=off) (cap:=cap) vs (by rw [hfl]; exact f1) (by rw [hfl]; exact f2) f3
    (fun i u hu=>by
     have hi:=(List.getElem?_eq_some_iff.1 hu).1
     rw [e5 i (by omega)]; exact hu)
    (by simp only [lawG,if_pos hb]; omega) (by rw [List.length_map]; omega) (fun τ hτ=>by cases hτ)
   rw [List.length_map,e1] at this
   exact this
theorem part {n:Nat} {cs:List Value} {fs:Array Field} {xs:List (DataW H × List MemPlace)} (hxl:xs.length=fs.size)
  (hf:∀(i:Nat) (f:Field),fs[i]?=some f→DataW.trod enc Try.prog W 0 (fun _=>true) true n f.type ((cs.drop f.offset).take (Try.prog.cellsOf f.type))=xs[i]?) (i:Nat) {f:Field} (hi:fs[i]?=some f) :
  ∃y,DataW.trod enc Try.prog W 0 (fun _=>true) true n f.type ((cs.drop f.offset).take (Try.prog.cellsOf f.type))=some y:=by
 have hlt:i < xs.length:=by rw [hxl]; exact (Array.getElem?_eq_some_iff.1 hi).1
 exact ⟨xs[i],by rw [hf i f hi,List.getElem?_eq_getElem hlt]⟩
theorem rd_field:RdT enc W 49 fdC ZF:=fun n cs x hx=>by
 obtain ⟨xs,n',rfl,rfl,hl,hxl,hf⟩:=DataW.trod_struct Try.underlying49 hx
 have hl:cs.length=3:=hl.trans (by kernel_rfl)
 obtain ⟨_,h0⟩:=part hxl hf 0 rfl
 obtain ⟨_,h1⟩:=part hxl hf 1 rfl
 obtain ⟨_,h2⟩:=part hxl hf 2 rfl
 obtain ⟨a,a1,a2⟩:=rd_str _ _ _ h0
 obtain ⟨b,b1,b2⟩:=rd_str _ _ _ h1
 obtain ⟨c,c1,_⟩:=rd_bool _ _ _ h2
 have e3:CR W [] (cs.drop 3):=by rw [List.drop_of_length_le (by omega)]; exact .nil
 exact ⟨⟨a,b,c⟩,CR.piece (o:=0) (k:=1) a1 (CR.piece (o:=1) (k:=1) b1 (CR.piece (o:=2) (k:=1) c1 e3)),a2,b2⟩
theorem rd_fields:RdT enc W 22 (fun l:List Fd=>[.rows none (l.map fV)]) (ZL ZF) :=
 rd_slice (k:=3) Try.underlying22 (by kernel_rfl) (by decide) (fun _=>rfl) (fun _=>rfl) rd_field
theorem rd_table:RdT enc W 24 (fun p:List Fd × Int=>[.rows none (p.1.map fV),.int .i64 p.2]) (fun p=>ZL ZF p.1):=fun n cs x hx=>by
 obtain ⟨xs,n',rfl,rfl,hl,hxl,hf⟩:=DataW.trod_struct Try.underlying24 hx
 have hl:cs.length=2:=hl.trans (by kernel_rfl)
 obtain ⟨_,h0⟩:=part hxl hf 0 rfl
 obtain ⟨_,h1⟩:=part hxl hf 1 rfl
 obtain ⟨a,a1,a2⟩:=rd_fields _ _ _ h0
 obtain ⟨b,b1,_⟩:=rd_int _ _ _ h1
 have e3:CR W [] (cs.drop 2):=by rw [List.drop_of_length_le (by omega)]; exact .nil
 exact ⟨⟨a,b⟩,CR.piece (o:=0) (k:=1) a1 (CR.piece (o:=1) (k:=1) b1 e3),a2⟩
theorem arg_struct {t:TypeId} {fs:Array Field} {M:Type} {mc:M→List V} {B:M→Prop} {base:Nat} {v:Value} {d:DataW H} {p:List MemPlace} (ht:Try.prog.underlying t=some (.struct fs)) (hr:RdT enc W t mc B)
  (hv:Value.okWide Try.prog W .any base t v) (h:DataW.Trod enc Try.prog W 0 (fun _=>true) true t v d p):∃m K,B m∧∀K',K≤K'→VR (lawG W K') W (.agg (mc m)) v:=by
 unfold Value.okWide at hv
 rw [ht] at hv
 obtain ⟨cs,rfl,_,_⟩:=hv
 obtain ⟨n,hn⟩:=h
 obtain ⟨m,⟨K,hc⟩,hB⟩:=hr n _ _ hn
 refine ⟨m,K,hB,fun K' hK=>?_⟩
 obtain ⟨⟨h1,h2⟩,h3⟩:=hc K' hK
 have h1:(mc m).length=cs.toList.length:=h1
 refine .agg (by simpa using h1) (fun i x u hx hu=>h2 i x u hx (by simpa [Value.cells] using hu)) h3
theorem arg_cell {t:TypeId} {M:Type} {mv:M→V} {B:M→Prop} {v:Value} {d:DataW H} {p:List MemPlace} (hr:RdT enc W t (fun m=>[mv m]) B) (hc:v.cells.toList=[v])
  (h:DataW.Trod enc Try.prog W 0 (fun _=>true) true t v d p):∃m K,B m∧∀K',K≤K'→VR (lawG W K') W (mv m) v:=by
 obtain ⟨n,hn⟩:=h
 rw [hc] at hn
 obtain ⟨m,⟨K,hc⟩,hB⟩:=hr n _ _ hn
 exact ⟨m,K,hB,fun K' hK=>(hc K' hK).1.2 0 _ _ rfl rfl⟩
theorem celS_str {base:Nat} {v:Value} (hv:Value.okWide Try.prog W .any base 9 v):v.cells.toList=[v]:=by
 simp only [Value.okWide,Cell.okWide,Cell.ok,Try.underlying9] at hv
 cases v <;> first | rfl | exact hv.elim
end
end
end Go.Proofs.Ytldogccmhncnoaa
