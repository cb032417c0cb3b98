/- A part of the proof: contracts of functions, or plain facts on which these lean. -/
import Derived.Lib.Builder
import Derived.Test.YtldogccmhncnoaaMp2
namespace Go.Proofs.Ytldogccmhncnoaa
open Go
set_option linter.unusedVariables false
set_option linter.unusedSimpArgs false
set_option maxRecDepth 100000
set_option maxHeartbeats 16000000

section
open Go
theorem eqGuard_plain {P:Program} {w:World} (op:BinOp) (t:TypeId) (x y:Operand) (a b:Value) (h:(match a,b with | .nilIface,.nilIface=>false | .agg _,.agg _=>false | _,_=>true)=true) :
  (eqGuard op t x y a b).run P w=.ok () w:=by
 unfold eqGuard
 cases a <;> cases b <;> simp at h <;> cases op <;> simp
section
variable {P:Program} {D:Nat→TD}
theorem bin_int {o:Oper} {op:BinOp} {t u:TypeId} {x y:Operand} (ho:o.op=.binOp op t x y u) {ρ:Operand→V} {a b:IntKind} {m n:Int} (hx:ρ x=.int a m) (hy:ρ y=.int b n) {r:V} {c:Value}
  (hr:∀w,(binOp op t (.int a m) (.int b n)).run P w=.ok c w) (hc:∀G w,VR G w r c):PureOk P o ρ r:=by
 intro G ev w hop
 have h1:=hop x (by simp [ho,Op.operands])
 have h2:=hop y (by simp [ho,Op.operands])
 rw [hx] at h1
 rw [hy] at h2
 generalize hcx:ev x=cx at h1
 generalize hcy:ev y=cy at h2
 cases h1
 cases h2
 exact ⟨c,by simp [execOp,ho,hcx,hcy,eqGuard_plain,hr],hc G w⟩
theorem bin_str {o:Oper} {op:BinOp} {t u:TypeId} {x y:Operand} (ho:o.op=.binOp op t x y u) {ρ:Operand→V} {a b:List UInt8} (hx:ρ x=.str a) (hy:ρ y=.str b) {r:V} {c:Value}
  (hr:∀w,(binOp op t (.string ⟨⟨a⟩⟩) (.string ⟨⟨b⟩⟩)).run P w=.ok c w) (hc:∀G w,VR G w r c):PureOk P o ρ r:=by
 intro G ev w hop
 have h1:=hop x (by simp [ho,Op.operands])
 have h2:=hop y (by simp [ho,Op.operands])
 rw [hx] at h1
 rw [hy] at h2
 generalize hcx:ev x=cx at h1
 generalize hcy:ev y=cy at h2
 cases h1
 cases h2
 exact ⟨c,by simp [execOp,ho,hcx,hcy,eqGuard_plain,hr],hc G w⟩
theorem bin_bool {o:Oper} {op:BinOp} {t u:TypeId} {x y:Operand} (ho:o.op=.binOp op t x y u) {ρ:Operand→V} {a b:Bool} (hx:ρ x=.bool a) (hy:ρ y=.bool b) {r:V} {c:Value}
  (hr:∀w,(binOp op t (.bool a) (.bool b)).run P w=.ok c w) (hc:∀G w,VR G w r c):PureOk P o ρ r:=by
 intro G ev w hop
 have h1:=hop x (by simp [ho,Op.operands])
 have h2:=hop y (by simp [ho,Op.operands])
 rw [hx] at h1
 rw [hy] at h2
 generalize hcx:ev x=cx at h1
 generalize hcy:ev y=cy at h2
 cases h1
 cases h2
 exact ⟨c,by simp [execOp,ho,hcx,hcy,eqGuard_plain,hr],hc G w⟩
theorem run_eq_eql (w:World) (t:TypeId) (x y:Value) (r:Bool) (hb:(match x,y with | .bool _,.bool _=>true | .pointer _,.pointer _=>true | _,_=>false)=true) (h:(Op.equalIn 10000 t x y).run P w=.ok r w) :
  (binOp .eql t x y).run P w=.ok (.bool r) w∧(binOp .neq t x y).run P w=.ok (.bool (!r)) w:=by
 cases x <;> cases y <;> simp at hb <;> constructor <;> simp [binOp,Op.equal,Op.maxDepth,h]
theorem eqT_run (hD:TypesOk P D) (w:World) (G:Gh) (d:Nat) {t:TypeId} {c e:V} {u u':Value} {a:Bool} (h:eqT (D t).k c e=some a) (hu:VR G w c u) (hu':VR G w e u') :
  (Op.equalIn (d+1) t u u').run P w=.ok a w∧((D t).k matches .none)=false∧(D t).agg=false:=by
 generalize hk:(D t).k=kk at h ⊢
 unfold eqT at h
 split at h
 ·rename_i q a1 m b1 n
  split at h
  ·rename_i hab
   subst hab
   simp at h
   cases hu; cases hu'
   refine ⟨?_,by simp,by simp [TD.agg,hk]⟩
   rw [run_equalIn_int w d t _ q _ _ (ty_int hD hk),←h]
   congr 1
  ·cases h
 ·simp at h
  cases hu; cases hu'
  refine ⟨?_,by simp,by simp [TD.agg,hk]⟩
  rw [run_equalIn_bool' w d t _ _ (ty_bool hD hk),←h]
 ·simp at h
  cases hu; cases hu'
  refine ⟨?_,by simp,by simp [TD.agg,hk]⟩
  rw [run_equalIn_string w d t _ _ (ty_str hD hk),←h,ByteArray.toList_eq,ByteArray.toList_eq]
  congr 1
  simp [Bool.beq_eq_decide_eq]
 ·cases h
theorem run_eq_ptr (w:World) (d:Nat) {t e:TypeId} (h:P.underlying t=some (.pointer e)) (a:Addr):(Op.equalIn (d+1) t (.pointer (some a)) (.pointer none)).run P w=.ok false w:=by
 simp [Op.equalIn,run_underlying h]
theorem run_eq_nil (w:World) (d:Nat) {t e:TypeId} (h:P.underlying t=some (.pointer e)):(Op.equalIn (d+1) t (.pointer none) (.pointer none)).run P w=.ok true w:=by
 simp [Op.equalIn,run_underlying h]
theorem eq_cells (hD:TypesOk P D) (xs ys:Array Value) (w:World) (d:Nat):∀(fs:List (Nat × Nat × TypeId)) (fields:List Field) (i:Nat) (cs ds:List V) (r:Bool) (G:Gh),
  fields.map (fun f=>(f.offset,f.type))=fs.map (fun x=>(x.1,x.2.2))→(∀f ∈ fields,f.name≠ "_")→eqFs D i fs cs ds=some r →
  (∀(j:Nat) (v:V),cs[j]?=some v→∃u,xs[i+j]?=some u∧VR G w v u)→(∀(j:Nat) (v:V),ds[j]?=some v→∃u,ys[i+j]?=some u∧VR G w v u) →
  (Op.eqFields (d+1) xs ys fields).run P w=.ok r w
 | [],[],i,[],[],r,G,_,_,h,_,_=>by
  simp [eqFs] at h; subst h; simp [Op.eqFields]
 | [],f :: fields,_,_,_,_,_,hm,_,_,_,_=>by simp at hm
 | x :: fs,[],_,_,_,_,_,hm,_,_,_,_=>by simp at hm
 | [],[],_,_ :: _,_,_,_,_,_,hl,_,_=>by simp [eqFs] at hl
 | [],[],_,[],_ :: _,_,_,_,_,hl,_,_=>by simp [eqFs] at hl
 | _ :: _,_ :: _,_,[],_,_,_,_,_,hl,_,_=>by simp [eqFs] at hl
 | _ :: _,_ :: _,_,_ :: _,[],_,_,_,_,hl,_,_=>by simp [eqFs] at hl
 | (off,sz,t) :: fs,f :: fields,i,c :: cs,e :: ds,r,G,hm,hn,h,hx,hy=>by
  simp only [List.map_cons,List.cons.injEq,Prod.mk.injEq] at hm
  obtain ⟨⟨ho,ht⟩,hm⟩:=hm
  simp only [eqFs] at h
  split at h
  ·rename_i hos
   obtain ⟨rfl,rfl⟩:=hos
   obtain ⟨u,hu,hru⟩:=hx 0 c rfl
   obtain ⟨u',hu',hru'⟩:=hy 0 e rfl
   simp only [Nat.add_zero] at hu hu'
   split at h
   ·rename_i a b ha hb
    simp only [Option.some.injEq] at h
    subst h
    obtain ⟨heq,hkn,hag⟩:=eqT_run hD w G d ha hru hru'
    have ih:=eq_cells hD xs ys w d fs fields (off+1) cs ds b G hm (fun f' hf'=>hn f' (List.mem_cons_of_mem _ hf')) hb
     (fun j v hv=>by have:=hx (j+1) v (by simpa using hv); rwa [show off+1+j=off+(j+1) by omega])
     (fun j v hv=>by have:=hy (j+1) v (by simpa using hv); rwa [show off+1+j=off+(j+1) by omega])
    have hpart:∀(zs:Array Value) (z:Value),zs[off]?=some z→(part t zs f.offset).run P w=.ok z w:=by
     intro zs z hz
     have hia:=run_isAgg hD hkn w
     rw [hag] at hia
     simp only [part,ho,Sem.run_bind,hia,Result.andThen_ok]
     simp [hz]
    have hn':f.name≠ "_":=hn f List.mem_cons_self
    rw [Op.eqFields]
    simp only [if_pos hn',Sem.run_bind,hpart xs u hu,hpart ys u' hu',ht,heq,Result.andThen_ok]
    cases a
    ·simp
    ·simpa using ih
   ·cases h
  ·cases h
theorem ev_eqs (hD:TypesOk P D) {o:Oper} {op:BinOp} {t u:TypeId} {x y:Operand} (ho:o.op=.binOp op t x y u) {ρ:Operand→V} {xs ys:List V} (hx:ρ x=.agg xs) (hy:ρ y=.agg ys) {k:Bool→Prop}
  (h:evEqS D t xs ys k):∃r,k r∧(op=.eql→PureOk P o ρ (.bool r))∧(op=.neq→PureOk P o ρ (.bool (!r))):=by
 unfold evEqS at h
 split at h
 ·rename_i fs hk
  split at h
  ·rename_i r he
   refine ⟨r,h,?_⟩
   obtain ⟨fields,hu,hm,hs,hn,hst,hg⟩:=ty_strct hD hk
   have key:∀(G:Gh) (ev:Operand→Value) (w:World),(∀x ∈ o.op.operands,VR G w (ρ x) (ev x))→∃cx cy,ev x=.agg cx∧ev y=.agg cy∧(Op.equalIn 10000 t (.agg cx) (.agg cy)).run P w=.ok r w:=by
    intro G ev w hop
    have h1:=hop x (by simp [ho,Op.operands])
    have h2:=hop y (by simp [ho,Op.operands])
    rw [hx] at h1
    rw [hy] at h2
    generalize hcx:ev x=cx at h1
    generalize hcy:ev y=cy at h2
    cases h1 with
    | @agg _ cx hl1 hr1 _ =>
     cases h2 with
     | @agg _ cy hl2 hr2 _ =>
      refine ⟨cx,cy,rfl,rfl,?_⟩
      have hf:P.fieldsOf t=fields:=by simp [Program.fieldsOf,hu]
      rw [run_equalIn_struct w 9999 t cx cy (by rw [hf]; exact hu) hst,hf]
      refine eq_cells hD cx cy w 9998 fs fields.toList 0 xs ys r G hm hn he ?_ ?_
      ·intro j v hv
       have hlt:j < cx.size:=by
        rcases Nat.lt_or_ge j xs.length with g | g
        ·omega
        ·rw [List.getElem?_eq_none g] at hv; cases hv
       rw [Nat.zero_add]
       exact ⟨_,Array.getElem?_eq_getElem hlt,hr1 j v _ hv (Array.getElem?_eq_getElem hlt)⟩
      ·intro j v hv
       have hlt:j < cy.size:=by
        rcases Nat.lt_or_ge j ys.length with g | g
        ·omega
        ·rw [List.getElem?_eq_none g] at hv; cases hv
       rw [Nat.zero_add]
       exact ⟨_,Array.getElem?_eq_getElem hlt,hr2 j v _ hv (Array.getElem?_eq_getElem hlt)⟩
   constructor
   ·rintro rfl G ev w hop
    obtain ⟨cx,cy,h1,h2,h3⟩:=key G ev w hop
    exact ⟨.bool r,by simp [execOp,ho,h1,h2,run_eqGuard_agg w .eql t x y cx cy hg,run_eql_struct,h3],.bool r⟩
   ·rintro rfl G ev w hop
    obtain ⟨cx,cy,h1,h2,h3⟩:=key G ev w hop
    exact ⟨.bool (!r),by simp [execOp,ho,h1,h2,run_eqGuard_agg w .neq t x y cx cy hg,run_neq_struct,h3],.bool _⟩
  ·exact h.elim
 ·exact h.elim
theorem str_eq (a b:List UInt8):((⟨⟨a⟩⟩:ByteArray).toList == (⟨⟨b⟩⟩:ByteArray).toList)=decide (a=b):=by
 rw [ByteArray.toList_eq,ByteArray.toList_eq]
 simp [Bool.beq_eq_decide_eq]
theorem ev_bin (hD:TypesOk P D) {o:Oper} {op:BinOp} {t u:TypeId} {x y:Operand} (ho:o.op=.binOp op t x y u) {ρ:Operand→V} {k:V→Prop} (h:evBin D op t (ρ x) (ρ y) k):∃v,k v∧PureOk P o ρ v:=by
 unfold evBin at h
 split at h
 case h_1 a m b n hx hy=>obtain ⟨rfl,h⟩:=h; exact ⟨_,h,bin_int ho hx hy (fun w=>by simp [binOp,Op.intArith]) (fun G w=>.int _ _)⟩
 case h_2 a m b n hx hy=>obtain ⟨rfl,h⟩:=h; exact ⟨_,h,bin_int ho hx hy (fun w=>by simp [binOp,Op.intArith]) (fun G w=>.int _ _)⟩
 case h_3 a m b n hx hy=>obtain ⟨rfl,h⟩:=h; exact ⟨_,h,bin_int ho hx hy (fun w=>by simp [binOp,Op.intArith]) (fun G w=>.int _ _)⟩
 case h_4 a m b n hx hy=>obtain ⟨rfl,hn,h⟩:=h; exact ⟨_,h,bin_int ho hx hy (fun w=>by simp [binOp,Op.intDiv,hn]) (fun G w=>.int _ _)⟩
 case h_5 a m b n hx hy=>obtain ⟨rfl,hn,h⟩:=h; exact ⟨_,h,bin_int ho hx hy (fun w=>by simp [binOp,Op.intDiv,hn]) (fun G w=>.int _ _)⟩
 case h_6 a m b n hx hy=>obtain ⟨rfl,h⟩:=h; exact ⟨_,h,bin_int ho hx hy (fun w=>by simp [binOp,Op.intBits,intBits]) (fun G w=>.int _ _)⟩
 case h_7 a m b n hx hy=>obtain ⟨rfl,h⟩:=h; exact ⟨_,h,bin_int ho hx hy (fun w=>by simp [binOp,Op.intBits,intBits]) (fun G w=>.int _ _)⟩
 case h_8 a m b n hx hy=>obtain ⟨rfl,h⟩:=h; exact ⟨_,h,bin_int ho hx hy (fun w=>by simp [binOp,Op.intBits,intBits]) (fun G w=>.int _ _)⟩
 case h_9 a m b n hx hy=>obtain ⟨rfl,h⟩:=h; exact ⟨_,h,bin_int ho hx hy (fun w=>by simp [binOp,Op.intBits,intBits]) (fun G w=>.int _ _)⟩
 case h_10 a m b n hx hy=>obtain ⟨hn,h⟩:=h; have hn':¬n < 0:=(by omega); exact ⟨_,h,bin_int ho hx hy (fun w=>by simp [binOp,Op.shift,hn']) (fun G w=>.int _ _)⟩
 case h_11 a m b n hx hy=>obtain ⟨hn,h⟩:=h; have hn':¬n < 0:=(by omega); exact ⟨_,h,bin_int ho hx hy (fun w=>by simp [binOp,Op.shift,hn']) (fun G w=>.int _ _)⟩
 case h_12 a m b n hx hy=>obtain ⟨rfl,h⟩:=h; exact ⟨_,h,bin_int ho hx hy (c:=.bool (decide (m=n))) (fun w=>by simp [binOp,Op.intCmp,Bool.beq_eq_decide_eq]) (fun G w=>.bool _)⟩
 case h_13 a m b n hx hy=>obtain ⟨rfl,h⟩:=h; exact ⟨_,h,bin_int ho hx hy (c:=.bool (!decide (m=n))) (fun w=>by simp [binOp,Op.intCmp,bne,Bool.beq_eq_decide_eq]) (fun G w=>.bool _)⟩
 case h_14 a m b n hx hy=>obtain ⟨rfl,h⟩:=h; exact ⟨_,h,bin_int ho hx hy (fun w=>by simp [binOp,Op.intCmp]) (fun G w=>.bool _)⟩
 case h_15 a m b n hx hy=>obtain ⟨rfl,h⟩:=h; exact ⟨_,h,bin_int ho hx hy (fun w=>by simp [binOp,Op.intCmp]) (fun G w=>.bool _)⟩
 case h_16 a m b n hx hy=>obtain ⟨rfl,h⟩:=h; exact ⟨_,h,bin_int ho hx hy (fun w=>by simp [binOp,Op.intCmp]) (fun G w=>.bool _)⟩
 case h_17 a m b n hx hy=>obtain ⟨rfl,h⟩:=h; exact ⟨_,h,bin_int ho hx hy (fun w=>by simp [binOp,Op.intCmp]) (fun G w=>.bool _)⟩
 case h_18 s u hx hy =>
  obtain ⟨hl,h⟩:=h
  refine ⟨_,h,bin_str ho hx hy (c:=.string ⟨⟨s++u⟩⟩) (fun w=>?_) (fun G w=>.str _)⟩
  have hle:¬(((⟨⟨s⟩⟩:ByteArray).size+(⟨⟨u⟩⟩:ByteArray).size:Nat):Int) > IntKind.i64.max:=by
   show ¬((s.length+u.length:Nat):Int) > IntKind.i64.max
   have:IntKind.i64.max=9223372036854775807:=by decide
   omega
  simp only [binOp,Op.stringOp]
  rw [if_neg hle]
  simp [ByteArray.mk_append_mk]
 case h_19 s u hx hy=>exact ⟨_,h,bin_str ho hx hy (c:=.bool (decide (s=u))) (fun w=>by simp only [binOp,Op.stringOp,str_eq]; rfl) (fun G w=>.bool _)⟩
 case h_20 s u hx hy=>exact ⟨_,h,bin_str ho hx hy (c:=.bool (!decide (s=u))) (fun w=>by simp only [binOp,Op.stringOp,str_eq]; rfl) (fun G w=>.bool _)⟩
 case h_21 a b hx hy=>obtain ⟨hk,h⟩:=h; exact ⟨_,h,bin_bool ho hx hy (fun w=>(run_eq_eql w t _ _ _ rfl (run_equalIn_bool' w 9999 t a b (ty_bool hD hk))).1) (fun G w=>.bool _)⟩
 case h_22 a b hx hy=>obtain ⟨hk,h⟩:=h; exact ⟨_,h,bin_bool ho hx hy (fun w=>(run_eq_eql w t _ _ _ rfl (run_equalIn_bool' w 9999 t a b (ty_bool hD hk))).2) (fun G w=>.bool _)⟩
 case h_23 b of hx hy =>
  obtain ⟨hk,h⟩:=h
  obtain ⟨e,he⟩:=ty_ptr hD hk
  refine ⟨_,h,fun G ev w hop=>?_⟩
  have h1:=hop x (by simp [ho,Op.operands])
  have h2:=hop y (by simp [ho,Op.operands])
  rw [hx] at h1
  rw [hy] at h2
  generalize hcx:ev x=cx at h1
  generalize hcy:ev y=cy at h2
  cases h1; cases h2
  exact ⟨.bool false,by simp [execOp,ho,hcx,hcy,eqGuard_plain,(run_eq_eql w t (.pointer (some _)) (.pointer none) false rfl (run_eq_ptr w 9999 he _)).1],.bool _⟩
 case h_24 b of hx hy =>
  obtain ⟨hk,h⟩:=h
  obtain ⟨e,he⟩:=ty_ptr hD hk
  refine ⟨_,h,fun G ev w hop=>?_⟩
  have h1:=hop x (by simp [ho,Op.operands])
  have h2:=hop y (by simp [ho,Op.operands])
  rw [hx] at h1
  rw [hy] at h2
  generalize hcx:ev x=cx at h1
  generalize hcy:ev y=cy at h2
  cases h1; cases h2
  exact ⟨.bool true,by simp [execOp,ho,hcx,hcy,eqGuard_plain,(run_eq_eql w t (.pointer (some _)) (.pointer none) false rfl (run_eq_ptr w 9999 he _)).2],.bool _⟩
 case h_25 hx hy =>
  obtain ⟨hk,h⟩:=h
  obtain ⟨e,he⟩:=ty_ptr hD hk
  refine ⟨_,h,fun G ev w hop=>?_⟩
  have h1:=hop x (by simp [ho,Op.operands])
  have h2:=hop y (by simp [ho,Op.operands])
  rw [hx] at h1
  rw [hy] at h2
  generalize hcx:ev x=cx at h1
  generalize hcy:ev y=cy at h2
  cases h1; cases h2
  exact ⟨.bool true,by simp [execOp,ho,hcx,hcy,eqGuard_plain,(run_eq_eql w t (.pointer none) (.pointer none) true rfl (run_eq_nil w 9999 he)).1],.bool _⟩
 case h_26 hx hy =>
  obtain ⟨hk,h⟩:=h
  obtain ⟨e,he⟩:=ty_ptr hD hk
  refine ⟨_,h,fun G ev w hop=>?_⟩
  have h1:=hop x (by simp [ho,Op.operands])
  have h2:=hop y (by simp [ho,Op.operands])
  rw [hx] at h1
  rw [hy] at h2
  generalize hcx:ev x=cx at h1
  generalize hcy:ev y=cy at h2
  cases h1; cases h2
  exact ⟨.bool false,by simp [execOp,ho,hcx,hcy,eqGuard_plain,(run_eq_eql w t (.pointer none) (.pointer none) true rfl (run_eq_nil w 9999 he)).2],.bool _⟩
 case h_27 b o' b' o'' hx hy =>
  obtain ⟨hb,hk,rfl,rfl,h⟩:=h
  obtain ⟨e,j,he,hj⟩:=hD.ptr _ hb hk
  refine ⟨_,h,fun G ev w hop=>?_⟩
  have h1:=hop x (by simp [ho,Op.operands])
  have h2:=hop y (by simp [ho,Op.operands])
  rw [hx] at h1
  rw [hy] at h2
  generalize hcx:ev x=cx at h1
  generalize hcy:ev y=cy at h2
  cases h1; cases h2
  exact ⟨.bool false,by simp [execOp,ho,hcx,hcy,eqGuard_plain,Lib.run_neq_ptr_same w _ he hj],.bool _⟩
 case h_28 xs ys hx hy=>obtain ⟨r,hk,h1,_⟩:=ev_eqs hD ho hx hy h; exact ⟨_,hk,h1 rfl⟩
 case h_29 xs ys hx hy=>obtain ⟨r,hk,_,h1⟩:=ev_eqs hD ho hx hy h; exact ⟨_,hk,h1 rfl⟩
 case h_30=>exact h.elim
end
end
section
open Go
theorem flat_len {sz:Nat}:∀{xs:List V},(∀x ∈ xs,x.cells.length=sz)→(xs.flatMap V.cells).length=xs.length * sz
 | [],_=>by simp
 | x :: xs,h=>by
  have ih:=flat_len (xs:=xs) fun y hy=>h y (List.mem_cons_of_mem _ hy)
  simp only [List.flatMap_cons,List.length_append,List.length_cons,Nat.add_mul,Nat.one_mul]
  rw [ih,h x List.mem_cons_self]; omega
theorem flat_drop {sz:Nat}:∀{xs:List V} (l:Nat),(∀x ∈ xs,x.cells.length=sz)→(xs.drop l).flatMap V.cells=(xs.flatMap V.cells).drop (l * sz)
 | xs,0,_=>by simp
 | [],l+1,_=>by simp
 | x :: xs,l+1,h=>by
  have ih:=flat_drop (xs:=xs) l fun y hy=>h y (List.mem_cons_of_mem _ hy)
  have hx:=h x List.mem_cons_self
  simp only [List.drop_succ_cons,List.flatMap_cons,ih]
  rw [show (l+1) * sz=x.cells.length+l * sz by rw [hx,Nat.add_mul]; omega,List.drop_append]
  simp
theorem flat_take {sz:Nat}:∀{xs:List V} (l:Nat),(∀x ∈ xs,x.cells.length=sz)→(xs.take l).flatMap V.cells=(xs.flatMap V.cells).take (l * sz)
 | xs,0,_=>by simp
 | [],l+1,_=>by simp
 | x :: xs,l+1,h=>by
  have ih:=flat_take (xs:=xs) l fun y hy=>h y (List.mem_cons_of_mem _ hy)
  have hx:=h x List.mem_cons_self
  simp only [List.take_succ_cons,List.flatMap_cons,ih]
  rw [show (l+1) * sz=x.cells.length+l * sz by rw [hx,Nat.add_mul]; omega,List.take_append,List.take_of_length_le (l:=x.cells) (by omega)]
  simp
theorem flat_get {sz:Nat} {xs:List V} (h:∀x ∈ xs,x.cells.length=sz) (i:Nat) (hi:i < xs.length) (j:Nat) (hj:j < sz):(xs.flatMap V.cells)[i * sz+j]?=(xs.getD i .junk).cells[j]?:=by
 have h1:=flat_drop (xs:=xs) i h
 have h2:(xs.flatMap V.cells)[i * sz+j]?=((xs.drop i).flatMap V.cells)[j]?:=by rw [h1,List.getElem?_drop]
 rw [h2,List.drop_eq_getElem_cons hi,List.flatMap_cons,List.getElem?_append_left (by rw [h _ (List.getElem_mem _)]; exact hj)]
 simp [List.getD,List.getElem?_eq_getElem hi]
theorem splice_len:∀(cs:List V) (off:Nat) (xs:List V),off+xs.length≤cs.length→(splice cs off xs).length=cs.length
 | [],0,[],_=>rfl
 | [],n+1,xs,h=>by simp at h
 | [],0,x :: xs,h=>by simp at h
 | c :: cs,0,[],_=>rfl
 | c :: cs,0,x :: xs,h=>by
  simp only [splice,List.length_cons]
  rw [splice_len cs 0 xs (by simp at h ⊢; omega)]
 | c :: cs,n+1,xs,h=>by
  simp only [splice,List.length_cons]
  rw [splice_len cs n xs (by simp at h; omega)]
theorem splice_get:∀(cs:List V) (off:Nat) (xs:List V) (k:Nat),off+xs.length≤cs.length→(splice cs off xs)[k]?=if off≤k∧k < off+xs.length then xs[k - off]? else cs[k]?
 | [],0,[],k,_=>by simp [splice]
 | [],n+1,xs,k,h=>by simp at h
 | [],0,x :: xs,k,h=>by simp at h
 | c :: cs,0,[],k,_=>by simp [splice]
 | c :: cs,0,x :: xs,k,h=>by
  cases k with
  | zero=>simp [splice]
  | succ k =>
   simp only [splice,List.getElem?_cons_succ]
   rw [splice_get cs 0 xs k (by simp at h ⊢; omega)]
   simp
 | c :: cs,n+1,xs,k,h=>by
  cases k with
  | zero=>simp [splice]
  | succ k =>
   simp only [splice,List.getElem?_cons_succ]
   rw [splice_get cs n xs k (by simp at h; omega)]
   by_cases hk:n≤k∧k < n+xs.length
   ·rw [if_pos hk,if_pos (by omega)]; congr 1; omega
   ·rw [if_neg hk,if_neg (by omega)]
section
variable {P:Program} {D:Nat→TD} (hD:TypesOk P D)
include hD
theorem ev_conv {o:Oper} {src dst:TypeId} {x:Operand} (ho:o.op=.convert src dst x) {ρ:Operand→V} {k:V→Prop} (h:evConv D src dst (ρ x) k):∃v,k v∧PureOk P o ρ v:=by
 obtain ⟨hs,h⟩:=h
 have hsrc:∃d,P.underlying src=some d:=by
  cases hk:(D src).k with
  | none=>rw [hk] at hs; cases hs
  | int q=>exact ⟨_,ty_int hD hk⟩
  | bool=>exact ⟨_,ty_bool hD hk⟩
  | str=>exact ⟨_,ty_str hD hk⟩
  | ptr=>obtain ⟨e,he⟩:=ty_ptr hD hk; exact ⟨_,he⟩
  | slc e=>exact ⟨_,ty_slc hD hk⟩
  | fn=>obtain ⟨a,b,c,he⟩:=ty_fn hD hk; exact ⟨_,he⟩
  | strct fs=>obtain ⟨fields,he,_⟩:=ty_strct hD hk; exact ⟨_,he⟩
 obtain ⟨ds,hds⟩:=hsrc
 split at h
 ·rename_i a b n hk hx
  refine ⟨_,h,fun G ev w hop=>?_⟩
  have h1:=hop x (by simp [ho,Op.operands])
  rw [hx] at h1
  generalize hc:ev x=c at h1
  cases h1
  exact ⟨.int a (a.wrap n),by simp [execOp,ho,hc,convert,run_underlying hds,run_underlying (ty_int hD hk),Conv.intToInt],.int _ _⟩
 ·rename_i s hk hx
  refine ⟨_,h,fun G ev w hop=>?_⟩
  have h1:=hop x (by simp [ho,Op.operands])
  rw [hx] at h1
  generalize hc:ev x=c at h1
  cases h1
  exact ⟨.string ⟨⟨s⟩⟩,by simp [execOp,ho,hc,convert,run_underlying hds,run_underlying (ty_str hD hk)],.str _⟩
 ·rename_i tok xs hk hx
  obtain ⟨⟨e,he,hu8⟩,hall,h⟩:=h
  refine ⟨_,h,fun G ev w hop=>?_⟩
  have h1:=hop x (by simp [ho,Op.operands])
  rw [hx] at h1
  generalize hc:ev x=c at h1
  cases h1 with
  | rowsNil =>
   exact ⟨.string ⟨⟨[]⟩⟩,by simp [execOp,ho,hc,run_convert_bytes_string w src dst e none 0 0 (ty_slc hD he) (ty_int hD hu8) (ty_str hD hk),Conv.bytesToString]; rfl,.str _⟩
  | @rowsE a cap =>
   have hload:=run_loadCells_list (P:=P) w a [] (by simp)
   have hrun:=run_bytesToString w a 0 cap [] hload
   exact ⟨.string ⟨⟨[]⟩⟩,by simp only [execOp,ho,hc,Sem.run_bind,run_convert_bytes_string w src dst e (some a) 0 cap (ty_slc hD he) (ty_int hD hu8) (ty_str hD hk),hrun]; rfl,.str _⟩
  | @rows _ _ b off cap vs hl hr hone hh hp hcap ht =>
   have hxs:∀v ∈ xs,∃n,v=.int .u8 n:=by
    intro v hv
    have:=List.all_eq_true.1 hall v hv
    split at this
    ·exact ⟨_,rfl⟩
    ·cases this
   have hcells:xs.flatMap V.cells=xs:=by
    clear hl hr hx h hall hc ht hcap
    induction xs with
    | nil=>rfl
    | cons v xs ih =>
     obtain ⟨n,rfl⟩:=hxs v List.mem_cons_self
     simp only [List.flatMap_cons,V.cells,ih (fun u hu=>hxs u (List.mem_cons_of_mem _ hu)),List.singleton_append]
   rw [hcells] at hl hr
   have hvs:vs=(xs.map fun v=>match v with | .int _ n=>n | _=>0).map (Value.int .u8):=by
    apply List.ext_getElem?
    intro i
    rcases Nat.lt_or_ge i xs.length with g | g
    ·obtain ⟨n,hn⟩:=hxs xs[i] (List.getElem_mem _)
     have:=hr i xs[i] vs[i] (List.getElem?_eq_getElem g) (List.getElem?_eq_getElem (by omega))
     rw [hn] at this
     generalize hvi:vs[i]=vi at this
     cases this
     simp [List.getElem?_eq_getElem g,List.getElem?_eq_getElem (show i < vs.length by omega),hn,hvi]
    ·simp [List.getElem?_eq_none g,List.getElem?_eq_none (show vs.length≤i by omega)]
   have hload:=run_loadCells_list (P:=P) w ⟨b,off,none⟩ vs (fun j v hv=>by rw [addr_add]; exact hh j v hv)
   rw [←hl,hvs] at hload
   have hrun:=run_bytesToString w ⟨b,off,none⟩ xs.length cap (xs.map fun v=>match v with | .int _ n=>n | _=>0) hload
   refine ⟨.string ⟨⟨xs.map byteOfV⟩⟩,?_,.str _⟩
   have hfold:∀(ys:List V) (s:ByteArray),(∀v ∈ ys,∃n,v=.int .u8 n)→(ys.map fun v=>match v with | .int _ n=>n | _=>0).foldl (fun r n=>r.push (UInt8.ofNat n.toNat)) s=⟨⟨s.data.toList++ys.map byteOfV⟩⟩:=by
    intro ys
    induction ys with
    | nil=>intro s _; simp
    | cons v ys ih =>
     intro s hv
     obtain ⟨n,rfl⟩:=hv v List.mem_cons_self
     simp only [List.map_cons,List.foldl_cons]
     rw [ih _ (fun u hu=>hv u (List.mem_cons_of_mem _ hu))]
     simp [byteOfV,ByteArray.push]
   rw [hfold xs ByteArray.empty hxs] at hrun
   simp only [execOp,ho,hc,Sem.run_bind,run_convert_bytes_string w src dst e (some ⟨b,off,none⟩) xs.length cap (ty_slc hD he) (ty_int hD hu8) (ty_str hD hk),hrun]
   simp [ByteArray.empty,ByteArray.emptyWithCapacity]
   rfl
 ·rename_i hk hx
  obtain ⟨⟨e,he,hu8⟩,h⟩:=h
  refine ⟨_,h,fun G ev w hop=>?_⟩
  have h1:=hop x (by simp [ho,Op.operands])
  rw [hx] at h1
  generalize hc:ev x=c at h1
  cases h1
  exact ⟨.string ⟨⟨[]⟩⟩,by simp [execOp,ho,hc,run_convert_bytes_string w src dst e none 0 0 (ty_slc hD he) (ty_int hD hu8) (ty_str hD hk),Conv.bytesToString]; rfl,.str _⟩
 ·exact h.elim
theorem ev_fieldAddr {o:Oper} {t:TypeId} {x:Operand} {f:Nat} (ho:o.op=.fieldAddr t x f) {ρ:Operand→V} {k:V→Prop} (h:evFieldAddr D t (ρ x) f k):∃v,k v∧PureOk P o ρ v:=by
 unfold evFieldAddr at h
 split at h
 ·rename_i fs hk
  split at h
  ·rename_i off sz u hf
   obtain ⟨hsz,hu,h⟩:=h
   obtain ⟨fields,hun,hm,hs,_⟩:=ty_strct hD hk
   obtain ⟨i,hi,hsi⟩:=hs _ (List.mem_of_getElem? hf)
   have hfield:∃fl,fields[f]?=some fl∧fl.offset=off∧fl.type=u:=by
    have h1:=congrArg (fun l=>l[f]?) hm
    simp only [List.getElem?_map,hf,Option.map_some] at h1
    cases hq:fields.toList[f]? with
    | none=>rw [hq] at h1; cases h1
    | some fl =>
     rw [hq] at h1
     simp at h1
     exact ⟨fl,by simpa using hq,h1.1,h1.2⟩
   obtain ⟨fl,hfl,hoff,hty⟩:=hfield
   have hsize:∀w,(sizeOf fl.type).run P w=.ok sz w:=by
    intro w
    rw [hty]
    simp [sizeOf,typeInfo,hi]
    exact hsi
   have run:∀(w:World) (b o':Nat),(Instr.fieldAt t (.pointer (some ⟨b,o',none⟩)) f).run P w=.ok (.pointer (some ⟨b,o'+off,none⟩)) w:=by
    intro w b o'
    simp [Instr.fieldAt,run_underlying hun,hfl,Instr.sureAddr,fieldPlace,hsize,hsz,hoff,addr_add]
   split at h
   ·rename_i b o' hx
    refine ⟨_,h,fun G ev w hop=>?_⟩
    have h1:=hop x (by simp [ho,Op.operands])
    rw [hx] at h1
    generalize hc:ev x=c at h1
    cases h1 with
    | ptr hb hkk=>exact ⟨_,by simp [execOp,ho,hc,run],.ptr hb hkk⟩
   ·rename_i e o' hx
    refine ⟨_,h,fun G ev w hop=>?_⟩
    have h1:=hop x (by simp [ho,Op.operands])
    rw [hx] at h1
    generalize hc:ev x=c at h1
    cases h1 with
    | @eptr _ b o2 _ vs hl hv' ho' hh hp =>
     refine ⟨.pointer (some ⟨b,o2+(o'+off),none⟩),by simp [execOp,ho,hc,run,Nat.add_assoc],.eptr vs hl hv' ho' hh hp⟩
   ·exact h.elim
  ·exact h.elim
 ·exact h.elim
theorem part_of_part {t:TypeId} {cs:List V} {off:Nat} {k:V→Prop} (h:evPart D t cs off k) :
  ∃v,k v∧∀(G:Gh) (w:World) (c:Array Value),cs.length=c.size→(∀(i:Nat) (v:V) (u:Value),cs[i]?=some v→c[i]?=some u→VR G w v u)→(∀u ∈ c.toList,u.oneCell'=true) →
   ∃r,(part t c off).run P w=.ok r w∧VR G w v r:=by
 unfold evPart at h
 have agg:∀(hn:((D t).k matches .none)=false),(D t).agg=true→off+(D t).size≤cs.length→∀(G:Gh) (w:World) (c:Array Value),cs.length=c.size →
   (∀(i:Nat) (v:V) (u:Value),cs[i]?=some v→c[i]?=some u→VR G w v u)→(∀u ∈ c.toList,u.oneCell'=true) →
   ∃r,(part t c off).run P w=.ok r w∧VR G w (.agg ((cs.drop off).take (D t).size)) r:=by
  intro hn ha hle G w c hl hr hone
  refine ⟨.agg (c.extract off (off+(D t).size)),by simp [part,run_isAgg hD hn,ha,run_size hD hn],.agg (by simp; omega) ?_ ?_⟩
  ·intro i v u hv hu
   rw [List.getElem?_take] at hv
   split at hv
   ·rename_i hi
    rw [List.getElem?_drop] at hv
    rw [Array.getElem?_extract] at hu
    split at hu
    ·exact hr _ v u hv hu
    ·cases hu
   ·cases hv
  ·intro u hu
   refine hone u ?_
   simp only [Array.toList_extract] at hu
   exact List.mem_of_mem_drop (List.mem_of_mem_take hu)
 have one:∀(hn:((D t).k matches .none)=false) (ha:(D t).agg=false) (v:V),cs[off]?=some v→∀(G:Gh) (w:World) (c:Array Value),cs.length=c.size →
   (∀(i:Nat) (v:V) (u:Value),cs[i]?=some v→c[i]?=some u→VR G w v u)→(∀u ∈ c.toList,u.oneCell'=true) →
   ∃r,(part t c off).run P w=.ok r w∧VR G w v r:=by
  intro hn ha v hv G w c hl hr hone
  have hlt:off < c.size:=by
   rcases Nat.lt_or_ge off cs.length with g | g
   ·omega
   ·rw [List.getElem?_eq_none g] at hv; cases hv
  exact ⟨c[off],by simp [part,run_isAgg hD hn,ha,hlt],hr off v _ hv (Array.getElem?_eq_getElem hlt)⟩
 cases hk:(D t).k with
 | none=>simp [hk] at h
 | strct fs =>
  simp only [hk] at h
  exact ⟨_,h.2,agg (by simp [hk]) (by simp [TD.agg,hk]) h.1⟩
 | _ =>
  simp only [hk] at h
  split at h
  ·rename_i v hv
   exact ⟨v,h,one (by simp [hk]) (by simp [TD.agg,hk]) v hv⟩
  ·exact h.elim
theorem ev_field {o:Oper} {t:TypeId} {x:Operand} {f:Nat} (ho:o.op=.field t x f) {ρ:Operand→V} {k:V→Prop} (h:evField D t (ρ x) f k):∃v,k v∧PureOk P o ρ v:=by
 unfold evField at h
 split at h
 ·rename_i fs cs hk hx
  split at h
  ·rename_i off sz u hf
   obtain ⟨v,hkv,hv⟩:=part_of_part hD h
   obtain ⟨fields,hun,hm,hs,_⟩:=ty_strct hD hk
   have hfield:∃fl,fields[f]?=some fl∧fl.offset=off∧fl.type=u:=by
    have h1:=congrArg (fun l=>l[f]?) hm
    simp only [List.getElem?_map,hf,Option.map_some] at h1
    cases hq:fields.toList[f]? with
    | none=>rw [hq] at h1; cases h1
    | some fl =>
     rw [hq] at h1
     simp at h1
     exact ⟨fl,by simpa using hq,h1.1,h1.2⟩
   obtain ⟨fl,hfl,hoff,hty⟩:=hfield
   refine ⟨v,hkv,fun G ev w hop=>?_⟩
   have h1:=hop x (by simp [ho,Op.operands])
   rw [hx] at h1
   generalize hc:ev x=c at h1
   cases h1 with
   | @agg _ c hl hr hone =>
    obtain ⟨r,hrun,hvr⟩:=hv G w c hl hr hone
    exact ⟨r,by simp [execOp,ho,hc,Instr.field,run_underlying hun,hfl,asAgg,hoff,hty,hrun],hvr⟩
  ·exact h.elim
 ·exact h.elim
theorem ev_index {o:Oper} {t:TypeId} {x i:Operand} (ho:o.op=.index t x i) {ρ:Operand→V} {k:V→Prop} (h:evIndex D t (ρ x) (ρ i) k):∃v,k v∧PureOk P o ρ v:=by
 unfold evIndex at h
 split at h
 ·rename_i s a n hx hi
  obtain ⟨hk,h0,hn,h⟩:=h
  refine ⟨_,h,fun G ev w hop=>?_⟩
  have h1:=hop x (by simp [ho,Op.operands])
  have h2:=hop i (by simp [ho,Op.operands])
  rw [hx] at h1
  rw [hi] at h2
  generalize hc:ev x=c at h1
  generalize hd:ev i=d at h2
  cases h1; cases h2
  have hlt:n.toNat < s.length:=by omega
  have hget:(⟨⟨s⟩⟩:ByteArray)[n.toNat]?=some s[n.toNat]:=by
   show (if h:n.toNat < (⟨⟨s⟩⟩:ByteArray).size then some _ else none)=_
   rw [dif_pos (show n.toNat < (⟨⟨s⟩⟩:ByteArray).size from hlt)]
   rfl
  refine ⟨.int .u8 ((s.getD n.toNat 0).toNat:Int),?_,.int _ _⟩
  simp [execOp,ho,hc,hd,Instr.index,asIntOf,run_underlying (ty_str hD hk),h0,hget,List.getD,List.getElem?_eq_getElem hlt]
 ·exact h.elim
theorem ev_indexAddr {o:Oper} {t:TypeId} {x i:Operand} (ho:o.op=.indexAddr t x i) {ρ:Operand→V} {k:V→Prop} (h:evIndexAddr D t (ρ x) (ρ i) k):∃v,k v∧PureOk P o ρ v:=by
 unfold evIndexAddr at h
 split at h
 ·rename_i tok xs a n hx hi
  obtain ⟨h0,hn,⟨e,hk,hke,hall⟩,h⟩:=h
  have hsz:∀v ∈ xs,v.cells.length=(D e).size:=fun v hv=>by simpa using List.all_eq_true.1 hall v hv
  refine ⟨_,h,fun G ev w hop=>?_⟩
  have h1:=hop x (by simp [ho,Op.operands])
  have h2:=hop i (by simp [ho,Op.operands])
  rw [hx] at h1
  rw [hi] at h2
  generalize hc:ev x=c at h1
  generalize hd:ev i=d at h2
  cases h2
  have hlt:n.toNat < xs.length:=by omega
  cases h1 with
  | rowsNil=>simp at hlt
  | rowsE=>simp at hlt
  | @rows _ _ b off cap vs hl hr hone hh hp hcap ht =>
   have hvl:vs.length=xs.length * (D e).size:=by rw [←hl,flat_len hsz]
   have hle:n.toNat * (D e).size+(D e).size≤vs.length:=by
    rw [hvl,←Nat.succ_mul]; exact Nat.mul_le_mul_right _ hlt
   refine ⟨.pointer (some ⟨b,off+n.toNat * (D e).size,none⟩),?_,?_⟩
   ·simp only [execOp,ho,hc,hd,Instr.indexAt,asIntOf,Sem.run_bind,Sem.run_pure,Result.andThen_ok,run_underlying (ty_slc hD hk)]
    simp [h0,hn,run_size hD hke,addr_add]
   ·have hcl:(xs.getD n.toNat .junk).cells.length=(D e).size:=by
     rw [List.getD,List.getElem?_eq_getElem hlt]; exact hsz _ (List.getElem_mem _)
    refine .eptr (o:=off+n.toNat * (D e).size) ((vs.drop (n.toNat * (D e).size)).take (D e).size) (by rw [hcl]; simp; omega) ?_ ?_ ?_ (by simp; omega)
    ·intro j v u hv hu
     rw [List.getElem?_take] at hu
     split at hu
     ·rename_i hj
      rw [List.getElem?_drop] at hu
      exact hr _ v u (by rw [flat_get hsz _ hlt j hj]; exact hv) hu
     ·cases hu
    ·intro u hu
     exact hone u (List.mem_of_mem_drop (List.mem_of_mem_take hu))
    ·intro j u hu
     rw [List.getElem?_take] at hu
     split at hu
     ·rw [List.getElem?_drop] at hu
      rw [Nat.add_assoc]
      exact hh _ u hu
     ·cases hu
 ·rename_i bl l a n hx hi
  obtain ⟨h0,hn,h⟩:=h
  split at h
  ·rename_i e hk
   obtain ⟨hke,h⟩:=h
   refine ⟨_,h,fun G ev w hop=>?_⟩
   have h1:=hop x (by simp [ho,Op.operands])
   have h2:=hop i (by simp [ho,Op.operands])
   rw [hx] at h1
   rw [hi] at h2
   generalize hc:ev x=c at h1
   generalize hd:ev i=d at h2
   cases h2
   cases h1 with
   | heapNil=>omega
   | heap hb hok hcap hlim =>
    refine ⟨.pointer (some ⟨G.blk bl,n.toNat * (D e).size,none⟩),?_,.ptr hb hok⟩
    simp only [execOp,ho,hc,hd,Instr.indexAt,asIntOf,Sem.run_bind,Sem.run_pure,Result.andThen_ok,run_underlying (ty_slc hD hk)]
    simp [h0,hn,run_size hD hke,addr_add]
  ·exact h.elim
 ·exact h.elim
theorem ev_len {o:Oper} {t:TypeId} {x:Operand} {c:Call} (ho:o.op=.call c) (hb:c.callee=.builtin .len) (hts:∃ts,c.argTypes.toList=t :: ts) (hx:c.args=#[x]) {ρ:Operand→V} {k:V→Prop}
  (h:evLen D t (ρ x) k):∃v,k v∧PureOk P o ρ v:=by
 obtain ⟨ts,hts⟩:=hts
 have h0:c.argTypes[0]?=some t:=by
  have:c.argTypes.toList[0]?=some t:=by rw [hts]; rfl
  simpa using this
 have fin:∀(ev:Operand→Value) (w:World) (r:Value),(Builtin.len_ c.argTypes o.type #[ev x]).run P w=.ok r w→(execOp ev o).run P w=.ok (.value r) w:=by
  intro ev w r hr
  simp [execOp,ho,resolve,hb,hx,invoke,builtin,hr]
 unfold evLen at h
 split at h
 ·rename_i s hxx
  obtain ⟨hk,h⟩:=h
  refine ⟨_,h,fun G ev w hop=>?_⟩
  have h1:=hop x (by simp [ho,Op.operands,Call.operands,hb,hx])
  rw [hxx] at h1
  generalize hc:ev x=cx at h1
  cases h1
  exact ⟨.int .i64 s.length,fin ev w _ (by rw [hc]; simp [Builtin.len_,h0,run_underlying (ty_str hD hk),goInt]; rfl),.int _ _⟩
 ·rename_i tok xs hxx
  obtain ⟨⟨e,hk⟩,h⟩:=h
  refine ⟨_,h,fun G ev w hop=>?_⟩
  have h1:=hop x (by simp [ho,Op.operands,Call.operands,hb,hx])
  rw [hxx] at h1
  generalize hc:ev x=cx at h1
  refine ⟨.int .i64 xs.length,fin ev w _ ?_,.int _ _⟩
  rw [hc]
  cases h1 <;> simp [Builtin.len_,h0,run_underlying (ty_slc hD hk),goInt]
 ·rename_i hxx
  obtain ⟨⟨e,hk⟩,h⟩:=h
  refine ⟨_,h,fun G ev w hop=>?_⟩
  have h1:=hop x (by simp [ho,Op.operands,Call.operands,hb,hx])
  rw [hxx] at h1
  generalize hc:ev x=cx at h1
  refine ⟨.int .i64 0,fin ev w _ ?_,.int _ _⟩
  rw [hc]
  cases h1; simp [Builtin.len_,h0,run_underlying (ty_slc hD hk),goInt]
 ·rename_i b n hxx
  obtain ⟨⟨e,hk⟩,h⟩:=h
  refine ⟨_,h,fun G ev w hop=>?_⟩
  have h1:=hop x (by simp [ho,Op.operands,Call.operands,hb,hx])
  rw [hxx] at h1
  generalize hc:ev x=cx at h1
  refine ⟨.int .i64 n,fin ev w _ ?_,.int _ _⟩
  rw [hc]
  cases h1 <;> simp [Builtin.len_,h0,run_underlying (ty_slc hD hk),goInt]
 ·exact h.elim
end
end
end Go.Proofs.Ytldogccmhncnoaa
