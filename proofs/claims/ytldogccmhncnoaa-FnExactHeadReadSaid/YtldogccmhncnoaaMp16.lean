/- A part of the proof: contracts of functions, or plain facts on which these lean. -/
import Derived.Test.YtldogccmhncnoaaMp14
import Derived.Test.YtldogccmhncnoaaMp15
namespace Go.Proofs.Ytldogccmhncnoaa
open Go
set_option linter.unusedVariables false
set_option linter.unusedSimpArgs false
set_option maxRecDepth 100000
set_option maxHeartbeats 16000000

section
open Go
def wordR (b:List UInt8):Option (List UInt8 × Nat):=match numR b 7 with
 | none=>none
 | some (n,s)=>if n≤16∧s+n≤b.length then
   (if 128≤(b.getD 0 0).toNat then (unpackM ((b.drop s).take n)).map (fun x=>(x,s+n)) else if wordOk ((b.drop s).take n)=true then some ((b.drop s).take n,s+n) else none) else none
def wrV (o:Option (List UInt8 × Nat)):V:=match o with
 | some (w,n)=>.tup [.str w,.int .i64 n,.bool true]
 | none=>.tup [.str [],.int .i64 0,.bool false]
theorem unpackM_word {b w:List UInt8} (h:unpackM b=some w):wordOk w=true:=by
 unfold unpackM at h
 split at h
 ·split at h
  ·rename_i hk
   cases h
   rw [wordOk_un]
   simp only [unOk,Bool.and_eq_true] at hk
   exact hk.2
  ·cases h
 ·cases h
theorem wordR_bound {b w:List UInt8} {n:Nat} (h:wordR b=some (w,n)):wordOk w=true∧1≤n∧n≤b.length:=by
 unfold wordR at h
 split at h
 ·cases h
 ·rename_i n' s hn
  obtain ⟨h1,h2,h3,h4⟩:=numR_bound (by decide) hn
  split at h
  ·rename_i hc
   split at h
   ·cases hu:unpackM ((b.drop s).take n') with
    | none=>rw [hu] at h; cases h
    | some x =>
     rw [hu] at h
     cases h
     exact ⟨unpackM_word hu,by omega,by omega⟩
   ·split at h
    ·rename_i hw
     cases h
     exact ⟨hw,by omega,by omega⟩
    ·cases h
  ·cases h
theorem WordRead_ok (b:List UInt8) (hb:b.length≤1000000) (S:List Blk):VCall Try.prog 37 [.str b] S fun r S'=>r=wrV (wordR b)∧S'=S:=by
 refine VCall.en hD Try.func37 Try.ntmps37 Try.results37 ?_
 simp -implicitDefEqProofs (disch:=omega) only [push_cast,simprocAttr,↓gd]
 refine ((NumRead_ok b 7 (by omega) (by omega) _).as (by simp)).to ?_
 cases hn:numR b 7 with
 | none =>
  simp -implicitDefEqProofs (disch:=omega) only [push_cast,simprocAttr,nrV,↓gd]
  exact fin0 (by rw [wordR,hn]; rfl)
 | some x =>
  obtain ⟨n,s⟩:=x
  obtain ⟨h1,h2,h3,h4⟩:=numR_bound (by decide) hn
  have hw:wordR b=if n≤16∧s+n≤b.length then
   (if 128≤(b.getD 0 0).toNat then (unpackM ((b.drop s).take n)).map (fun x=>(x,s+n)) else if wordOk ((b.drop s).take n)=true then some ((b.drop s).take n,s+n) else none) else none:=by rw [wordR,hn]
  by_cases h16:n≤16
  ·have h16':¬((n:Int) > 16):=by omega
   by_cases hsn:s+n≤b.length
   ·have hsn':¬((s:Int)+n > b.length):=by omega
    rw [if_pos ⟨h16,hsn⟩] at hw
    have hsl:List.drop s (List.take ((s:Int)+n).toNat b)=(b.drop s).take n:=by rw [show ((s:Int)+n).toNat=s+n by omega,List.drop_take,Nat.add_sub_cancel_left]
    have hwl:((b.drop s).take n).length≤1000:=by simp; omega
    generalize hwd:(b.drop s).take n=w at hsl hw hwl
    generalize hc:b.getD 0 0=c at hw
    have hcn:=c.toNat_lt
    by_cases hc8:128≤c.toNat
    ·rw [if_pos hc8] at hw
     have hc8':((c.toNat:Int) ≥ 128):=by omega
     simp -implicitDefEqProofs (disch:=omega) only [push_cast,simprocAttr,nrV,h16',hsn',hsl,hc,hc8',↓gd]
     refine ⟨by omega,by omega,by omega,by omega,(WordUnpack_ok w (by omega) _).to ?_⟩
     cases hu:unpackM w with
     | none =>
      simp -implicitDefEqProofs (disch:=omega) only [push_cast,simprocAttr,unV,↓gd]
      exact fin0 (by rw [hw,hu]; rfl)
     | some x =>
      have hx:=unpackM_word hu
      have hxl:=(wordOk_signs hx).2
      simp -implicitDefEqProofs (disch:=omega) only [push_cast,simprocAttr,unV,↓gd]
      refine (WordOk_ok x (by omega) _).to ?_
      rw [hx]
      simp -implicitDefEqProofs (disch:=omega) only [push_cast,simprocAttr,↓gd]
      exact fin0 (by rw [hw,hu]; simp [wrV])
    ·have hc8':¬((c.toNat:Int) ≥ 128):=by omega
     rw [if_neg hc8] at hw
     simp -implicitDefEqProofs (disch:=omega) only [push_cast,simprocAttr,nrV,h16',hsn',hsl,hc,hc8',↓gd]
     refine ⟨by omega,by omega,by omega,by omega,(WordOk_ok w (by omega) _).to ?_⟩
     cases hk:wordOk w
     ·simp -implicitDefEqProofs (disch:=omega) only [push_cast,simprocAttr,↓gd]
      exact fin0 (by rw [hw,hk]; rfl)
     ·simp -implicitDefEqProofs (disch:=omega) only [push_cast,simprocAttr,↓gd]
      exact fin0 (by rw [hw,hk]; simp [wrV])
   ·have hsn':((s:Int)+n > b.length):=by omega
    simp -implicitDefEqProofs (disch:=omega) only [push_cast,simprocAttr,nrV,h16',hsn',↓gd]
    exact fin0 (by rw [hw,if_neg (fun h=>hsn h.2)]; rfl)
  ·have h16':((n:Int) > 16):=by omega
   simp -implicitDefEqProofs (disch:=omega) only [push_cast,simprocAttr,nrV,h16',↓gd]
   exact fin0 (by rw [hw,if_neg (fun h=>h16 h.1)]; rfl)
def atR (l:List Fd) (place:Nat):Option Fd:=if 1≤place∧place≤l.length+6 then some ((fixedFds++l).getD (place - 1) fd0) else none
def arV (o:Option Fd):V:=match o with
 | some f=>.tup [fV f,.bool true]
 | none=>.tup [fV fd0,.bool false]
theorem all_len (l:List Fd):(fixedFds++l).length=l.length+6:=by simp [fixedFds]
theorem fixed_ok:∀f ∈ fixedFds,fieldOk f=true∧f.never=false:=by decide
theorem atR_mem {l:List Fd} {place:Nat} {f:Fd} (h:atR l place=some f):f ∈ fixedFds++l:=by
 unfold atR at h
 split at h
 ·rename_i hc
  cases h
  exact getD_fd_mem (by rw [all_len]; omega)
 ·cases h
theorem at_ok (l:List Fd) (max:Int) (place:Nat) (hl:l.length≤1000000) (hp:place≤1000000) (S:List Blk):VCall Try.prog 36 [tV l max,.int .i64 place] S fun r S'=>r=arV (atR l place)∧S'=S:=by
 refine VCall.en hD Try.func36 Try.ntmps36 Try.results36 ?_
 simp -implicitDefEqProofs (disch:=omega) only [push_cast,simprocAttr,↓gd]
 refine (all_ok l max (by omega) _).to ?_
 have hal:=all_len l
 generalize hw:fixedFds++l=w at hal
 simp -implicitDefEqProofs (disch:=omega) only [push_cast,simprocAttr,↓gd]
 by_cases h:1≤place∧place≤l.length+6
 ·have hgd:=getD_fV (l:=w) (i:=place - 1) (by omega)
  have hat:atR l place=some (w.getD (place - 1) fd0):=by rw [atR,if_pos h,hw]
  generalize w.getD (place - 1) fd0=f at hgd hat
  have hpl:((place:Int) - 1).toNat=place - 1:=by omega
  refine (in_t (by omega) _).to ?_
  simp -implicitDefEqProofs (disch:=omega) only [push_cast,simprocAttr,hpl,hgd,↓gd]
  refine ⟨by omega,by omega,fin1 (Cl.two (cl_fV _ f) (.bool _)) (by rw [hat]; rfl)⟩
 ·refine (in_f (by omega) _).to ?_
  simp -implicitDefEqProofs (disch:=omega) only [push_cast,simprocAttr,↓gd]
  refine fin1 (Cl.two (cl_fV _ fd0) (.bool _)) ?_
  rw [atR,if_neg h]
  rfl
def nameR (l:List Fd) (b:List UInt8) (p s:Nat):Option (List UInt8 × Nat):=if p=0 then (wordR (b.drop s)).map (fun x=>(x.1,s+x.2)) else (atR l p).map (fun f=>(f.name,s))
def litR (l:List Fd) (b:List UInt8) (bits:Nat):Option (Fd × Nat × Nat):=match numR b bits with
 | none=>none
 | some (p,s)=>match nameR l b p s with
  | none=>none
  | some (nm,s2)=>match wordR (b.drop s2) with
   | none=>none
   | some (v,n)=>if fieldOk ⟨nm,v,bits == 4⟩=true then some (⟨nm,v,bits == 4⟩,s2+n,bits) else none
def idxR (l:List Fd) (b:List UInt8):Option (Fd × Nat × Nat):=match numR b 7 with
 | none=>none
 | some (p,s)=>(atR l p).map (fun f=>(f,s,7))
def fieldR (l:List Fd) (b:List UInt8):Option (Fd × Nat × Nat) :=
 if 128≤(b.getD 0 0).toNat then idxR l b else if 64≤(b.getD 0 0).toNat then litR l b 6 else if 16≤(b.getD 0 0).toNat∧(b.getD 0 0).toNat < 32 then litR l b 4 else none
def FrRes (o:Option (Fd × Nat × Nat)) (r:V):Prop:=match o with
 | some (f,s,bits)=>r=.tup [fV f,.int .i64 s,.int .i64 bits,.bool true]
 | none=>∃(f:Fd) (s bits:Int),r=.tup [fV f,.int .i64 s,.int .i64 bits,.bool false]
theorem field_ok (l:List Fd) (max:Int) (b:List UInt8) (hl:l.length≤1000000) (hb:b.length≤1000000) (hne:b≠[]) (hall:∀f ∈ fixedFds++l,FdB f) (S:List Blk) :
  VCall Try.prog 19 [tV l max,.str b] S fun r S'=>FrRes (fieldR l b) r∧S'=S:=by
 have hpos:0 < b.length:=List.length_pos_iff.2 hne
 obtain ⟨c,hc⟩:∃c,c=b.getD 0 0:=⟨_,rfl⟩
 have hcn:=c.toNat_lt
 have hz:∀(X:List Blk),∃r S2,Wk S (.tup [.agg [.str [],.str [],.bool false],.int .i64 0,.int .i64 0,.bool false]) (S++X) r S2∧FrRes none r∧S2=S :=
  fun X=>⟨_,_,Wk.pure (Cl.four (cl_fV _ fd0) (.int _ _) (.int _ _) (.bool _)),⟨fd0,0,0,rfl⟩,rfl⟩
 refine VCall.ex hD (fun _=>false) (fun id=>if id=25 then [10,14,14,14,14,8,8,8,10,14,14,14,14,14] else []) Try.func19 Try.ntmps19 Try.results19 ?_
 simp -implicitDefEqProofs (disch:=omega) only [push_cast,simprocAttr,←hc,↓gd]
 refine ⟨by omega,?_⟩
 by_cases h128:128≤c.toNat
 ·have h128':(c.toNat:Int) ≥ 128:=by omega
  simp -implicitDefEqProofs (disch:=omega) only [push_cast,simprocAttr,←hc,h128',↓gd]
  have hf0:fieldR l b=idxR l b:=by rw [fieldR,←hc,if_pos h128]
  refine ((NumRead_ok b 7 (by omega) (by omega) _).as (by simp)).to ?_
  cases hn:numR b 7 with
  | none =>
   have hfr:fieldR l b=none:=by rw [hf0,idxR,hn]
   simp -implicitDefEqProofs (disch:=omega) only [push_cast,simprocAttr,nrV,↓gd]
   rw [hfr]
   exact hz _
  | some x =>
   obtain ⟨q,s⟩:=x
   obtain ⟨g1,g2,g3,g4⟩:=numR_bound (by decide) hn
   have hfr:fieldR l b=(atR l q).map (fun f=>(f,s,7)):=by rw [hf0,idxR,hn]
   simp -implicitDefEqProofs (disch:=omega) only [push_cast,simprocAttr,nrV,↓gd]
   refine ((at_ok l max q hl (by omega) _).as rfl).to ?_
   rw [hfr]
   cases hat:atR l q with
   | none =>
    simp -implicitDefEqProofs (disch:=omega) only [push_cast,simprocAttr,arV,↓gd]
    exact ⟨_,_,Wk.pure (Cl.four (cl_fV _ fd0) (.int _ _) (.int _ _) (.bool _)),⟨fd0,_,_,rfl⟩,rfl⟩
   | some g =>
    simp -implicitDefEqProofs (disch:=omega) only [push_cast,simprocAttr,arV,↓gd]
    exact ⟨_,_,Wk.pure (Cl.four (cl_fV _ g) (.int _ _) (.int _ _) (.bool _)),rfl,rfl⟩
 have h128':¬(c.toNat:Int) ≥ 128:=by omega
 by_cases h64:64≤c.toNat
 ·have h64':(c.toNat:Int) ≥ 64:=by omega
  have hf0:fieldR l b=litR l b 6:=by rw [fieldR,←hc,if_neg h128,if_pos h64]
  simp -implicitDefEqProofs (disch:=omega) only [push_cast,simprocAttr,←hc,h128',h64',↓gd]
  refine ((NumRead_ok b 6 (by omega) (by omega) _).as (by simp)).to ?_
  cases hn:numR b 6 with
  | none =>
   have hfr:fieldR l b=none:=by rw [hf0,litR,hn]
   simp -implicitDefEqProofs (disch:=omega) only [push_cast,simprocAttr,nrV,↓gd]
   rw [hfr]
   exact hz _
  | some x =>
   obtain ⟨q,s⟩:=x
   obtain ⟨g1,g2,g3,g4⟩:=numR_bound (by decide) hn
   simp -implicitDefEqProofs (disch:=omega) only [push_cast,simprocAttr,nrV,↓gd]
   refine ((at_ok l max q hl (by omega) _).as rfl).to ?_
   have hlit:fieldR l b=match nameR l b q s with
     | none=>none
     | some (nm,s2)=>match wordR (b.drop s2) with
      | none=>none
      | some (v,n)=>if fieldOk ⟨nm,v,false⟩=true then some (⟨nm,v,false⟩,s2+n,6) else none:=by rw [hf0,litR,hn]; rfl
   by_cases hq:q=0
   ·have hq':(q:Int)=0:=by omega
    have hnm:nameR l b q s=(wordR (b.drop s)).map (fun x=>(x.1,s+x.2)):=by rw [nameR,if_pos hq]
    have hat:atR l q=none:=by rw [atR,if_neg (by omega)]
    rw [hat]
    rw [hnm] at hlit
    have hds:(b.take b.length).drop s=b.drop s:=by rw [List.take_length]
    simp -implicitDefEqProofs (disch:=omega) only [push_cast,simprocAttr,arV,hq',hds,fd0,↓gd]
    refine ⟨by omega,by omega,by omega,(WordRead_ok (b.drop s) (by simp; omega) _).to ?_⟩
    cases hw:wordR (b.drop s) with
    | none =>
     rw [hw] at hlit
     simp -implicitDefEqProofs (disch:=omega) only [push_cast,simprocAttr,wrV,↓gd]
     rw [hlit]
     exact hz _
    | some y =>
     obtain ⟨nm,n⟩:=y
     obtain ⟨w1,w2,w3⟩:=wordR_bound hw
     simp only [List.length_drop] at w3
     have hds2:(b.take b.length).drop ((s:Int)+n).toNat=b.drop (s+n):=by rw [List.take_length,show ((s:Int)+n).toNat=s+n by omega]
     rw [hw] at hlit
     simp only [Option.map_some] at hlit
     have hnl:=(wordOk_signs w1).2
     simp -implicitDefEqProofs (disch:=omega) only [push_cast,simprocAttr,wrV,hds2,↓gd]
     refine ⟨by omega,by omega,by omega,(WordRead_ok (b.drop (s+n)) (by simp; omega) _).to ?_⟩
     cases hv:wordR (b.drop (s+n)) with
     | none =>
      rw [hv] at hlit
      simp -implicitDefEqProofs (disch:=omega) only [push_cast,simprocAttr,wrV,↓gd]
      rw [hlit]
      exact ⟨_,_,Wk.pure (Cl.four (cl_fV _ ⟨nm,[],false⟩) (.int _ _) (.int _ _) (.bool _)),⟨⟨nm,[],false⟩,_,_,rfl⟩,rfl⟩
     | some z =>
      obtain ⟨v,n2⟩:=z
      obtain ⟨v1,v2,v3⟩:=wordR_bound hv
      simp only [List.length_drop] at v3
      have hvl:=(wordOk_signs v1).2
      rw [hv] at hlit
      simp only at hlit
      simp -implicitDefEqProofs (disch:=omega) only [push_cast,simprocAttr,wrV,↓gd]
      refine ((FieldOk_ok ⟨nm,v,false⟩ ⟨by simp only; omega,by simp only; omega⟩ _).as rfl).to ?_
      cases hk:fieldOk ⟨nm,v,false⟩
      ·rw [hk,if_neg (by decide)] at hlit
       simp -implicitDefEqProofs (disch:=omega) only [push_cast,simprocAttr,↓gd]
       rw [hlit]
       exact ⟨_,_,Wk.pure (Cl.four (cl_fV _ ⟨nm,v,false⟩) (.int _ _) (.int _ _) (.bool _)),⟨⟨nm,v,false⟩,_,_,rfl⟩,rfl⟩
      ·rw [hk,if_pos rfl] at hlit
       simp -implicitDefEqProofs (disch:=omega) only [push_cast,simprocAttr,↓gd]
       rw [hlit]
       exact ⟨_,_,Wk.pure (Cl.four (cl_fV _ ⟨nm,v,false⟩) (.int _ _) (.int _ _) (.bool _)),by simp [FrRes,fV],rfl⟩
   ·have hq':¬(q:Int)=0:=by omega
    have hnm:nameR l b q s=(atR l q).map (fun f=>(f.name,s)):=by rw [nameR,if_neg hq]
    rw [hnm] at hlit
    cases hat:atR l q with
    | none =>
     rw [hat] at hlit
     simp -implicitDefEqProofs (disch:=omega) only [push_cast,simprocAttr,arV,hq',fd0,↓gd]
     rw [hlit]
     exact hz _
    | some g =>
     rw [hat] at hlit
     simp only [Option.map_some] at hlit
     have hgm:=hall g (atR_mem hat)
     have hds:(b.take b.length).drop s=b.drop s:=by rw [List.take_length]
     simp -implicitDefEqProofs (disch:=omega) only [push_cast,simprocAttr,arV,hq',hds,↓gd]
     refine ⟨by omega,by omega,by omega,(WordRead_ok (b.drop s) (by simp; omega) _).to ?_⟩
     cases hv:wordR (b.drop s) with
     | none =>
      rw [hv] at hlit
      simp -implicitDefEqProofs (disch:=omega) only [push_cast,simprocAttr,wrV,↓gd]
      rw [hlit]
      exact ⟨_,_,Wk.pure (Cl.four (cl_fV _ ⟨g.name,[],false⟩) (.int _ _) (.int _ _) (.bool _)),⟨⟨g.name,[],false⟩,_,_,rfl⟩,rfl⟩
     | some z =>
      obtain ⟨v,n2⟩:=z
      obtain ⟨v1,v2,v3⟩:=wordR_bound hv
      simp only [List.length_drop] at v3
      have hvl:=(wordOk_signs v1).2
      rw [hv] at hlit
      simp only at hlit
      simp -implicitDefEqProofs (disch:=omega) only [push_cast,simprocAttr,wrV,↓gd]
      refine ((FieldOk_ok ⟨g.name,v,false⟩ ⟨hgm.1,by simp only; omega⟩ _).as rfl).to ?_
      cases hk:fieldOk ⟨g.name,v,false⟩
      ·rw [hk,if_neg (by decide)] at hlit
       simp -implicitDefEqProofs (disch:=omega) only [push_cast,simprocAttr,↓gd]
       rw [hlit]
       exact ⟨_,_,Wk.pure (Cl.four (cl_fV _ ⟨g.name,v,false⟩) (.int _ _) (.int _ _) (.bool _)),⟨⟨g.name,v,false⟩,_,_,rfl⟩,rfl⟩
      ·rw [hk,if_pos rfl] at hlit
       simp -implicitDefEqProofs (disch:=omega) only [push_cast,simprocAttr,↓gd]
       rw [hlit]
       exact ⟨_,_,Wk.pure (Cl.four (cl_fV _ ⟨g.name,v,false⟩) (.int _ _) (.int _ _) (.bool _)),by simp [FrRes,fV],rfl⟩
 have h64':¬(c.toNat:Int) ≥ 64:=by omega
 by_cases h16:16≤c.toNat
 ·have h16':(c.toNat:Int) ≥ 16:=by omega
  by_cases h32:c.toNat < 32
  ·have h32':(c.toNat:Int) < 32:=by omega
   have hf0:fieldR l b=litR l b 4:=by rw [fieldR,←hc,if_neg h128,if_neg h64,if_pos ⟨h16,h32⟩]
   simp -implicitDefEqProofs (disch:=omega) only [push_cast,simprocAttr,←hc,h128',h64',h16',h32',↓gd]
   refine ((NumRead_ok b 4 (by omega) (by omega) _).as (by simp)).to ?_
   cases hn:numR b 4 with
   | none =>
    have hfr:fieldR l b=none:=by rw [hf0,litR,hn]
    simp -implicitDefEqProofs (disch:=omega) only [push_cast,simprocAttr,nrV,↓gd]
    rw [hfr]
    exact hz _
   | some x =>
    obtain ⟨q,s⟩:=x
    obtain ⟨g1,g2,g3,g4⟩:=numR_bound (by decide) hn
    simp -implicitDefEqProofs (disch:=omega) only [push_cast,simprocAttr,nrV,↓gd]
    refine ((at_ok l max q hl (by omega) _).as rfl).to ?_
    have hlit:fieldR l b=match nameR l b q s with
      | none=>none
      | some (nm,s2)=>match wordR (b.drop s2) with
       | none=>none
       | some (v,n)=>if fieldOk ⟨nm,v,true⟩=true then some (⟨nm,v,true⟩,s2+n,4) else none:=by rw [hf0,litR,hn]; rfl
    by_cases hq:q=0
    ·have hq':(q:Int)=0:=by omega
     have hnm:nameR l b q s=(wordR (b.drop s)).map (fun x=>(x.1,s+x.2)):=by rw [nameR,if_pos hq]
     have hat:atR l q=none:=by rw [atR,if_neg (by omega)]
     rw [hat]
     rw [hnm] at hlit
     have hds:(b.take b.length).drop s=b.drop s:=by rw [List.take_length]
     simp -implicitDefEqProofs (disch:=omega) only [push_cast,simprocAttr,arV,hq',hds,fd0,↓gd]
     refine ⟨by omega,by omega,by omega,(WordRead_ok (b.drop s) (by simp; omega) _).to ?_⟩
     cases hw:wordR (b.drop s) with
     | none =>
      rw [hw] at hlit
      simp -implicitDefEqProofs (disch:=omega) only [push_cast,simprocAttr,wrV,↓gd]
      rw [hlit]
      exact hz _
     | some y =>
      obtain ⟨nm,n⟩:=y
      obtain ⟨w1,w2,w3⟩:=wordR_bound hw
      simp only [List.length_drop] at w3
      have hds2:(b.take b.length).drop ((s:Int)+n).toNat=b.drop (s+n):=by rw [List.take_length,show ((s:Int)+n).toNat=s+n by omega]
      rw [hw] at hlit
      simp only [Option.map_some] at hlit
      have hnl:=(wordOk_signs w1).2
      simp -implicitDefEqProofs (disch:=omega) only [push_cast,simprocAttr,wrV,hds2,↓gd]
      refine ⟨by omega,by omega,by omega,(WordRead_ok (b.drop (s+n)) (by simp; omega) _).to ?_⟩
      cases hv:wordR (b.drop (s+n)) with
      | none =>
       rw [hv] at hlit
       simp -implicitDefEqProofs (disch:=omega) only [push_cast,simprocAttr,wrV,↓gd]
       rw [hlit]
       exact ⟨_,_,Wk.pure (Cl.four (cl_fV _ ⟨nm,[],true⟩) (.int _ _) (.int _ _) (.bool _)),⟨⟨nm,[],true⟩,_,_,rfl⟩,rfl⟩
      | some z =>
       obtain ⟨v,n2⟩:=z
       obtain ⟨v1,v2,v3⟩:=wordR_bound hv
       simp only [List.length_drop] at v3
       have hvl:=(wordOk_signs v1).2
       rw [hv] at hlit
       simp only at hlit
       simp -implicitDefEqProofs (disch:=omega) only [push_cast,simprocAttr,wrV,↓gd]
       refine ((FieldOk_ok ⟨nm,v,true⟩ ⟨by simp only; omega,by simp only; omega⟩ _).as rfl).to ?_
       cases hk:fieldOk ⟨nm,v,true⟩
       ·rw [hk,if_neg (by decide)] at hlit
        simp -implicitDefEqProofs (disch:=omega) only [push_cast,simprocAttr,↓gd]
        rw [hlit]
        exact ⟨_,_,Wk.pure (Cl.four (cl_fV _ ⟨nm,v,true⟩) (.int _ _) (.int _ _) (.bool _)),⟨⟨nm,v,true⟩,_,_,rfl⟩,rfl⟩
       ·rw [hk,if_pos rfl] at hlit
        simp -implicitDefEqProofs (disch:=omega) only [push_cast,simprocAttr,↓gd]
        rw [hlit]
        exact ⟨_,_,Wk.pure (Cl.four (cl_fV _ ⟨nm,v,true⟩) (.int _ _) (.int _ _) (.bool _)),by simp [FrRes,fV],rfl⟩
    ·have hq':¬(q:Int)=0:=by omega
     have hnm:nameR l b q s=(atR l q).map (fun f=>(f.name,s)):=by rw [nameR,if_neg hq]
     rw [hnm] at hlit
     cases hat:atR l q with
     | none =>
      rw [hat] at hlit
      simp -implicitDefEqProofs (disch:=omega) only [push_cast,simprocAttr,arV,hq',fd0,↓gd]
      rw [hlit]
      exact hz _
     | some g =>
      rw [hat] at hlit
      simp only [Option.map_some] at hlit
      have hgm:=hall g (atR_mem hat)
      have hds:(b.take b.length).drop s=b.drop s:=by rw [List.take_length]
      simp -implicitDefEqProofs (disch:=omega) only [push_cast,simprocAttr,arV,hq',hds,↓gd]
      refine ⟨by omega,by omega,by omega,(WordRead_ok (b.drop s) (by simp; omega) _).to ?_⟩
      cases hv:wordR (b.drop s) with
      | none =>
       rw [hv] at hlit
       simp -implicitDefEqProofs (disch:=omega) only [push_cast,simprocAttr,wrV,↓gd]
       rw [hlit]
       exact ⟨_,_,Wk.pure (Cl.four (cl_fV _ ⟨g.name,[],true⟩) (.int _ _) (.int _ _) (.bool _)),⟨⟨g.name,[],true⟩,_,_,rfl⟩,rfl⟩
      | some z =>
       obtain ⟨v,n2⟩:=z
       obtain ⟨v1,v2,v3⟩:=wordR_bound hv
       simp only [List.length_drop] at v3
       have hvl:=(wordOk_signs v1).2
       rw [hv] at hlit
       simp only at hlit
       simp -implicitDefEqProofs (disch:=omega) only [push_cast,simprocAttr,wrV,↓gd]
       refine ((FieldOk_ok ⟨g.name,v,true⟩ ⟨hgm.1,by simp only; omega⟩ _).as rfl).to ?_
       cases hk:fieldOk ⟨g.name,v,true⟩
       ·rw [hk,if_neg (by decide)] at hlit
        simp -implicitDefEqProofs (disch:=omega) only [push_cast,simprocAttr,↓gd]
        rw [hlit]
        exact ⟨_,_,Wk.pure (Cl.four (cl_fV _ ⟨g.name,v,true⟩) (.int _ _) (.int _ _) (.bool _)),⟨⟨g.name,v,true⟩,_,_,rfl⟩,rfl⟩
       ·rw [hk,if_pos rfl] at hlit
        simp -implicitDefEqProofs (disch:=omega) only [push_cast,simprocAttr,↓gd]
        rw [hlit]
        exact ⟨_,_,Wk.pure (Cl.four (cl_fV _ ⟨g.name,v,true⟩) (.int _ _) (.int _ _) (.bool _)),by simp [FrRes,fV],rfl⟩
  ·have h32':¬(c.toNat:Int) < 32:=by omega
   have hf0:fieldR l b=none:=by rw [fieldR,←hc,if_neg h128,if_neg h64,if_neg (fun h=>h32 h.2)]
   simp -implicitDefEqProofs (disch:=omega) only [push_cast,simprocAttr,←hc,h128',h64',h16',h32',↓gd]
   rw [hf0]
   exact hz _
 ·have h16':¬(c.toNat:Int) ≥ 16:=by omega
  have hf0:fieldR l b=none:=by rw [fieldR,←hc,if_neg h128,if_neg h64,if_neg (fun h=>h16 h.1)]
  simp -implicitDefEqProofs (disch:=omega) only [push_cast,simprocAttr,←hc,h128',h64',h16',↓gd]
  rw [hf0]
  exact hz _
end
section
open Go
def headR:Nat→List Fd→Int→List UInt8→Nat→Option (List Fd × List Fd)
 | 0,l,_,b,_=>if b=[] then some (l,[]) else none
 | k+1,l,max,b,c=>if b=[] then some (l,[]) else match fieldR l b with
  | none=>none
  | some (f,s,bits)=>if c=6 then none else (headR k (if bits=6 then fitL (f :: l) max else l) max (b.drop s) (c+1)).map (fun x=>(x.1,f :: x.2))
def hrM (l:List Fd) (max:Int) (b:List UInt8):Option (List Fd × List Fd):=if tableOk l max=true∧b.length≤250 then headR b.length l max b 0 else none
def hrV (max:Int) (o:Option (List Fd × List Fd)):V:=match o with
 | some (l,h)=>.tup [tV l max,.rows none (h.map fV),.bool true]
 | none=>.tup [tV [] 0,.rows none [],.bool false]
theorem litR_bound {l:List Fd} {b:List UInt8} {w bits s:Nat} {f:Fd} (hb:b.length≤1000000) (hw:w≤7) (h:litR l b w=some (f,s,bits)):fieldOk f=true∧1≤s∧s≤b.length∧bits=w∧f.never=(w == 4):=by
 unfold litR at h
 split at h
 ·cases h
 ·rename_i p s1 hn
  obtain ⟨h1,h2,h3,h4⟩:=numR_bound hw hn
  split at h
  ·cases h
  ·rename_i nm s2 hnm
   have hs2:s1≤s2∧s2≤b.length:=by
    unfold nameR at hnm
    split at hnm
    ·cases hwr:wordR (b.drop s1) with
     | none=>rw [hwr] at hnm; cases hnm
     | some y =>
      obtain ⟨a,n⟩:=y
      rw [hwr] at hnm
      cases hnm
      have:=wordR_bound hwr
      simp only [List.length_drop] at this
      simp only
      omega
    ·cases hat:atR l p with
     | none=>rw [hat] at hnm; cases hnm
     | some g=>rw [hat] at hnm; cases hnm; omega
   split at h
   ·cases h
   ·rename_i v n hv
    have hvb:=wordR_bound hv
    simp only [List.length_drop] at hvb
    split at h
    ·rename_i hk
     cases h
     exact ⟨hk,by omega,by omega,rfl,rfl⟩
    ·cases h
theorem fieldR_bound {l:List Fd} {b:List UInt8} {s bits:Nat} {f:Fd} (hb:b.length≤1000000) (h:fieldR l b=some (f,s,bits)):1≤s∧s≤b.length∧bits≤7∧((bits=7∧f ∈ fixedFds++l)∨(bits≠7∧fieldOk f=true∧f.never=(bits == 4))):=by
 unfold fieldR at h
 split at h
 ·unfold idxR at h
  split at h
  ·cases h
  ·rename_i p s1 hn
   obtain ⟨h1,h2,h3,h4⟩:=numR_bound (by decide) hn
   cases hat:atR l p with
   | none=>rw [hat] at h; cases h
   | some g =>
    rw [hat] at h
    cases h
    exact ⟨h2,h4,by omega,.inl ⟨rfl,atR_mem hat⟩⟩
 ·split at h
  ·obtain ⟨h1,h2,h3,h4,h5⟩:=litR_bound hb (by decide) h
   subst h4
   exact ⟨h2,h3,by omega,.inr ⟨by decide,h1,h5⟩⟩
  ·split at h
   ·obtain ⟨h1,h2,h3,h4,h5⟩:=litR_bound hb (by decide) h
    subst h4
    exact ⟨h2,h3,by omega,.inr ⟨by decide,h1,h5⟩⟩
   ·cases h
theorem headR_nil (k:Nat) (l:List Fd) (max:Int) (c:Nat):headR k l max [] c=some (l,[]):=by cases k <;> simp [headR]
theorem headR_fuel:∀(n:Nat) (b:List UInt8),b.length≤n→b.length≤1000000→∀(k:Nat) (l:List Fd) (max:Int) (c:Nat),b.length≤k→headR k l max b c=headR b.length l max b c
 | 0,b,hn,_,k,l,max,c,hk=>by
  have:b=[]:=List.length_eq_zero_iff.1 (by omega)
  subst this
  rw [headR_nil,headR_nil]
 | n+1,b,hn,hb,k,l,max,c,hk=>by
  by_cases hbn:b=[]
  ·subst hbn
   rw [headR_nil,headR_nil]
  ·have hpos:0 < b.length:=List.length_pos_iff.2 hbn
   obtain ⟨k,rfl⟩:∃j,k=j+1:=⟨k - 1,by omega⟩
   obtain ⟨m,hm⟩:∃m,b.length=m+1:=⟨b.length - 1,by omega⟩
   rw [hm,headR,headR,if_neg hbn,if_neg hbn]
   cases hf:fieldR l b with
   | none=>rfl
   | some y =>
    obtain ⟨f,s,bits⟩:=y
    obtain ⟨b1,b2,_⟩:=fieldR_bound hb hf
    have hdl:(b.drop s).length=b.length - s:=List.length_drop ..
    simp only
    rw [headR_fuel n (b.drop s) (by omega) (by omega) k _ max (c+1) (by omega),headR_fuel n (b.drop s) (by omega) (by omega) m _ max (c+1) (by omega)]
theorem fixed_b:∀f ∈ fixedFds,FdB f:=fun f hf=>by
 obtain ⟨_,_,_,h1,h2⟩:=fieldOk_parts (fixed_ok f hf).1
 exact ⟨by omega,by omega⟩
theorem HeadRead_ok (l:List Fd) (max:Int) (b:List UInt8) (hl:FdsB l) (hb:b.length≤1000000000) (S:List Blk) :
  VCall Try.prog 7 [tV l max,.str b] S fun r S'=>r=hrV max (hrM l max b)∧S'=S:=by
 have hlen:=hl.1
 refine VCall.en hD Try.func7 Try.ntmps7 Try.results7 ?_
 simp -implicitDefEqProofs (disch:=omega) only [push_cast,simprocAttr,↓gd]
 refine (TableOk_ok l max hl _).to ?_
 cases ht:tableOk l max
 ·simp -implicitDefEqProofs (disch:=omega) only [push_cast,simprocAttr,↓gd]
  exact finE (Cl.three (cl_tab _ [] 0) (cl_fds _ []) (.bool _)) (by rw [hrM,if_neg (by simp [ht])]; rfl)
 obtain ⟨ht1,ht2,ht3,ht4,ht5⟩:=tableOk_parts ht
 by_cases h250:b.length≤250
 ·have h250':¬(b.length:Int) > 250:=by omega
  have hM:hrM l max b=headR b.length l max b 0:=by rw [hrM,if_pos ⟨ht,h250⟩]
  simp -implicitDefEqProofs (disch:=omega) only [push_cast,simprocAttr,h250',↓gd]
  refine wpV_loop (fun m t S'=>∃(w h:List Fd) (d:List UInt8) (X:List Blk),m=d.length∧d.length≤250∧FdsB w∧w.length≤16+h.length∧h.length≤6∧(headR b.length l max b 0=(headR d.length w max d h.length).map (fun x=>(x.1,h++x.2)))∧t 1=.str d∧t 2=.ptr S.length 0∧t 4=.ptr (S.length+1) 0 ∧
    ((t 7=.nils∧h=[])∨∃τ,X[τ]?=some (.right 3)∧t 7=.rows (some (S.length+(τ+2))) (h.map fV))∧S'=S++([.cells 0 [.rows none (w.map fV),.int .i64 max],.cells 0 [.nils,.int .i64 0]]++X)) b.length
   ⟨l,[],b,[],rfl,h250,hl,by simp; omega,by simp,?_,rfl,rfl,rfl,.inl ⟨rfl,rfl⟩,rfl⟩ ?_
  ·cases headR b.length l max b 0 <;> rfl
  rintro m t S' ⟨w,h,d,X,rfl,hd,hw,hwl,hh6,hrun,h1,h2,h4,h7,rfl⟩
  refine wpV_of0 hD ?_
  by_cases hdn:d=[]
  ·subst hdn
   have hres:hrM l max b=some (w,h):=by rw [hM,hrun,headR_nil]; simp
   rcases h7 with ⟨h7,rfl⟩ | ⟨τ,hX,h7⟩
   ·simp -implicitDefEqProofs (disch:=omega) only [push_cast,simprocAttr,h1,h2,h4,h7,↓gd]
    refine (clone_ok w max (by have:=hw.1; omega) _).to ?_
    simp -implicitDefEqProofs (disch:=omega) only [push_cast,simprocAttr,h1,h2,h4,h7,↓gd]
    exact finE (Cl.three (cl_tab _ w max) (cl_fds _ []) (.bool _)) (by rw [hres]; rfl)
   ·simp -implicitDefEqProofs (disch:=omega) only [push_cast,simprocAttr,h1,h2,h4,h7,↓gd]
    refine (clone_ok w max (by have:=hw.1; omega) _).to ?_
    simp -implicitDefEqProofs (disch:=omega) only [push_cast,simprocAttr,h1,h2,h4,h7,↓gd]
    exact finE (Cl.three (cl_tab _ w max) (cl_fds _ h) (.bool _)) (by rw [hres]; rfl)
  ·have hdp:0 < d.length:=List.length_pos_iff.2 hdn
   have hdne:(d=[])=False:=by simp [hdn]
   have hallb:∀f ∈ fixedFds++w,FdB f:=fun f hf=>(List.mem_append.1 hf).elim (fixed_b f) (hw.2 f)
   have hwl2:=hw.1
   simp -implicitDefEqProofs (disch:=omega) only [push_cast,simprocAttr,h1,h2,h4,hdne,↓gd]
   refine ((field_ok w max d (by omega) (by omega) hdn hallb _).as rfl).mono ?_
   rintro r S2 ⟨hr,rfl⟩
   obtain ⟨k,hk⟩:∃k,d.length=k+1:=⟨d.length - 1,by omega⟩
   have hstep:headR d.length w max d h.length=match fieldR w d with
     | none=>none
     | some (f,s,bits)=>if h.length=6 then none else (headR k (if bits=6 then fitL (f :: w) max else w) max (d.drop s) (h.length+1)).map (fun x=>(x.1,f :: x.2)):=by rw [hk,headR,if_neg hdn]
   cases hf:fieldR w d with
   | none =>
    rw [hf] at hr hstep
    have hres:hrM l max b=none:=by rw [hM,hrun,hstep]; rfl
    obtain ⟨g,s,bits,rfl⟩:=hr
    simp -implicitDefEqProofs (disch:=omega) only [push_cast,simprocAttr,h1,h2,h4,↓gd]
    exact finE (Cl.three (cl_tab _ [] 0) (cl_fds _ []) (.bool _)) (by rw [hres]; rfl)
   | some y =>
    obtain ⟨f,s,bits⟩:=y
    rw [hf] at hr hstep
    simp only at hstep
    obtain ⟨b1,b2,b3,b4⟩:=fieldR_bound (by omega) hf
    have hrr:r=.tup [fV f,.int .i64 s,.int .i64 bits,.bool true]:=hr
    subst hrr
    have hdl:(d.drop s).length=d.length - s:=List.length_drop ..
    have hds:∀z:Nat,(d.take d.length).drop s=d.drop s:=fun _=>by rw [List.take_length]
    have hds:=hds 0
    rw [headR_fuel d.length (d.drop s) (by omega) (by omega) k _ max _ (by omega)] at hstep
    have hbits:(bits:Int)=6↔bits=6:=by omega
    have hfb:FdB f:=by
     rcases b4 with ⟨_,hm⟩ | ⟨_,hk,_⟩
     ·exact hallb f hm
     ·obtain ⟨_,_,_,q1,q2⟩:=fieldOk_parts hk
      exact ⟨by omega,by omega⟩
    have hnew:FdsB (fitL (f :: w) max)∧(fitL (f :: w) max).length≤w.length+1:=by
     have hb:FdsB (f :: w):=⟨by simp; omega,fun g hg=>by
      rcases List.mem_cons.1 hg with rfl | hg
      ·exact hfb
      ·exact hw.2 g hg⟩
     exact ⟨hb.fit max,by simpa using (fitL_sub (f :: w) max).2⟩
    by_cases h6:h.length=6
    ·rw [if_pos h6] at hstep
     have hres:hrM l max b=none:=by rw [hM,hrun,hstep]; rfl
     have h6':(h.length:Int)=6:=by omega
     rcases h7 with ⟨h7,rfl⟩ | ⟨τ,hX,h7⟩
     ·simp at h6
     ·simp -implicitDefEqProofs (disch:=omega) only [push_cast,simprocAttr,h1,h2,h4,h7,h6',↓gd]
      exact finE (Cl.three (cl_tab _ [] 0) (cl_fds _ []) (.bool _)) (by rw [hres]; rfl)
    rw [if_neg h6] at hstep
    have h6':¬(h.length:Int)=6:=by omega
    by_cases hb6:bits=6
    ·rw [if_pos hb6] at hstep
     have hb6':(bits:Int)=6:=by omega
     obtain ⟨n1,n2⟩:=hnew
     rcases h7 with ⟨h7,rfl⟩ | ⟨τ,hX,h7⟩
     ·simp -implicitDefEqProofs (disch:=omega) only [push_cast,simprocAttr,h1,h2,h4,h7,hb6',↓gd]
      refine ((add_ok' w max f hw hfb (by omega) ht2 _).as rfl).to ?_
      simp -implicitDefEqProofs (disch:=omega) only [push_cast,simprocAttr,h1,h2,h4,h7,hds,↓gd]
      refine ⟨by omega,by omega,by omega,(d.drop s).length,by omega,fitL (f :: w) max,[f],d.drop s,_,rfl,by omega,n1,by simp at hwl ⊢; omega,by simp,?_,rfl,⟨X.length+2,?_,rfl⟩,rfl⟩
      ·rw [hrun,hstep,Option.map_map]; rfl
      ·rw [List.getElem?_append_right (by omega)]; simp
     ·have hX2:∀Y,(X++Y)[τ]?=some (.right 3):=fun Y=>by rw [List.getElem?_append_left (rd_lt hX)]; exact hX
      simp -implicitDefEqProofs (disch:=omega) only [push_cast,simprocAttr,h1,h2,h4,h7,h6',hb6',↓gd]
      refine ((add_ok' w max f hw hfb (by omega) ht2 _).as rfl).to ?_
      simp -implicitDefEqProofs (disch:=omega) only [push_cast,simprocAttr,h1,h2,h4,h7,hds,hX2,↓gd]
      refine ⟨by omega,by omega,by omega,by omega,(d.drop s).length,by omega,fitL (f :: w) max,h++[f],d.drop s,_,rfl,by omega,n1,by rw [List.length_append]; simp; omega,by rw [List.length_append]; simp; omega,?_,rfl,⟨X.length+2,?_,by rw [List.map_append]; rfl⟩,rfl⟩
      ·rw [hrun,hstep,Option.map_map,List.length_append]
       congr 1
       funext y
       simp
      ·rw [List.getElem?_append_right (by simp)]; simp
    ·rw [if_neg hb6] at hstep
     have hb6':¬(bits:Int)=6:=by omega
     rcases h7 with ⟨h7,rfl⟩ | ⟨τ,hX,h7⟩
     ·simp -implicitDefEqProofs (disch:=omega) only [push_cast,simprocAttr,h1,h2,h4,h7,hb6',hds,↓gd]
      refine ⟨by omega,by omega,by omega,(d.drop s).length,by omega,w,[f],d.drop s,_,rfl,by omega,hw,by simp at hwl ⊢; omega,by simp,?_,rfl,⟨X.length+2,?_,rfl⟩,rfl⟩
      ·rw [hrun,hstep,Option.map_map]; rfl
      ·rw [List.getElem?_append_right (by omega)]; simp
     ·have hX2:∀Y,(X++Y)[τ]?=some (.right 3):=fun Y=>by rw [List.getElem?_append_left (rd_lt hX)]; exact hX
      simp -implicitDefEqProofs (disch:=omega) only [push_cast,simprocAttr,h1,h2,h4,h7,h6',hb6',hds,hX2,↓gd]
      refine ⟨by omega,by omega,by omega,by omega,(d.drop s).length,by omega,w,h++[f],d.drop s,_,rfl,by omega,hw,by rw [List.length_append]; simp; omega,by rw [List.length_append]; simp; omega,?_,rfl,⟨X.length+2,?_,by rw [List.map_append]; rfl⟩,rfl⟩
      ·rw [hrun,hstep,Option.map_map,List.length_append]
       congr 1
       funext y
       simp
      ·rw [List.getElem?_append_right (by simp)]; simp
 ·have h250':(b.length:Int) > 250:=by omega
  simp -implicitDefEqProofs (disch:=omega) only [push_cast,simprocAttr,h250',↓gd]
  exact finE (Cl.three (cl_tab _ [] 0) (cl_fds _ []) (.bool _)) (by rw [hrM,if_neg (fun h=>h250 h.2)]; rfl)
end
section
open Go
structure Fr where
 kind:Int
 last:Bool
 stream:Int
 body:List UInt8
 deriving DecidableEq
structure St where
 id:Int
 state:Int
 head:List Fd
 say:List UInt8
 begun:Bool
 said:Bool
 sent:Int
 got:List Fd
 text:List UInt8
 heard:Bool
 send:Int
 room:Int
structure En where
 ans:Bool
 out:List Fd
 outM:Int
 inn:List Fd
 innM:Int
 came:List UInt8
 strs:List St
 send:Int
 room:Int
 wait:List Fr
 bad:Bool
structure Wo where
 caller:En
 answerer:En
 up:List UInt8
 down:List UInt8
def st0:St:=⟨0,0,[],[],false,false,0,[],[],false,0,0⟩
def en0:En:=⟨false,[],0,[],0,[],[],0,0,[],false⟩
def strmOk (n:Int):Bool:=decide (1≤n) && decide (n≤7) && decide (n.tmod 2=1)
def byteAt (b:List UInt8) (i:Nat):Nat:=(b.getD i 0).toNat
def frameOk (f:Fr):Bool :=
 if f.kind=0∨f.kind=1 then strmOk f.stream && decide (f.body.length≤200)
 else if f.kind=3 then strmOk f.stream && !f.last && decide (f.body=[])
 else if f.kind=8 then (decide (f.stream=0) || strmOk f.stream) && !f.last && decide (f.body.length=1) && decide (1≤byteAt f.body 0) && decide (byteAt f.body 0≤31)
 else false
def flowOk (s r:Int):Bool:=(decide (0≤s) && decide (s≤31)) && (decide (0≤r) && decide (r≤31))
def stOk (s:St):Bool:=strmOk s.id && (decide (1≤s.state) && decide (s.state≤3)) && headOk s.head && headOk s.got && wordOk s.say && wordOk s.text && (decide (0≤s.sent) && decide (s.sent≤s.say.length)) && flowOk s.send s.room
def okAt (ans:Bool) (l:List St) (i:Nat):Bool:=stOk (l.getD i st0) && (decide (i=0) || decide ((l.getD (i - 1) st0).id < (l.getD i st0).id)) && (ans || decide ((l.getD i st0).id=2 * i+1))
def stsOk (ans:Bool) (l:List St):Bool:=(List.range l.length).all (okAt ans l)
def endOk (e:En):Bool:=stsOk e.ans e.strs && e.wait.all frameOk && tableOk e.out e.outM && tableOk e.inn e.innM && flowOk e.send e.room && decide (e.came.length≤600) && decide (e.wait.length≤60)
def sLen:List UInt8:=[47,108,101,110]
def stAt (e:En) (k:Nat):St:=e.strs.getD k st0
def badM (e:En):En:={ e with bad:=true }
def frmC (f:Fr):List V:=[.int .i64 f.kind,.bool f.last,.int .i64 f.stream,.str f.body]
def strC (s:St):List V:=[.int .i64 s.id,.int .i64 s.state,.rows none (s.head.map fV),.str s.say,.bool s.begun,.bool s.said,.int .i64 s.sent,.rows none (s.got.map fV),.str s.text,.bool s.heard,.int .i64 s.send,.int .i64 s.room]
def frmsC (l:List Fr):List V:=l.flatMap frmC
def strsC (l:List St):List V:=l.flatMap strC
end
section
open Go
section
variable {α:Type} {f:α→List V} {n:Nat}
theorem splice_front:∀(xs ys zs:List V),ys.length=xs.length→splice (ys++zs) 0 xs=xs++zs
 | [],ys,zs,h=>by
  have:ys=[]:=List.length_eq_zero_iff.1 h
  subst this
  cases zs <;> simp [splice]
 | x :: xs,[],zs,h=>by simp at h
 | x :: xs,y :: ys,zs,h=>by
  rw [List.cons_append,splice,splice_front xs ys zs (by simpa using h),List.cons_append]
theorem splice_skip:∀(us bs:List V) (k:Nat) (xs:List V),splice (us++bs) (us.length+k) xs=us++splice bs k xs
 | [],bs,k,xs=>by simp
 | a :: us,bs,k,xs=>by
  rw [List.cons_append,List.length_cons,show us.length+1+k=us.length+k+1 by omega,splice,splice_skip us bs k xs,List.cons_append]
theorem fl_set (hf:∀a,(f a).length=n) {l:List α} {i:Nat} (a:α) (h:i < l.length):splice (l.flatMap f) (i * n) (f a)=(l.set i a).flatMap f:=by
 induction l generalizing i with
 | nil=>simp at h
 | cons b l ih =>
  cases i with
  | zero =>
   rw [Nat.zero_mul,List.set_cons_zero,List.flatMap_cons,List.flatMap_cons]
   exact splice_front _ _ _ (by rw [hf,hf])
  | succ i =>
   rw [List.set_cons_succ,List.flatMap_cons,List.flatMap_cons,←ih (i:=i) (by simpa using h),Nat.add_mul,Nat.one_mul,Nat.add_comm,←hf b]
   exact splice_skip _ _ _ _
end
def Upd (bs:List Nat) (S S':List Blk):Prop:=S.length≤S'.length∧∀j,j < S.length→j ∉ bs→S'[j]?=S[j]?
theorem Upd.refl (bs:List Nat) (S:List Blk):Upd bs S S:=⟨Nat.le_refl _,fun _ _ _=>rfl⟩
theorem Upd.mono {bs cs:List Nat} {S S':List Blk} (h:Upd bs S S') (hs:∀j,j < S.length→j ∈ bs→j ∈ cs):Upd cs S S':=⟨h.1,fun j hj hn=>h.2 j hj (fun hm=>hn (hs j hj hm))⟩
theorem Upd.trans {bs:List Nat} {S S1 S2:List Blk} (h:Upd bs S S1) (k:Upd bs S1 S2):Upd bs S S2:=⟨Nat.le_trans h.1 k.1,fun j hj hn=>(k.2 j (Nat.lt_of_lt_of_le hj h.1) hn).trans (h.2 j hj hn)⟩
theorem Upd.then_ {bs cs:List Nat} {S S1 S2:List Blk} (h:Upd bs S S1) (k:Upd cs S1 S2) (hs:∀j,j < S.length→j ∈ cs→j ∈ bs):Upd bs S S2 :=
 ⟨Nat.le_trans h.1 k.1,fun j hj hn=>(k.2 j (Nat.lt_of_lt_of_le hj h.1) (fun hm=>hn (hs j hj hm))).trans (h.2 j hj hn)⟩
theorem Upd.app {bs:List Nat} {S S1:List Blk} (h:Upd bs S S1) (X:List Blk):Upd bs S (S1++X):=by
 refine ⟨by rw [List.length_append]; have:=h.1; omega,fun j hj hn=>?_⟩
 rw [List.getElem?_append_left (Nat.lt_of_lt_of_le hj h.1)]
 exact h.2 j hj hn
theorem Upd.set {bs:List Nat} {S S1:List Blk} (h:Upd bs S S1) {i:Nat} (B:Blk) (hi:S.length≤i∨i ∈ bs):Upd bs S (S1.set i B):=by
 refine ⟨by rw [List.length_set]; exact h.1,fun j hj hn=>?_⟩
 have hne:i≠j:=by
  rintro rfl
  rcases hi with hi | hi
  ·omega
  ·exact hn hi
 rw [List.getElem?_set_ne hne]
 exact h.2 j hj hn
theorem Upd.get {bs:List Nat} {S S1:List Blk} (h:Upd bs S S1) {j:Nat} {B:Blk} (hS:S[j]?=some B) (hn:j ∉ bs):S1[j]?=some B:=by
 have hlt:j < S.length:=by
  rcases Nat.lt_or_ge j S.length with g | g
  ·exact g
  ·rw [List.getElem?_eq_none g] at hS; cases hS
 rw [h.2 j hlt hn]
 exact hS
theorem lt_of_some {S:List Blk} {j:Nat} {B:Blk} (h:S[j]?=some B):j < S.length:=by
 rcases Nat.lt_or_ge j S.length with g | g
 ·exact g
 ·rw [List.getElem?_eq_none g] at h; cases h
end
section
open Go
def frV (f:Fr):V:=.agg (frmC f)
def stV (s:St):V:=.agg (strC s)
def enC (v w:V) (e:En):List V:=[.bool e.ans,.rows none (e.out.map fV),.int .i64 e.outM,.rows none (e.inn.map fV),.int .i64 e.innM,.str e.came,v,.int .i64 e.send,.int .i64 e.room,w,.bool e.bad]
def enV (v w:V) (e:En):V:=.agg (enC v w e)
@[push_cast] theorem frmC_eq (f:Fr):frmC f=[.int .i64 f.kind,.bool f.last,.int .i64 f.stream,.str f.body]:=rfl
@[push_cast] theorem frV_eq (f:Fr):frV f=.agg [.int .i64 f.kind,.bool f.last,.int .i64 f.stream,.str f.body]:=rfl
@[push_cast] theorem strC_eq (s:St):strC s=[.int .i64 s.id,.int .i64 s.state,.rows none (s.head.map fV),.str s.say,.bool s.begun,.bool s.said,.int .i64 s.sent,.rows none (s.got.map fV),.str s.text,.bool s.heard,.int .i64 s.send,.int .i64 s.room]:=rfl
@[push_cast] theorem stV_eq (s:St):stV s=.agg [.int .i64 s.id,.int .i64 s.state,.rows none (s.head.map fV),.str s.say,.bool s.begun,.bool s.said,.int .i64 s.sent,.rows none (s.got.map fV),.str s.text,.bool s.heard,.int .i64 s.send,.int .i64 s.room]:=rfl
@[push_cast] theorem enC_eq (v w:V) (e:En):enC v w e=[.bool e.ans,.rows none (e.out.map fV),.int .i64 e.outM,.rows none (e.inn.map fV),.int .i64 e.innM,.str e.came,v,.int .i64 e.send,.int .i64 e.room,w,.bool e.bad]:=rfl
@[push_cast] theorem enV_eq (v w:V) (e:En):enV v w e=.agg [.bool e.ans,.rows none (e.out.map fV),.int .i64 e.outM,.rows none (e.inn.map fV),.int .i64 e.innM,.str e.came,v,.int .i64 e.send,.int .i64 e.room,w,.bool e.bad]:=rfl
def EnAt (S:List Blk) (b c:Nat) (e:En):Prop:=S[b]?=some (.cells 12 (strsC e.strs))∧S[c]?=some (.cells 4 (frmsC e.wait))
theorem EnAt.upd {S S':List Blk} {bs:List Nat} {b c:Nat} {e:En} (h:EnAt S b c e) (hu:Upd bs S S') (hb:b ∉ bs) (hc:c ∉ bs):EnAt S' b c e:=⟨hu.get h.1 hb,hu.get h.2 hc⟩
end
end Go.Proofs.Ytldogccmhncnoaa
