/- A part of the proof: contracts of functions, or plain facts on which these lean. -/
import Derived.Test.YtldogccmhncnoaaGreatDoorMh17
import Derived.Test.YtldogccmhncnoaaGreatDoorMh21
namespace Go.Proofs.YtldogccmhncnoaaGreatDoor
open Go
set_option linter.unusedVariables false
set_option linter.unusedSimpArgs false
set_option maxRecDepth 100000
set_option maxHeartbeats 16000000

section
open Go
theorem finOne {S X:List Blk} {v:V} {q:V→Prop} (hc:Cl S.length (eraseT v)) (h:q (eraseT v)):∃r S2,Wk S v (S++X) r S2∧q r∧S2=S:=⟨_,S,(Wk.eraseT _ _ _).trans (Wk.pure hc),h,rfl⟩
theorem l3At_ok (l:List Fd) (max:Int) (place:Nat) (hl:l.length≤1000000) (hp:place≤1000000) (S:List Blk):VCall Tryz.prog 174 [tV l max,.int .i64 place] S fun r S'=>r=arV (atR l place)∧S'=S:=by
 refine VCall.en hD Tryz.func174 Tryz.ntmps174 Tryz.results174 ?_
 simp -implicitDefEqProofs (disch:=omega) only [push_cast,simprocAttr,↓gd]
 refine (l3All_ok l max (by omega) _).to ?_
 have hal:=all_len l
 generalize hw:fixedFds++l=w at hal
 simp -implicitDefEqProofs (disch:=omega) only [push_cast,simprocAttr,↓gd]
 refine (l6In_ok place 1 w.length _).to ?_
 by_cases h:1≤place∧place≤l.length+6
 ·have hgd:=getD_fV (l:=w) (i:=place - 1) (by omega)
  have hat:atR l place=some (w.getD (place - 1) fd0):=by rw [atR,if_pos h,hw]
  generalize w.getD (place - 1) fd0=f at hgd hat
  have hpl:((place:Int) - 1).toNat=place - 1:=by omega
  have hin:(decide ((1:Int)≤(place:Int)) && decide ((place:Int)≤(w.length:Int)))=true:=by simp; omega
  rw [hin]
  simp -implicitDefEqProofs (disch:=omega) only [push_cast,simprocAttr,hpl,hgd,↓gd]
  exact ⟨by omega,by omega,fin1 (Cl.two (cl_fV _ f) (.bool _)) (by rw [hat]; rfl)⟩
 ·have hin:(decide ((1:Int)≤(place:Int)) && decide ((place:Int)≤(w.length:Int)))=false:=by simp; omega
  rw [hin]
  simp -implicitDefEqProofs (disch:=omega) only [push_cast,simprocAttr,↓gd]
  refine fin1 (Cl.two (cl_fV _ fd0) (.bool _)) ?_
  rw [atR,if_neg h]
  rfl
def LitRes (o:Option (Fd × Nat × Nat)) (r:V):Prop:=match o with
 | some (f,s,_)=>r=.tup [fV ⟨f.name,f.val,false⟩,.int .i64 s,.bool true]
 | none=>∃(g:Fd) (s:Int),r=.tup [fV g,.int .i64 s,.bool false]
theorem l11Lit_ok (l:List Fd) (max:Int) (b:List UInt8) (bits:Nat) (hbits:3≤bits∧bits≤7) (hl:l.length≤1000000) (hb:b.length≤1000000) (hall:∀f ∈ fixedFds++l,fieldOk f=true) (S:List Blk) :
  VCall Tryz.prog 175 [tV l max,.str b,.int .i64 bits] S fun r S'=>LitRes (litR l b bits) r∧S'=S:=by
 have hz:∀(X:List Blk),∃r S2,Wk S (.tup [.agg [.str [],.str [],.bool false],.int .i64 0,.bool false]) (S++X) r S2∧LitRes none r∧S2=S :=
  fun X=>⟨_,_,Wk.pure (Cl.three (cl_fV _ fd0) (.int _ _) (.bool _)),⟨fd0,0,rfl⟩,rfl⟩
 have hfin:∀(X:List Blk) (nm v:List UInt8) (s:Nat) (si:Int),si=s→litR l b bits=some (⟨nm,v,bits == 4⟩,s,bits)→∃r S2,Wk S (.tup [.agg [.str nm,.str v,.bool false],.int .i64 si,.bool true]) (S++X) r S2∧LitRes (litR l b bits) r∧S2=S :=
  fun X nm v s si e h=>⟨_,_,Wk.pure (Cl.three (cl_fV _ ⟨nm,v,false⟩) (.int _ _) (.bool _)),by rw [h,e]; rfl,rfl⟩
 have hbad:∀(X:List Blk) (nm v:List UInt8) (s:Int),litR l b bits=none→∃r S2,Wk S (.tup [.agg [.str nm,.str v,.bool false],.int .i64 s,.bool false]) (S++X) r S2∧LitRes (litR l b bits) r∧S2=S :=
  fun X nm v s h=>⟨_,_,Wk.pure (Cl.three (cl_fV _ ⟨nm,v,false⟩) (.int _ _) (.bool _)),by rw [h]; exact ⟨⟨nm,v,false⟩,s,rfl⟩,rfl⟩
 refine VCall.en hD Tryz.func175 Tryz.ntmps175 Tryz.results175 ?_
 simp -implicitDefEqProofs (disch:=omega) only [push_cast,simprocAttr,↓gd]
 refine (l1Read_ok b bits hbits (by omega) _).to ?_
 cases hn:numR b bits with
 | none =>
  have hlit:litR l b bits=none:=by rw [litR,hn]
  simp -implicitDefEqProofs (disch:=omega) only [push_cast,simprocAttr,nrV,↓gd]
  rw [hlit]
  exact hz _
 | some x =>
  obtain ⟨q,s⟩:=x
  obtain ⟨g1,g2,g3,g4⟩:=numR_bound hbits.2 hn
  have hlit:litR l b bits=match nameR l b q s with
    | none=>none
    | some (nm,s2)=>match wordR (b.drop s2) with
     | none=>none
     | some (v,n)=>if fieldOk ⟨nm,v,bits == 4⟩=true then some (⟨nm,v,bits == 4⟩,s2+n,bits) else none:=by rw [litR,hn]; rfl
  have hds:(b.take b.length).drop s=b.drop s:=by rw [List.take_length]
  by_cases hq:q=0
  ·have hq':(q:Int)=0:=by omega
   have hnm:nameR l b q s=(wordR (b.drop s)).map (fun x=>(x.1,s+x.2)):=by rw [nameR,if_pos hq]
   rw [hnm] at hlit
   simp -implicitDefEqProofs (disch:=omega) only [push_cast,simprocAttr,nrV,hq',hds,↓gd]
   refine ⟨by omega,by omega,by omega,(l2Read_ok (b.drop s) (by simp; omega) _).to ?_⟩
   cases hw:wordR (b.drop s) with
   | none =>
    rw [hw] at hlit
    simp -implicitDefEqProofs (disch:=omega) only [push_cast,simprocAttr,wrV,↓gd]
    rw [hlit]
    exact hz _
   | some y =>
    obtain ⟨nm,n⟩:=y
    obtain ⟨w1,w2,w3⟩:=wordR_bound hw
    simp only [List.length_drop] at w3
    have hds2:(b.take b.length).drop ((s:Int)+n).toNat=b.drop (s+n):=by rw [List.take_length,show ((s:Int)+n).toNat=s+n by omega]
    rw [hw] at hlit
    simp only [Option.map_some] at hlit
    have hnl:=(wordOk_signs w1).2
    by_cases hnm0:nm=[]
    ·have hno:litR l b bits=none:=by
      rw [hlit]
      cases wordR (b.drop (s+n)) with
      | none=>rfl
      | some z =>
       obtain ⟨v,n2⟩:=z
       simp only
       rw [if_neg (by rw [hnm0]; simp [fieldOk])]
     simp -implicitDefEqProofs (disch:=omega) only [push_cast,simprocAttr,wrV,hnm0,↓gd]
     rw [hno]
     exact hz _
    ·have hnm0':(nm=[])=False:=by simp [hnm0]
     simp -implicitDefEqProofs (disch:=omega) only [push_cast,simprocAttr,wrV,hnm0',hds2,↓gd]
     refine ⟨by omega,by omega,by omega,(l2Read_ok (b.drop (s+n)) (by simp; omega) _).to ?_⟩
     cases hv:wordR (b.drop (s+n)) with
     | none =>
      rw [hv] at hlit
      simp -implicitDefEqProofs (disch:=omega) only [push_cast,simprocAttr,wrV,↓gd]
      exact hbad _ _ _ _ hlit
     | some z =>
      obtain ⟨v,n2⟩:=z
      obtain ⟨v1,v2,v3⟩:=wordR_bound hv
      simp only [List.length_drop] at v3
      have hk:fieldOk ⟨nm,v,bits == 4⟩=true:=by simp [fieldOk,w1,v1,hnm0]
      rw [hv] at hlit
      simp only [if_pos hk] at hlit
      simp -implicitDefEqProofs (disch:=omega) only [push_cast,simprocAttr,wrV,↓gd]
      exact hfin _ nm v _ _ (by simp) hlit
  ·have hq':¬(q:Int)=0:=by omega
   have hnm:nameR l b q s=(atR l q).map (fun f=>(f.name,s)):=by rw [nameR,if_neg hq]
   rw [hnm] at hlit
   simp -implicitDefEqProofs (disch:=omega) only [push_cast,simprocAttr,nrV,hq',↓gd]
   refine ((l3At_ok l max q hl (by omega) _).as rfl).to ?_
   cases hat:atR l q with
   | none =>
    rw [hat] at hlit
    simp -implicitDefEqProofs (disch:=omega) only [push_cast,simprocAttr,arV,fd0,↓gd]
    rw [hlit]
    exact hz _
   | some g =>
    rw [hat] at hlit
    simp only [Option.map_some] at hlit
    have hgm:=hall g (atR_mem hat)
    obtain ⟨gn1,gn2,gn3,gn4,gn5⟩:=fieldOk_parts hgm
    simp -implicitDefEqProofs (disch:=omega) only [push_cast,simprocAttr,arV,hds,↓gd]
    refine ⟨by omega,by omega,by omega,(l2Read_ok (b.drop s) (by simp; omega) _).to ?_⟩
    cases hv:wordR (b.drop s) with
    | none =>
     rw [hv] at hlit
     simp -implicitDefEqProofs (disch:=omega) only [push_cast,simprocAttr,wrV,↓gd]
     exact hbad _ _ _ _ hlit
    | some z =>
     obtain ⟨v,n2⟩:=z
     obtain ⟨v1,v2,v3⟩:=wordR_bound hv
     simp only [List.length_drop] at v3
     have hk:fieldOk ⟨g.name,v,bits == 4⟩=true:=by simp [fieldOk,gn1,v1,gn3]
     rw [hv] at hlit
     simp only [if_pos hk] at hlit
     simp -implicitDefEqProofs (disch:=omega) only [push_cast,simprocAttr,wrV,↓gd]
     exact hfin _ g.name v _ _ (by simp) hlit
def OneRes (l:List Fd) (max:Int) (o:Option (Fd × Nat × Nat)) (r:V):Prop:=match o with
 | some (f,s,bits)=>r=.tup [tV (if bits=6 then fitL (f :: l) max else l) max,fV f,.int .i64 s,.bool true]
 | none=>∃(g:Fd) (s:Int),r=.tup [tV l max,fV g,.int .i64 s,.bool false]
theorem litR_form {l:List Fd} {b:List UInt8} {w:Nat} {f:Fd} {s bits:Nat} (h:litR l b w=some (f,s,bits)):f=⟨f.name,f.val,w == 4⟩∧bits=w:=by
 unfold litR at h
 split at h
 ·cases h
 ·split at h
  ·cases h
  ·split at h
   ·cases h
   ·split at h
    ·cases h; exact ⟨rfl,rfl⟩
    ·cases h
theorem l11One_ok (l:List Fd) (max:Int) (b:List UInt8) (hl:FdsB l) (hl1:l.length≤1000000) (hm:0≤max) (hb:b.length≤1000000) (hne:b≠[]) (hall:∀f ∈ fixedFds++l,fieldOk f=true) (S:List Blk) :
  VCall Tryz.prog 160 [tV l max,.str b] S fun r S'=>OneRes l max (fieldR l b) r∧S'=S:=by
 have hpos:0 < b.length:=List.length_pos_iff.2 hne
 obtain ⟨c,hc⟩:∃c,c=b.getD 0 0:=⟨_,rfl⟩
 have hcn:=c.toNat_lt
 have hbad:∀(X:List Blk) (g:Fd) (s:Int),∃r S2,Wk S (.tup [tV l max,fV g,.int .i64 s,.bool false]) (S++X) r S2∧OneRes l max none r∧S2=S :=
  fun X g s=>⟨_,_,Wk.pure (Cl.four (cl_tab _ l max) (cl_fV _ g) (.int _ _) (.bool _)),⟨g,s,rfl⟩,rfl⟩
 refine VCall.ex hD (fun _=>false) (fun id=>if id=4 then [7,8,11,7,7,11,11,8,11,11,11] else if id=8 then [2,3,3,6,6,6] else if id=9 then [2,2,5,6,9,6,9,9,9] else if id=13 then [4,5,8,8,5,8,8,8] else []) Tryz.func160 Tryz.ntmps160 Tryz.results160 ?_
 simp -implicitDefEqProofs (disch:=omega) only [push_cast,simprocAttr,←hc,↓gd]
 refine ⟨by omega,?_⟩
 by_cases h128:128≤c.toNat
 ·have h128':(c.toNat:Int) ≥ 128:=by omega
  have hf0:fieldR l b=idxR l b:=by rw [fieldR,←hc,if_pos h128]
  simp -implicitDefEqProofs (disch:=omega) only [push_cast,simprocAttr,←hc,h128',↓gd]
  refine ((l1Read_ok b 7 (by omega) (by omega) _).as (by simp)).to ?_
  cases hn:numR b 7 with
  | none =>
   have hfr:fieldR l b=none:=by rw [hf0,idxR,hn]
   have hat:atR l 0=none:=by rw [atR,if_neg (by omega)]
   simp -implicitDefEqProofs (disch:=omega) only [push_cast,simprocAttr,nrV,↓gd]
   refine ((l3At_ok l max 0 hl1 (by omega) _).as rfl).to ?_
   rw [hat,hfr]
   simp -implicitDefEqProofs (disch:=omega) only [push_cast,simprocAttr,arV,fd0,↓gd]
   exact hbad _ fd0 _
  | some x =>
   obtain ⟨q,s⟩:=x
   obtain ⟨g1,g2,g3,g4⟩:=numR_bound (by decide) hn
   have hfr:fieldR l b=(atR l q).map (fun f=>(f,s,7)):=by rw [hf0,idxR,hn]
   simp -implicitDefEqProofs (disch:=omega) only [push_cast,simprocAttr,nrV,↓gd]
   refine ((l3At_ok l max q hl1 (by omega) _).as rfl).to ?_
   rw [hfr]
   cases hat:atR l q with
   | none =>
    simp -implicitDefEqProofs (disch:=omega) only [push_cast,simprocAttr,arV,fd0,↓gd]
    exact hbad _ fd0 _
   | some g =>
    simp -implicitDefEqProofs (disch:=omega) only [push_cast,simprocAttr,arV,↓gd]
    exact ⟨_,_,Wk.pure (Cl.four (cl_tab _ l max) (cl_fV _ g) (.int _ _) (.bool _)),rfl,rfl⟩
 have h128':¬(c.toNat:Int) ≥ 128:=by omega
 by_cases h64:64≤c.toNat
 ·have h64':(c.toNat:Int) ≥ 64:=by omega
  have hf0:fieldR l b=litR l b 6:=by rw [fieldR,←hc,if_neg h128,if_pos h64]
  simp -implicitDefEqProofs (disch:=omega) only [push_cast,simprocAttr,←hc,h128',h64',↓gd]
  refine ⟨by omega,((l11Lit_ok l max b 6 (by omega) hl1 hb hall _).as (by simp; rfl)).mono ?_⟩
  rintro r S2 ⟨hr,rfl⟩
  rw [hf0]
  cases hlit:litR l b 6 with
  | none =>
   rw [hlit] at hr
   obtain ⟨g,s,rfl⟩:=hr
   simp -implicitDefEqProofs (disch:=omega) only [push_cast,simprocAttr,↓gd]
   exact hbad _ g _
  | some y =>
   obtain ⟨f,s,bits⟩:=y
   obtain ⟨hff,hbits⟩:=litR_form hlit
   obtain ⟨k1,k2,k3,k4,k5⟩:=litR_bound hb (by decide) hlit
   rw [hlit] at hr
   have hrr:r=.tup [fV ⟨f.name,f.val,false⟩,.int .i64 s,.bool true]:=hr
   subst hrr
   have hff2:(⟨f.name,f.val,false⟩:Fd)=f:=hff.symm
   have hfb:FdB f:=by
    obtain ⟨_,_,_,q1,q2⟩:=fieldOk_parts k1
    exact ⟨by omega,by omega⟩
   simp -implicitDefEqProofs (disch:=omega) only [push_cast,simprocAttr,↓gd]
   refine ((l3Add_ok l max f hl hfb (by omega) hm _).as (by rw [←hff2]; rfl)).to ?_
   rw [hff2]
   simp -implicitDefEqProofs (disch:=omega) only [push_cast,simprocAttr,↓gd]
   refine finOne (Cl.four (cl_tab _ (fitL (f :: l) max) max) (cl_fV _ ⟨f.name,f.val,false⟩) (.int _ _) (.bool _)) ?_
   subst hbits
   show _=_
   rw [if_pos rfl,←hff2]
   rfl
 have h64':¬(c.toNat:Int) ≥ 64:=by omega
 have hcw:IntKind.i64.wrap (c.toNat:Int)=c.toNat:=i64_fit _ (by omega)
 simp -implicitDefEqProofs (disch:=omega) only [push_cast,simprocAttr,←hc,h128',h64',hcw,↓gd]
 refine ⟨by omega,by omega,(l6In_ok c.toNat 16 31 _).to ?_⟩
 by_cases h16:16≤c.toNat∧c.toNat < 32
 ·have hin:(decide ((16:Int)≤(c.toNat:Int)) && decide ((c.toNat:Int)≤31))=true:=by simp; omega
  have hf0:fieldR l b=litR l b 4:=by rw [fieldR,←hc,if_neg h128,if_neg h64,if_pos h16]
  rw [hin,hf0]
  simp -implicitDefEqProofs (disch:=omega) only [push_cast,simprocAttr,↓gd]
  refine ((l11Lit_ok l max b 4 (by omega) hl1 hb hall _).as (by simp; rfl)).mono ?_
  rintro r S2 ⟨hr,rfl⟩
  cases hlit:litR l b 4 with
  | none =>
   rw [hlit] at hr
   obtain ⟨g,s,rfl⟩:=hr
   simp -implicitDefEqProofs (disch:=omega) only [push_cast,simprocAttr,↓gd]
   exact hbad _ ⟨g.name,g.val,true⟩ _
  | some y =>
   obtain ⟨f,s,bits⟩:=y
   obtain ⟨hff,hbits⟩:=litR_form hlit
   rw [hlit] at hr
   have hrr:r=.tup [fV ⟨f.name,f.val,false⟩,.int .i64 s,.bool true]:=hr
   subst hrr
   simp -implicitDefEqProofs (disch:=omega) only [push_cast,simprocAttr,↓gd]
   refine ⟨_,_,Wk.pure (Cl.four (cl_tab _ l max) (cl_fV _ ⟨f.name,f.val,true⟩) (.int _ _) (.bool _)),?_,rfl⟩
   subst hbits
   show _=_
   rw [if_neg (by decide),hff]
   rfl
 ·have hin:(decide ((16:Int)≤(c.toNat:Int)) && decide ((c.toNat:Int)≤31))=false:=by simp; omega
  have hf0:fieldR l b=none:=by rw [fieldR,←hc,if_neg h128,if_neg h64,if_neg h16]
  rw [hin,hf0]
  simp -implicitDefEqProofs (disch:=omega) only [push_cast,simprocAttr,↓gd]
  exact hbad _ fd0 _
end
section
open Go
theorem l11Read_ok (l:List Fd) (max:Int) (b:List UInt8) (hl:FdsB l) (hl1:l.length≤100) (hm:0≤max) (hb:b.length≤250) (hall:∀f ∈ fixedFds++l,fieldOk f=true) (S:List Blk) :
  VCall Tryz.prog 143 [tV l max,.str b] S fun r S'=>r=hrV max (headR b.length l max b 0)∧S'=S:=by
 have hlen:=hl.1
 refine VCall.en hD Tryz.func143 Tryz.ntmps143 Tryz.results143 ?_
 simp -implicitDefEqProofs (disch:=omega) only [push_cast,simprocAttr,↓gd]
 refine wpV_loop (fun m t S'=>∃(w h:List Fd) (d:List UInt8) (X:List Blk) (τ:Nat),m=d.length∧d.length≤250∧FdsB w∧(∀f ∈ fixedFds++w,fieldOk f=true)∧w.length≤100+h.length∧h.length≤6∧(headR b.length l max b 0=(headR d.length w max d h.length).map (fun x=>(x.1,h++x.2)))∧t 1=.str d∧t 2=.ptr S.length 0∧t 4=.ptr (S.length+1) 0 ∧
   X[τ]?=some (.right 3)∧t 7=.rows (some (S.length+(τ+2))) (h.map fV)∧S'=S++([.cells 0 [.rows none (w.map fV),.int .i64 max],.cells 0 [.nils,.int .i64 0]]++X)) b.length
  ⟨l,[],b,[.right 3],0,rfl,hb,hl,hall,by simp; omega,by simp,?_,rfl,rfl,rfl,rfl,rfl,rfl⟩ ?_
 ·cases headR b.length l max b 0 <;> rfl
 rintro m t S' ⟨w,h,d,X,τ,rfl,hd,hw,hwall,hwl,hh6,hrun,h1,h2,h4,hX,h7,rfl⟩
 have hX2:∀Y,(X++Y)[τ]?=some (.right 3):=fun Y=>by rw [List.getElem?_append_left (rd_lt hX)]; exact hX
 refine wpV_of0 hD ?_
 by_cases hdn:d=[]
 ·subst hdn
  have hres:headR b.length l max b 0=some (w,h):=by rw [hrun,headR_nil]; simp
  simp -implicitDefEqProofs (disch:=omega) only [push_cast,simprocAttr,h1,h2,h4,h7,↓gd]
  exact finE (Cl.three (cl_tab _ w max) (cl_fds _ h) (.bool _)) (by rw [hres]; rfl)
 ·have hdp:0 < d.length:=List.length_pos_iff.2 hdn
  have hdne:(d=[])=False:=by simp [hdn]
  have hwl2:=hw.1
  simp -implicitDefEqProofs (disch:=omega) only [push_cast,simprocAttr,h1,h2,h4,hdne,↓gd]
  refine ((l11One_ok w max d hw (by omega) hm (by omega) hdn hwall _).as rfl).mono ?_
  rintro r S2 ⟨hr,rfl⟩
  obtain ⟨k,hk⟩:∃k,d.length=k+1:=⟨d.length - 1,by omega⟩
  cases hf:fieldR w d with
  | none =>
   rw [hf] at hr
   have hstep:headR d.length w max d h.length=none:=by rw [hk,headR,if_neg hdn,hf]
   have hres:headR b.length l max b 0=none:=by rw [hrun,hstep]; rfl
   obtain ⟨g,s,rfl⟩:=hr
   simp -implicitDefEqProofs (disch:=omega) only [push_cast,simprocAttr,h1,h2,h4,↓gd]
   exact finE (Cl.three (cl_tab _ [] 0) (cl_fds _ []) (.bool _)) (by rw [hres]; rfl)
  | some y =>
   obtain ⟨f,s,bits⟩:=y
   rw [hf] at hr
   have hstep:headR d.length w max d h.length=if h.length=6 then none else (headR k (if bits=6 then fitL (f :: w) max else w) max (d.drop s) (h.length+1)).map (fun x=>(x.1,f :: x.2)):=by rw [hk,headR,if_neg hdn,hf]
   obtain ⟨b1,b2,b3,b4⟩:=fieldR_bound (by omega) hf
   have hrr:r=.tup [tV (if bits=6 then fitL (f :: w) max else w) max,fV f,.int .i64 s,.bool true]:=hr
   subst hrr
   have hdl:(d.drop s).length=d.length - s:=List.length_drop ..
   have hds:(d.take d.length).drop s=d.drop s:=by rw [List.take_length]
   rw [headR_fuel d.length (d.drop s) (by omega) (by omega) k _ max _ (by omega)] at hstep
   have hfb:FdB f:=by
    rcases b4 with ⟨_,hm⟩ | ⟨_,hk,_⟩
    ·obtain ⟨_,_,_,q1,q2⟩:=fieldOk_parts (hwall f hm)
     exact ⟨by omega,by omega⟩
    ·obtain ⟨_,_,_,q1,q2⟩:=fieldOk_parts hk
     exact ⟨by omega,by omega⟩
   have hnew:FdsB (if bits=6 then fitL (f :: w) max else w)∧(if bits=6 then fitL (f :: w) max else w).length≤w.length+1∧∀g ∈ fixedFds++(if bits=6 then fitL (f :: w) max else w),fieldOk g=true:=by
    split
    ·rename_i h6
     have hb:FdsB (f :: w):=⟨by simp; omega,fun g hg=>by
      rcases List.mem_cons.1 hg with rfl | hg
      ·exact hfb
      ·exact hw.2 g hg⟩
     refine ⟨hb.fit max,by simpa using (fitL_sub (f :: w) max).2,fun g hg=>?_⟩
     rcases List.mem_append.1 hg with g1 | g1
     ·exact hwall g (List.mem_append.2 (.inl g1))
     ·rcases List.mem_cons.1 ((fitL_sub (f :: w) max).1 g g1) with rfl | g2
      ·rcases b4 with ⟨e7,_⟩ | ⟨_,hk,_⟩
       ·omega
       ·exact hk
      ·exact hwall g (List.mem_append.2 (.inr g2))
    ·exact ⟨hw,by omega,hwall⟩
   generalize (if bits=6 then fitL (f :: w) max else w)=w2 at hnew hstep
   obtain ⟨n1,n2,n3⟩:=hnew
   by_cases h6:h.length=6
   ·rw [if_pos h6] at hstep
    have hres:headR b.length l max b 0=none:=by rw [hrun,hstep]; rfl
    have h6':(h.length:Int) ≥ 6:=by omega
    simp -implicitDefEqProofs (disch:=omega) only [push_cast,simprocAttr,h1,h2,h4,h7,h6',↓gd]
    exact finE (Cl.three (cl_tab _ [] 0) (cl_fds _ []) (.bool _)) (by rw [hres]; rfl)
   ·rw [if_neg h6] at hstep
    have h6':¬(h.length:Int) ≥ 6:=by omega
    simp -implicitDefEqProofs (disch:=omega) only [push_cast,simprocAttr,h1,h2,h4,h7,h6',hds,hX2,↓gd]
    refine ⟨by omega,by omega,by omega,by omega,(d.drop s).length,by omega,w2,h++[f],d.drop s,_,X.length+3,rfl,by omega,n1,n3,by rw [List.length_append]; simp; omega,by rw [List.length_append]; simp; omega,?_,rfl,?_,by rw [List.map_append]; rfl,rfl⟩
    ·rw [hrun,hstep,Option.map_map,List.length_append]
     congr 1
     funext y
     simp
    ·rw [List.getElem?_append_right (by simp)]; simp
end
section
open Go
theorem atM_app {l:List St} {id:Int} (h:atM l id=none):atM (l++[newSt id]) id=some l.length:=by
 refine atM_at (by simp) (fun j hj=>?_) ?_
 ·rw [getD_app,if_pos hj]
  intro e
  have:atM l id≠none:=by
   intro h'
   unfold atM at h'
   rw [List.findIdx?_eq_none_iff] at h'
   have:=h' _ (getD_memS hj)
   rw [decide_eq_true e] at this
   cases this
  exact this h
 ·rw [getD_app,if_neg (by omega),if_pos rfl]
  rfl
def tookM (g:En) (ans last:Bool) (o:Option (List Fd × List Fd)) (k:Option Nat):En :=
 match o,k with
 | some (t,h),some k=>if (stAt g k).heard=true∨(stAt g k).got≠[]∨h=[] then badM g else
   setSt { g with inn:=t } k (if last then doneM ans { stAt g k with got:=h } else { stAt g k with got:=h })
 | _,_=>badM g
theorem headFM_eq (e:En) (f:Fr):headFM e f=tookM (growM e f.stream) e.ans f.last (headR f.body.length e.inn e.innM f.body 0) (atM (growM e f.stream).strs f.stream):=by
 unfold headFM tookM
 rfl
theorem last_get (l:List St) (X:List V) (c:Nat):(strsC l++X)[l.length * 12+c]?=X[c]?:=by
 rw [←strsC_len,List.getElem?_append_right (by omega),Nat.add_sub_cancel_left]
theorem last_drop (l:List St) (X:List V):(strsC l++X).drop (l.length * 12)=X:=by rw [←strsC_len,List.drop_left]
theorem last_splice (l:List St) (X Y:List V) (h:X.length=Y.length):splice (strsC l++X) (l.length * 12) Y=strsC l++Y:=by
 have:=splice_skip (strsC l) X 0 Y
 rw [Nat.add_zero,strsC_len] at this
 rw [this]
 have:=splice_front Y X [] h
 rw [List.append_nil,List.append_nil] at this
 rw [this]
theorem last_set (l:List St) (a s:St):strsC ((l++[a]).set l.length s)=strsC l++strC s:=by
 rw [List.set_append_right _ _ (Nat.le_refl _),Nat.sub_self,List.set_cons_zero,strsC_app,strsC_one]
theorem grow_fin {S X:List Blk} {b c:Nat} {bad:Bool} {out inn:List Fd} {outM innM snd rm:Int} {came:List UInt8} {strs:List St} {wait:List Fr} (a s':St) {E:En} {B0 B1 B2 B3 B4:Blk} {C:List V}
  (hb:S[b]?=some (.cells 12 (strsC strs))) (hc:S[c]?=some (.cells 4 (frmsC wait))) (hne:b≠c) (hC:C=strsC strs++strC s') (hE:E=⟨true,out,outM,inn,innM,came,(strs++[a]).set strs.length s',snd,rm,wait,bad⟩) :
  ∃r S2,Wk S (.agg [.bool true,.rows none (out.map fV),.int .i64 outM,.rows none (inn.map fV),.int .i64 innM,.str came,.heap (S.length+5) (strs.length+1),.int .i64 snd,.int .i64 rm,.heap c wait.length,.bool bad])
   (S.set b .dead++([B0,B1,B2,B3,B4,.cells 12 C]++X)) r S2∧RTo S b c E r S2:=by
 subst hE hC
 have hbl:=lt_of_some hb
 have hcl:=lt_of_some hc
 refine ⟨_,_,Wk.refl _ _ _,RTo.mk (S.length+5) c (by simp [eV,enV,enC]) ?_ ?_ (.inr (by omega)) (.inl rfl) (((Upd.refl _ _).set _ (.inr (by simp))).app _)⟩
 ·rw [s1_get,last_set]
  rfl
 ·simp -implicitDefEqProofs (maxSteps:=1000000) (disch:=omega) only [push_cast,simprocAttr,hc,↓gd]
theorem l21Head_ok {N:Nat} {e:En} (hW:EnW N e) (hN:N≤1100000) {f:Fr} (hf:frameOk f=true) {S:List Blk} {b c:Nat} (h:EnAt S b c e):VCall Tryz.prog 116 [eV b c e,frV f] S fun r S'=>RTo S b c (headFM e f) r S':=by
 have he:=hW.b hN
 have hsts:=hW.sts
 have hwn:=hW.len
 have hinn:=hW.inn
 have hfb:=(frameOk_nat hf).2.2
 have hsl:=stsOk_len hsts
 have hall:∀g ∈ fixedFds++e.inn,fieldOk g=true:=fun g hg=>by
  rcases List.mem_append.1 hg with hg | hg
  ·exact (by decide:∀g ∈ fixedFds,fieldOk g=true) g hg
  ·exact ((tableOk_parts hinn).2.2.2.1 g hg).1
 have hgood:∀x hd,headR f.body.length e.inn e.innM f.body 0=some (x,hd)→tableOk x e.innM=true∧headOk hd=true:=fun x hd hr=>by
  obtain ⟨x1,x2,x3⟩:=headR_good _ _ _ _ _ _ _ hinn (by omega) (by omega) hr
  exact ⟨x1,headOk_iff.2 ⟨x2,by omega⟩⟩
 rw [headFM_eq]
 obtain ⟨ans,out,outM,inn,innM,came,strs,snd,rm,wait,bad⟩:=e
 simp only at hsts hwn hinn hall hgood hsl
 have hne:=h.ne
 have hb:S[b]?=some (.cells 12 (strsC strs)):=h.1
 have hc:S[c]?=some (.cells 4 (frmsC wait)):=h.2
 have hbl:=lt_of_some hb
 have hcl:=lt_of_some hc
 have hlen:=strsC_len strs
 have hlw:=frmsC_len wait
 obtain ⟨fk,fl,fs,fb⟩:=f
 simp only at hfb hgood ⊢
 have sbad:∀X,RTo S b c ⟨ans,out,outM,inn,innM,came,strs,snd,rm,wait,true⟩ (eV b c ⟨ans,out,outM,inn,innM,came,strs,snd,rm,wait,true⟩) (S++X):=fun X=>.stay (e:=⟨ans,out,outM,inn,innM,came,strs,snd,rm,wait,true⟩) h
 refine VCall.ex hDe (fun _=>false) (fun id=>if id=3 then [26,26,26,26,26,26,26,26,26,26,26,26,26,26,26,26,26,26,26,26,26,26,26,26,26,26] else if id=5 then [6,6,4,4,5,6,8,8,9] else []) Tryz.func116 Tryz.ntmps116 Tryz.results116 ?_
 simp -implicitDefEqProofs (maxSteps:=1000000) (disch:=omega) only [push_cast,simprocAttr,↓gd]
 refine ((l11Read_ok inn innM fb (tableOk_b hinn) (table_len hinn) (tableOk_parts hinn).2.1 (by omega) hall _).as rfl).to ?_
 generalize hO:headR fb.length inn innM fb 0=O at hgood ⊢
 cases ha:atM strs fs with
 | some k =>
  obtain ⟨hk,hid⟩:=atM_some ha
  have hai:atI strs fs=k:=by rw [atI,ha]
  have hk0:¬(k:Int) < 0:=by omega
  have hg:growM ⟨ans,out,outM,inn,innM,came,strs,snd,rm,wait,bad⟩ fs=⟨ans,out,outM,inn,innM,came,strs,snd,rm,wait,bad⟩:=by rw [growM,if_neg (by rw [ha]; simp)]
  rw [hg]
  simp only [ha]
  have hso:=stsOk_at hsts hk
  obtain ⟨a1,a2,a3,a4,a5,a6,a7,a8⟩:=stOk_iff.1 hso
  have hat:=strsC_at hk
  have g9:=strsC_get hk (c:=9) (by decide)
  have g7:=strsC_get hk (c:=7) (by decide)
  cases O with
  | none =>
   have hm:tookM ⟨ans,out,outM,inn,innM,came,strs,snd,rm,wait,bad⟩ ans fl none (some k)=⟨ans,out,outM,inn,innM,came,strs,snd,rm,wait,true⟩:=rfl
   rw [hm]
   simp -implicitDefEqProofs (maxSteps:=1000000) (disch:=omega) only [push_cast,simprocAttr,hrV,↓gd]
   refine ((l21At_ok he (h.app _) fs).as rfl).to ?_
   simp -implicitDefEqProofs (maxSteps:=1000000) (disch:=omega) only [push_cast,simprocAttr,hai,hk0,↓gd]
   exact ⟨_,_,Wk.refl _ _ _,sbad _⟩
  | some th =>
   obtain ⟨t,hd⟩:=th
   obtain ⟨ht,hh⟩:=hgood t hd rfl
   simp -implicitDefEqProofs (maxSteps:=1000000) (disch:=omega) only [push_cast,simprocAttr,hrV,↓gd]
   refine ((l21At_ok he (h.app _) fs).as rfl).to ?_
   have hm:∀s,strs.getD k st0=s→tookM ⟨ans,out,outM,inn,innM,came,strs,snd,rm,wait,bad⟩ ans fl (some (t,hd)) (some k)=if s.heard=true∨s.got≠[]∨hd=[] then ⟨ans,out,outM,inn,innM,came,strs,snd,rm,wait,true⟩ else
    ⟨ans,out,outM,t,innM,came,strs.set k (if fl then doneM ans { s with got:=hd } else { s with got:=hd }),snd,rm,wait,bad⟩:=fun s hs=>by subst hs; rfl
   generalize hs:strs.getD k st0=s at hat hso a1 a2 a3 a4 a5 a6 a7 a8 g9 g7
   rw [hm s hs]
   clear hm hs
   obtain ⟨sid,sst,shd,ssay,sbg,ssd,ssent,sgot,stx,shrd,ssnd,srm⟩:=s
   simp only at a1 a2 a3 a4 a5 a6 a7 a8
   have hwl:=(wordOk_iff.1 a6).2
   cases shrd
   ·by_cases h2:sgot=[]
    ·subst h2
     by_cases h3:hd=[]
     ·subst h3
      rw [if_pos (by simp)]
      simp -implicitDefEqProofs (maxSteps:=1000000) (disch:=omega) only [push_cast,simprocAttr,hai,hk0,hb,g9,g7,↓gd]
      repeat refine And.intro (by omega) ?_
      exact ⟨_,_,Wk.refl _ _ _,sbad _⟩
     ·have h3':¬(hd.length:Int)=0:=by
       have:=List.length_pos_iff.2 h3
       omega
      rw [if_neg (by simp [h3])]
      cases fl
      ·simp -implicitDefEqProofs (maxSteps:=1000000) (disch:=omega) only [push_cast,simprocAttr,hai,hk0,hb,g9,g7,h3',hat,↓gd]
       repeat refine And.intro (by omega) ?_
       exact st_fin ⟨sid,sst,shd,ssay,sbg,ssd,ssent,hd,stx,false,ssnd,srm⟩ hb hc hne hk (by simp)
      ·simp -implicitDefEqProofs (maxSteps:=1000000) (disch:=omega) only [push_cast,simprocAttr,hai,hk0,hb,g9,g7,h3',hat,↓gd]
       repeat refine And.intro (by omega) ?_
       refine ((l21Done_ok (v:=.heap b strs.length) (w:=.heap c wait.length) ⟨ans,out,outM,t,innM,came,strs,snd,rm,wait,bad⟩ ⟨sid,sst,shd,ssay,sbg,ssd,ssent,hd,stx,false,ssnd,srm⟩ hh (show stx.length < 100 by omega) rfl rfl _).as (by simp [enV,enC,stV,strC])).to ?_
       generalize hdn:doneM ans ⟨sid,sst,shd,ssay,sbg,ssd,ssent,hd,stx,false,ssnd,srm⟩=s'
       simp -implicitDefEqProofs (maxSteps:=1000000) (disch:=omega) only [push_cast,simprocAttr,hai,hk0,hb,hat,↓gd]
       repeat refine And.intro (by omega) ?_
       exact st_fin s' hb hc hne hk (by simp [hdn])
    ·have h2':(sgot.length:Int) > 0:=by
      have:=List.length_pos_iff.2 h2
      omega
     rw [if_pos (by simp [h2])]
     simp -implicitDefEqProofs (maxSteps:=1000000) (disch:=omega) only [push_cast,simprocAttr,hai,hk0,hb,g9,g7,h2',↓gd]
     repeat refine And.intro (by omega) ?_
     exact ⟨_,_,Wk.refl _ _ _,sbad _⟩
   ·rw [if_pos (by simp)]
    simp -implicitDefEqProofs (maxSteps:=1000000) (disch:=omega) only [push_cast,simprocAttr,hai,hk0,hb,g9,↓gd]
    repeat refine And.intro (by omega) ?_
    exact ⟨_,_,Wk.refl _ _ _,sbad _⟩
 | none =>
  have hai:atI strs fs=-1:=by rw [atI,ha]
  have hn0:¬(strs.length:Int) < 0:=by omega
  have hn9:(newSt fs).heard=false:=rfl
  have hn7:(newSt fs).got=[]:=rfl
  have stayM:growM ⟨ans,out,outM,inn,innM,came,strs,snd,rm,wait,bad⟩ fs=⟨ans,out,outM,inn,innM,came,strs,snd,rm,wait,bad⟩→tookM (growM ⟨ans,out,outM,inn,innM,came,strs,snd,rm,wait,bad⟩ fs) ans fl O (atM (growM ⟨ans,out,outM,inn,innM,came,strs,snd,rm,wait,bad⟩ fs).strs fs)=⟨ans,out,outM,inn,innM,came,strs,snd,rm,wait,true⟩:=fun q=>by
   rw [q]
   simp only [ha]
   cases O <;> rfl
  have hst:stAt ⟨true,out,outM,inn,innM,came,strs++[newSt fs],snd,rm,wait,bad⟩ strs.length=newSt fs:=by simp only [stAt]; rw [getD_app,if_neg (by omega),if_pos rfl]
  have hmE:∀t (hd:List Fd),hd=[]→tookM ⟨true,out,outM,inn,innM,came,strs++[newSt fs],snd,rm,wait,bad⟩ true fl (some (t,hd)) (some strs.length)=⟨true,out,outM,inn,innM,came,strs++[newSt fs],snd,rm,wait,true⟩:=fun t hd q=>by
   simp only [tookM,hst]
   simp [q,badM]
  have hmS:∀t (hd:List Fd),hd≠[]→tookM ⟨true,out,outM,inn,innM,came,strs++[newSt fs],snd,rm,wait,bad⟩ true fl (some (t,hd)) (some strs.length) =
    ⟨true,out,outM,t,innM,came,(strs++[newSt fs]).set strs.length (if fl then doneM true { newSt fs with got:=hd } else { newSt fs with got:=hd }),snd,rm,wait,bad⟩:=fun t hd q=>by
   simp only [tookM,hst]
   simp [q,newSt,setSt]
  have hmN:tookM ⟨true,out,outM,inn,innM,came,strs++[newSt fs],snd,rm,wait,bad⟩ true fl none (some strs.length)=⟨true,out,outM,inn,innM,came,strs++[newSt fs],snd,rm,wait,true⟩:=rfl
  cases ans
  ·rw [stayM (by rw [growM,if_neg (by simp)])]
   cases O with
   | none =>
    simp -implicitDefEqProofs (maxSteps:=1000000) (disch:=omega) only [push_cast,simprocAttr,hrV,↓gd]
    refine ((l21At_ok he (h.app _) fs).as rfl).to ?_
    simp -implicitDefEqProofs (maxSteps:=1000000) (disch:=omega) only [push_cast,simprocAttr,hai,↓gd]
    exact ⟨_,_,Wk.refl _ _ _,sbad _⟩
   | some th =>
    obtain ⟨t,hd⟩:=th
    simp -implicitDefEqProofs (maxSteps:=1000000) (disch:=omega) only [push_cast,simprocAttr,hrV,↓gd]
    refine ((l21At_ok he (h.app _) fs).as rfl).to ?_
    simp -implicitDefEqProofs (maxSteps:=1000000) (disch:=omega) only [push_cast,simprocAttr,hai,↓gd]
    exact ⟨_,_,Wk.refl _ _ _,sbad _⟩
  ·by_cases hz:strs=[]
   ·have hg:growM ⟨true,out,outM,inn,innM,came,strs,snd,rm,wait,bad⟩ fs=⟨true,out,outM,inn,innM,came,strs++[newSt fs],snd,rm,wait,bad⟩:=by rw [growM,if_pos ⟨ha,rfl,.inl hz⟩]
    have hag:=atM_app ha
    have hzd:decide ((strs.length:Int)=0)=true:=by rw [hz]; rfl
    rw [hg,hag]
    cases O with
    | none =>
     rw [hmN]
     simp -implicitDefEqProofs (maxSteps:=1000000) (disch:=omega) only [push_cast,simprocAttr,hrV,hzd,↓gd]
     refine ((l21At_ok he (h.app _) fs).as rfl).to ?_
     simp -implicitDefEqProofs (maxSteps:=1000000) (disch:=omega) only [push_cast,simprocAttr,hai,hb,hzd,↓gd]
     repeat refine And.intro (by omega) ?_
     refine (l21New_ok fs _).to ?_
     simp -implicitDefEqProofs (maxSteps:=1000000) (disch:=omega) only [push_cast,simprocAttr,hai,hb,hzd,↓gd]
     repeat refine And.intro (by omega) ?_
     refine ⟨_,_,Wk.refl _ _ _,RTo.mk (S.length+5) c (by simp [eV,enV,enC]) ?_ ?_ (.inr (by omega)) (.inl rfl) (((Upd.refl _ _).set _ (.inr (by simp))).app _)⟩
     ·rw [s1_get,strsC_app,strsC_one]
      rfl
     ·simp -implicitDefEqProofs (maxSteps:=1000000) (disch:=omega) only [push_cast,simprocAttr,hc,↓gd]
    | some th =>
     obtain ⟨t,hd⟩:=th
     obtain ⟨ht,hh⟩:=hgood t hd rfl
     simp -implicitDefEqProofs (maxSteps:=1000000) (disch:=omega) only [push_cast,simprocAttr,hrV,hzd,↓gd]
     refine ((l21At_ok he (h.app _) fs).as rfl).to ?_
     simp -implicitDefEqProofs (maxSteps:=1000000) (disch:=omega) only [push_cast,simprocAttr,hai,hb,hzd,↓gd]
     repeat refine And.intro (by omega) ?_
     refine (l21New_ok fs _).to ?_
     by_cases h3:hd=[]
     ·rw [hmE t hd h3]
      have h3d:decide ((hd.length:Int)=0)=true:=by rw [h3]; rfl
      simp -implicitDefEqProofs (maxSteps:=1000000) (disch:=omega) only [push_cast,simprocAttr,hai,hb,last_get,last_drop,hn0,hn9,hn7,h3d,hzd,↓gd]
      repeat refine And.intro (by omega) ?_
      refine ⟨_,_,Wk.refl _ _ _,RTo.mk (S.length+5) c (by simp [eV,enV,enC]) ?_ ?_ (.inr (by omega)) (.inl rfl) (((Upd.refl _ _).set _ (.inr (by simp))).app _)⟩
      ·rw [s1_get,strsC_app,strsC_one]
       rfl
      ·simp -implicitDefEqProofs (maxSteps:=1000000) (disch:=omega) only [push_cast,simprocAttr,hc,↓gd]
     ·have h3':¬(hd.length:Int)=0:=by
       have:=List.length_pos_iff.2 h3
       omega
      rw [hmS t hd h3]
      cases fl
      ·simp -implicitDefEqProofs (maxSteps:=1000000) (disch:=omega) only [push_cast,simprocAttr,hai,hb,last_get,last_drop,hn0,hn9,hn7,hzd,h3',↓gd]
       repeat refine And.intro (by omega) ?_
       exact grow_fin (newSt fs) { newSt fs with got:=hd } hb hc hne (last_splice strs _ (strC { newSt fs with got:=hd }) rfl) rfl
      ·simp -implicitDefEqProofs (maxSteps:=1000000) (disch:=omega) only [push_cast,simprocAttr,hai,hb,last_get,last_drop,hn0,hn9,hn7,hzd,h3',↓gd]
       repeat refine And.intro (by omega) ?_
       refine ((l21Done_ok (v:=.heap (S.length+5) (strs.length+1)) (w:=.heap c wait.length) ⟨true,out,outM,t,innM,came,strs,snd,rm,wait,bad⟩ { newSt fs with got:=hd } hh (show ([]:List UInt8).length < 100 by decide) rfl rfl _).as (by simp [enV,enC,stV,strC,newSt])).to ?_
       simp only [if_true]
       generalize hdn:doneM true { newSt fs with got:=hd }=s'
       simp -implicitDefEqProofs (maxSteps:=1000000) (disch:=omega) only [push_cast,simprocAttr,hai,hb,last_get,last_drop,hn0,hn9,hn7,h3',↓gd]
       repeat refine And.intro (by omega) ?_
       exact grow_fin (newSt fs) s' hb hc hne (last_splice strs _ (strC s') rfl) (by rw [←hdn]; rfl)
   ·have hz':¬(strs.length:Int)=0:=by
     have:=List.length_pos_iff.2 hz
     omega
    have hlp:=List.length_pos_iff.2 hz
    have hi1:((strs.length:Int) - 1).toNat=strs.length - 1:=by omega
    have glast:=strsC_id (l:=strs) (i:=strs.length - 1) (by omega)
    by_cases hl:(strs.getD (strs.length - 1) st0).id < fs
    ·have hg:growM ⟨true,out,outM,inn,innM,came,strs,snd,rm,wait,bad⟩ fs=⟨true,out,outM,inn,innM,came,strs++[newSt fs],snd,rm,wait,bad⟩:=by rw [growM,if_pos ⟨ha,rfl,.inr hl⟩]
     have hag:=atM_app ha
     rw [hg,hag]
     cases O with
     | none =>
      rw [hmN]
      simp -implicitDefEqProofs (maxSteps:=1000000) (disch:=omega) only [push_cast,simprocAttr,hrV,hz',hi1,glast,hl,↓gd]
      refine ((l21At_ok he (h.app _) fs).as rfl).to ?_
      simp -implicitDefEqProofs (maxSteps:=1000000) (disch:=omega) only [push_cast,simprocAttr,hai,hb,hz',hi1,glast,hl,↓gd]
      repeat refine And.intro (by omega) ?_
      refine (l21New_ok fs _).to ?_
      simp -implicitDefEqProofs (maxSteps:=1000000) (disch:=omega) only [push_cast,simprocAttr,hai,hb,hz',hi1,glast,hl,↓gd]
      repeat refine And.intro (by omega) ?_
      refine ⟨_,_,Wk.refl _ _ _,RTo.mk (S.length+5) c (by simp [eV,enV,enC]) ?_ ?_ (.inr (by omega)) (.inl rfl) (((Upd.refl _ _).set _ (.inr (by simp))).app _)⟩
      ·rw [s1_get,strsC_app,strsC_one]
       rfl
      ·simp -implicitDefEqProofs (maxSteps:=1000000) (disch:=omega) only [push_cast,simprocAttr,hc,↓gd]
     | some th =>
      obtain ⟨t,hd⟩:=th
      obtain ⟨ht,hh⟩:=hgood t hd rfl
      simp -implicitDefEqProofs (maxSteps:=1000000) (disch:=omega) only [push_cast,simprocAttr,hrV,hz',hi1,glast,hl,↓gd]
      refine ((l21At_ok he (h.app _) fs).as rfl).to ?_
      simp -implicitDefEqProofs (maxSteps:=1000000) (disch:=omega) only [push_cast,simprocAttr,hai,hb,hz',hi1,glast,hl,↓gd]
      repeat refine And.intro (by omega) ?_
      refine (l21New_ok fs _).to ?_
      by_cases h3:hd=[]
      ·rw [hmE t hd h3]
       have h3d:decide ((hd.length:Int)=0)=true:=by rw [h3]; rfl
       simp -implicitDefEqProofs (maxSteps:=1000000) (disch:=omega) only [push_cast,simprocAttr,hai,hb,last_get,last_drop,hn0,hn9,hn7,h3d,hz',hi1,glast,hl,↓gd]
       repeat refine And.intro (by omega) ?_
       refine ⟨_,_,Wk.refl _ _ _,RTo.mk (S.length+5) c (by simp [eV,enV,enC]) ?_ ?_ (.inr (by omega)) (.inl rfl) (((Upd.refl _ _).set _ (.inr (by simp))).app _)⟩
       ·rw [s1_get,strsC_app,strsC_one]
        rfl
       ·simp -implicitDefEqProofs (maxSteps:=1000000) (disch:=omega) only [push_cast,simprocAttr,hc,↓gd]
      ·have h3':¬(hd.length:Int)=0:=by
        have:=List.length_pos_iff.2 h3
        omega
       rw [hmS t hd h3]
       cases fl
       ·simp -implicitDefEqProofs (maxSteps:=1000000) (disch:=omega) only [push_cast,simprocAttr,hai,hb,last_get,last_drop,hn0,hn9,hn7,hz',hi1,glast,hl,h3',↓gd]
        repeat refine And.intro (by omega) ?_
        exact grow_fin (newSt fs) { newSt fs with got:=hd } hb hc hne (last_splice strs _ (strC { newSt fs with got:=hd }) rfl) rfl
       ·simp -implicitDefEqProofs (maxSteps:=1000000) (disch:=omega) only [push_cast,simprocAttr,hai,hb,last_get,last_drop,hn0,hn9,hn7,hz',hi1,glast,hl,h3',↓gd]
        repeat refine And.intro (by omega) ?_
        refine ((l21Done_ok (v:=.heap (S.length+5) (strs.length+1)) (w:=.heap c wait.length) ⟨true,out,outM,t,innM,came,strs,snd,rm,wait,bad⟩ { newSt fs with got:=hd } hh (show ([]:List UInt8).length < 100 by decide) rfl rfl _).as (by simp [enV,enC,stV,strC,newSt])).to ?_
        simp only [if_true]
        generalize hdn:doneM true { newSt fs with got:=hd }=s'
        simp -implicitDefEqProofs (maxSteps:=1000000) (disch:=omega) only [push_cast,simprocAttr,hai,hb,last_get,last_drop,hn0,hn9,hn7,h3',↓gd]
        repeat refine And.intro (by omega) ?_
        exact grow_fin (newSt fs) s' hb hc hne (last_splice strs _ (strC s') rfl) (by rw [←hdn]; rfl)
    ·rw [stayM (by rw [growM,if_neg (by rintro ⟨_,_,q | q⟩; exact hz q; exact hl q)])]
     cases O with
     | none =>
      simp -implicitDefEqProofs (maxSteps:=1000000) (disch:=omega) only [push_cast,simprocAttr,hrV,↓gd]
      refine ((l21At_ok he (h.app _) fs).as rfl).to ?_
      simp -implicitDefEqProofs (maxSteps:=1000000) (disch:=omega) only [push_cast,simprocAttr,hai,hb,hz',hi1,glast,hl,↓gd]
      repeat refine And.intro (by omega) ?_
      exact ⟨_,_,Wk.refl _ _ _,sbad _⟩
     | some th =>
      obtain ⟨t,hd⟩:=th
      simp -implicitDefEqProofs (maxSteps:=1000000) (disch:=omega) only [push_cast,simprocAttr,hrV,↓gd]
      refine ((l21At_ok he (h.app _) fs).as rfl).to ?_
      simp -implicitDefEqProofs (maxSteps:=1000000) (disch:=omega) only [push_cast,simprocAttr,hai,hb,hz',hi1,glast,hl,↓gd]
      repeat refine And.intro (by omega) ?_
      exact ⟨_,_,Wk.refl _ _ _,sbad _⟩
end
end Go.Proofs.YtldogccmhncnoaaGreatDoor
