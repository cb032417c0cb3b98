/- A part of the proof: contracts of functions, or plain facts on which these lean. -/
import Derived.Test.YtldogccmhncnoaaMp16
import Derived.Test.YtldogccmhncnoaaMp17
namespace Go.Proofs.Ytldogccmhncnoaa
open Go
set_option linter.unusedVariables false
set_option linter.unusedSimpArgs false
set_option maxRecDepth 100000
set_option maxHeartbeats 16000000

section
open Go
theorem l2Unpack_ok (b:List UInt8) (hb:b.length≤16) (S:List Blk):VCall Try.prog 66 [.str b] S fun r S'=>r=.tup [.str (unO b),.bool (unOk b)]∧S'=S:=by
 have hL:=bitsB_len b
 obtain ⟨L,hLd⟩:∃L,L=bitsB b:=⟨_,rfl⟩
 have hLle:∀x ∈ L,x≤1:=by rw [hLd]; exact bitsB_le b
 rw [←hLd] at hL
 refine VCall.en hD Try.func66 Try.ntmps66 Try.results66 ?_
 simp -implicitDefEqProofs (disch:=omega) only [push_cast,simprocAttr,↓gd]
 refine wpV_loop (fun m t S'=>∃(i τ:Nat),m=b.length - i∧i≤b.length∧t 0=.str b∧t 4=.rows (some τ) ((bitsB (b.take i)).map iV)∧t 5=.int .i64 i∧Tok S S' τ 1) b.length ⟨0,S.length,by omega,by omega,rfl,rfl,rfl,Tok.new _ _⟩ ?_
 rintro m t S' ⟨i,τ,rfl,hi,h0,h4,h5,hT⟩
 have hat:=hT.at
 have hbl:=bitsB_len (b.take i)
 have hti:(b.take i).length≤16:=by simp; omega
 refine wpV_of0 hD ?_
 by_cases hil:i < b.length
 ·have hil':(i:Int) < b.length:=by omega
  obtain ⟨c,hc⟩:∃c,c=b.getD i 0:=⟨_,rfl⟩
  have hc256:=c.toNat_lt
  have hcw:IntKind.i64.wrap (c.toNat:Int)=c.toNat:=i64_fit _ (by omega)
  simp -implicitDefEqProofs (disch:=omega) only [push_cast,simprocAttr,h0,h4,h5,hil',←hc,hcw,↓gd]
  refine ⟨by omega,((l2Bits_ok c.toNat 8 (by omega) (by omega) _).as (by simp)).to ?_⟩
  simp -implicitDefEqProofs (disch:=omega) only [push_cast,simprocAttr,h0,h4,h5,hat,↓gd]
  refine ⟨by rw [bitsOf_len]; omega,by omega,b.length - (i+1),by omega,i+1,S'.length,rfl,by omega,?_,by simp,hT.step⟩
  rw [take_get8 hil,←hc]
  simp [bitsB]
 ·have hil':¬(i:Int) < b.length:=by omega
  have:i=b.length:=by omega
  subst this
  rw [List.take_length,←hLd] at h4
  simp -implicitDefEqProofs (disch:=omega) only [push_cast,simprocAttr,h0,h4,h5,hil',↓gd]
  refine wpV_mono (k:=fun e t S2=>e=.exit 2∧t 6=.str (unO b)∧(∃tk,t 4=.rows tk ((unL b).map iV))∧S2=S') ?_ ?_
  ·refine wpV_loop (fun m t S2=>∃(x:List Nat) (f:Nat) (o:List UInt8),m=x.length∧x.length≤f∧x.length≤128∧o.length≤128 - x.length∧(∀y ∈ x,y≤1)∧unO b=o++(unB f x).1∧unL b=(unB f x).2∧(∃tk,t 4=.rows tk (x.map iV))∧t 6=.str o∧S2=S') L.length
    ⟨L,L.length,[],rfl,Nat.le_refl _,by omega,by simp,hLle,by rw [unO,←hLd]; rfl,by rw [unL,←hLd],⟨_,by simpa [putT] using h4⟩,rfl,rfl⟩ ?_
   clear h0 h4 h5 hT hat
   rintro m t S2 ⟨x,f,o,rfl,hxf,hx128,hol,hxb,hun,hul,⟨tk,h4⟩,h6,rfl⟩
   have hstop:unB f x=([],x)→V.str o=.str (unO b)∧∃tk',V.rows tk (x.map iV)=.rows tk' ((unL b).map iV):=fun e=>by
    rw [hun,hul,e]
    exact ⟨by rw [List.append_nil],tk,rfl⟩
   refine wpV_of0 hD ?_
   have hs5:List.take 5 (List.map iV x)=List.map iV (x.take 5):=by rw [List.map_take]
   have hs7:List.take 7 (List.map iV x)=List.map iV (x.take 7):=by rw [List.map_take]
   have hd5:List.drop 5 (List.take x.length (List.map iV x))=List.map iV (x.drop 5):=by rw [List.take_of_length_le (by simp),List.map_drop]
   have hd7:List.drop 7 (List.take x.length (List.map iV x))=List.map iV (x.drop 7):=by rw [List.take_of_length_le (by simp),List.map_drop]
   by_cases h5l:5≤x.length
   ·have h5l':(x.length:Int) ≥ 5:=by omega
    obtain ⟨k,rfl⟩:∃k,f=k+1:=⟨f - 1,by omega⟩
    simp -implicitDefEqProofs (disch:=omega) only [push_cast,simprocAttr,h4,h6,h5l',hs5,↓gd]
    refine (l2Num_ok (x.take 5) (by simp; omega) (fun y hy=>hxb y (List.mem_of_mem_take hy)) _).to ?_
    by_cases h24:numOf (x.take 5) < 24
    ·have hst:=unB_5 (k:=k) h5l h24
     generalize numOf (x.take 5)=w at h24 hst
     have h24':¬(w:Int) ≥ 24:=by omega
     have h39':¬(w:Int) ≥ 39:=by omega
     have hnx:unB (k+1) x=(signOf w :: (unB k (x.drop 5)).1,(unB k (x.drop 5)).2):=hst
     simp -implicitDefEqProofs (disch:=omega) only [push_cast,simprocAttr,h4,h6,hs5,h24',h39',↓gd]
     refine ⟨by omega,by omega,?_⟩
     generalize hc:(List.getD (α:=UInt8) _ w 0)=c
     have hcs:signOf w=c:=hc
     have hc256:=c.toNat_lt
     rw [i64_fit _ (by omega)]
     refine (l1Byte_ok c.toNat _).to ?_
     simp -implicitDefEqProofs (disch:=omega) only [push_cast,simprocAttr,h4,h6,hd5,↓gd]
     refine ⟨by omega,by omega,by omega,(x.drop 5).length,by simp; omega,x.drop 5,k,o++[c],rfl,by simp; omega,by simp; omega,by simp; omega,fun y hy=>hxb y (List.mem_of_mem_drop hy),?_,?_,⟨_,rfl⟩,?_⟩
     ·rw [hun,hnx,hcs,List.append_assoc]; rfl
     ·rw [hul,hnx]
     ·simp [by8]
    ·have h24':((numOf (x.take 5):Nat):Int) ≥ 24:=by omega
     by_cases h7l:7≤x.length
     ·have h7l':¬(x.length:Int) < 7:=by omega
      obtain ⟨n1,n2,n3⟩:=num57 h7l hxb
      simp -implicitDefEqProofs (disch:=omega) only [push_cast,simprocAttr,h4,h6,h24',h7l',hs7,↓gd]
      refine ⟨by omega,(l2Num_ok (x.take 7) (by simp; omega) (fun y hy=>hxb y (List.mem_of_mem_take hy)) _).to ?_⟩
      by_cases h39:39≤numOf (x.take 7) - 72
      ·have hst:=hstop (unB_bad (k:=k) h7l h24 h39)
       generalize numOf (x.take 7)=v at n1 n2 n3 h39
       have ev:(v:Int) - 96+24=((v - 72:Nat):Int):=by omega
       have h39':((v - 72:Nat):Int) ≥ 39:=by omega
       generalize v - 72=w at ev h39'
       simp -implicitDefEqProofs (disch:=omega) only [push_cast,simprocAttr,h4,h6,ev,h39',↓gd]
       exact hst
      ·have hst:=unB_7 (k:=k) h7l h24 h39
       generalize numOf (x.take 7)=v at n1 n2 n3 h39 hst
       have ev:(v:Int) - 96+24=((v - 72:Nat):Int):=by omega
       have h39':¬((v - 72:Nat):Int) ≥ 39:=by omega
       generalize v - 72=w at ev h39' hst
       have hnx:unB (k+1) x=(signOf w :: (unB k (x.drop 7)).1,(unB k (x.drop 7)).2):=hst
       simp -implicitDefEqProofs (disch:=omega) only [push_cast,simprocAttr,h4,h6,hs7,ev,h39',↓gd]
       refine ⟨by omega,by omega,?_⟩
       generalize hc:(List.getD (α:=UInt8) _ w 0)=c
       have hcs:signOf w=c:=hc
       have hc256:=c.toNat_lt
       rw [i64_fit _ (by omega)]
       refine (l1Byte_ok c.toNat _).to ?_
       simp -implicitDefEqProofs (disch:=omega) only [push_cast,simprocAttr,h4,h6,hd7,↓gd]
       refine ⟨by omega,by omega,by omega,(x.drop 7).length,by simp; omega,x.drop 7,k,o++[c],rfl,by simp; omega,by simp; omega,by simp; omega,fun y hy=>hxb y (List.mem_of_mem_drop hy),?_,?_,⟨_,rfl⟩,?_⟩
       ·rw [hun,hnx,hcs,List.append_assoc]; rfl
       ·rw [hul,hnx]
       ·simp [by8]
     ·have h7l':(x.length:Int) < 7:=by omega
      simp -implicitDefEqProofs (disch:=omega) only [push_cast,simprocAttr,h4,h6,h24',h7l',↓gd]
      exact hstop (unB_lt7 (by omega) h24)
   ·have h5l':¬(x.length:Int) ≥ 5:=by omega
    simp -implicitDefEqProofs (disch:=omega) only [push_cast,simprocAttr,h4,h6,h5l',↓gd]
    refine hstop ?_
    cases f with
    | zero =>
     have:x=[]:=List.length_eq_zero_iff.1 (by omega)
     subst this
     rfl
    | succ k=>exact unB_lt5 (by omega)
  ·rintro _ t2 S2 ⟨rfl,h6,⟨tk,h4⟩,rfl⟩
   have hul:=congrArg List.length (un_bits b)
   rw [List.length_append,←hLd] at hul
   have hol:(unO b).length≤1000:=by
    have h3:∀w:List UInt8,w.length≤(w.flatMap codeOf).length:=by
     intro w
     induction w with
     | nil=>simp
     | cons c w ih =>
      have:1≤(codeOf c).length:=by unfold codeOf; split <;> simp [bitsOf_len]
      simp only [List.flatMap_cons,List.length_append,List.length_cons]; omega
    have:=h3 (unO b)
    omega
   have huk:unOk b=((unL b).all (fun x=>decide (x=1)) && decide ((unL b).length < 8) && decide ((unO b).length≤16)):=rfl
   generalize unL b=l at h4 hul huk
   generalize unO b=o at h6 hol huk
   simp -implicitDefEqProofs (disch:=omega) only [push_cast,simprocAttr,h4,h6,↓gd]
   refine wpV_loop (fun m t S3=>∃i:Nat,m=l.length - i∧i≤l.length∧t 4=.rows tk (l.map iV)∧t 6=.str o∧t 9=.bool ((l.take i).all (fun x=>decide (x=1)))∧t 10=.int .i64 i∧S3=S2) l.length ⟨0,by omega,by omega,h4,h6,rfl,rfl,rfl⟩ ?_
   clear h4 h6 h0 h5
   rintro m t S3 ⟨i,rfl,hi,h4,h6,h9,h10,rfl⟩
   refine wpV_of0 hD ?_
   by_cases hil:i < l.length
   ·have hil':(i:Int) < l.length:=by omega
    have hgd:=getD_iV hil
    rw [iV_eq] at hgd
    have htk:(l.take (i+1)).all (fun x=>decide (x=1))=((l.take i).all (fun x=>decide (x=1)) && decide (l.getD i 0=1)):=by
     rw [take_getD hil,List.all_append]; simp
    generalize l.getD i 0=y at hgd htk
    cases hal:(l.take i).all (fun x=>decide (x=1))
    ·rw [hal] at h9 htk
     simp -implicitDefEqProofs (disch:=omega) only [push_cast,simprocAttr,h4,h6,h9,h10,hil',↓gd]
     exact ⟨l.length - (i+1),by omega,i+1,rfl,by omega,by rw [htk]; rfl,by simp⟩
    ·rw [hal] at h9 htk
     by_cases hy:y=1
     ·have hy':(y:Int)=1:=by omega
      rw [decide_eq_true hy] at htk
      simp -implicitDefEqProofs (disch:=omega) only [push_cast,simprocAttr,h4,h6,h9,h10,hil',hgd,hy',↓gd]
      exact ⟨by omega,l.length - (i+1),by omega,i+1,rfl,by omega,by rw [htk]; simp,by simp⟩
     ·have hy':¬(y:Int)=1:=by omega
      rw [decide_eq_false hy] at htk
      simp -implicitDefEqProofs (disch:=omega) only [push_cast,simprocAttr,h4,h6,h9,h10,hil',hgd,hy',↓gd]
      exact ⟨by omega,l.length - (i+1),by omega,i+1,rfl,by omega,by rw [htk]; simp,by simp⟩
   ·have hil':¬(i:Int) < l.length:=by omega
    have:i=l.length:=by omega
    subst this
    rw [List.take_length] at h9
    cases hal:l.all (fun x=>decide (x=1))
    ·rw [hal] at h9 huk
     simp -implicitDefEqProofs (disch:=omega) only [push_cast,simprocAttr,h4,h6,h9,h10,hil',↓gd]
     exact hT.fin (Cl.two (.str _) (.bool _)) (by rw [huk]; rfl)
    ·rw [hal] at h9 huk
     by_cases h8:l.length < 8
     ·have h8':(l.length:Int) < 8:=by omega
      simp -implicitDefEqProofs (disch:=omega) only [push_cast,simprocAttr,h4,h6,h9,h10,hil',h8',↓gd]
      refine hT.fin (Cl.two (.str _) (.bool _)) ?_
      rw [huk]
      simp [h8]
      omega
     ·have h8':¬(l.length:Int) < 8:=by omega
      simp -implicitDefEqProofs (disch:=omega) only [push_cast,simprocAttr,h4,h6,h9,h10,hil',h8',↓gd]
      exact hT.fin (Cl.two (.str _) (.bool _)) (by rw [huk]; simp [h8])
theorem sWordUnpack_ok (b:List UInt8) (hb:b.length≤1000000) (S:List Blk):VCall Try.prog 64 [.str b] S fun r S'=>r=unV (unpackM b)∧S'=S:=by
 by_cases h16:b.length≤16
 ·have h16':¬(b.length:Int) > 16:=by omega
  refine VCall.en hD Try.func64 Try.ntmps64 Try.results64 ?_
  simp -implicitDefEqProofs (disch:=omega) only [push_cast,simprocAttr,h16',↓gd]
  refine (l2Unpack_ok b h16 _).to ?_
  cases hu:unOk b
  ·simp -implicitDefEqProofs (disch:=omega) only [push_cast,simprocAttr,↓gd]
   exact fin0 (by rw [unpackM,if_pos h16,hu]; rfl)
  ·simp -implicitDefEqProofs (disch:=omega) only [push_cast,simprocAttr,↓gd]
   exact fin0 (by rw [unpackM,if_pos h16,hu]; rfl)
 ·have h16':(b.length:Int) > 16:=by omega
  refine VCall.en hD Try.func64 Try.ntmps64 Try.results64 ?_
  simp -implicitDefEqProofs (disch:=omega) only [push_cast,simprocAttr,h16',↓gd]
  exact fin0 (by rw [unpackM,if_neg h16]; rfl)
theorem l2Read_ok (b:List UInt8) (hb:b.length≤1000000) (S:List Blk):VCall Try.prog 56 [.str b] S fun r S'=>r=wrV (wordR b)∧S'=S:=by
 refine VCall.en hD Try.func56 Try.ntmps56 Try.results56 ?_
 simp -implicitDefEqProofs (disch:=omega) only [push_cast,simprocAttr,↓gd]
 refine ((l1Read_ok b 7 (by omega) (by omega) _).as (by simp)).to ?_
 cases hn:numR b 7 with
 | none =>
  simp -implicitDefEqProofs (disch:=omega) only [push_cast,simprocAttr,nrV,↓gd]
  exact fin0 (by rw [wordR,hn]; rfl)
 | some x =>
  obtain ⟨n,s⟩:=x
  obtain ⟨h1,h2,h3,h4⟩:=numR_bound (by decide) hn
  have hw:wordR b=if n≤16∧s+n≤b.length then
   (if 128≤(b.getD 0 0).toNat then (unpackM ((b.drop s).take n)).map (fun x=>(x,s+n)) else if wordOk ((b.drop s).take n)=true then some ((b.drop s).take n,s+n) else none) else none:=by rw [wordR,hn]
  by_cases h16:n≤16
  ·have h16':¬((n:Int) > 16):=by omega
   by_cases hsn:s+n≤b.length
   ·have hsn':¬((s:Int)+n > b.length):=by omega
    rw [if_pos ⟨h16,hsn⟩] at hw
    have hsl:List.drop s (List.take ((s:Int)+n).toNat b)=(b.drop s).take n:=by rw [show ((s:Int)+n).toNat=s+n by omega,List.drop_take,Nat.add_sub_cancel_left]
    have hwl:((b.drop s).take n).length≤1000:=by simp; omega
    generalize hwd:(b.drop s).take n=w at hsl hw hwl
    generalize hc:b.getD 0 0=c at hw
    have hcn:=c.toNat_lt
    by_cases hc8:128≤c.toNat
    ·rw [if_pos hc8] at hw
     have hc8':((c.toNat:Int) ≥ 128):=by omega
     simp -implicitDefEqProofs (disch:=omega) only [push_cast,simprocAttr,nrV,h16',hsn',hsl,hc,hc8',↓gd]
     refine ⟨by omega,by omega,by omega,by omega,(sWordUnpack_ok w (by omega) _).to ?_⟩
     cases hu:unpackM w with
     | none =>
      simp -implicitDefEqProofs (disch:=omega) only [push_cast,simprocAttr,unV,↓gd]
      exact fin0 (by rw [hw,hu]; rfl)
     | some x =>
      simp -implicitDefEqProofs (disch:=omega) only [push_cast,simprocAttr,unV,↓gd]
      exact fin0 (by rw [hw,hu]; simp [wrV])
    ·have hc8':¬((c.toNat:Int) ≥ 128):=by omega
     rw [if_neg hc8] at hw
     simp -implicitDefEqProofs (disch:=omega) only [push_cast,simprocAttr,nrV,h16',hsn',hsl,hc,hc8',↓gd]
     refine ⟨by omega,by omega,by omega,by omega,(sWordOk_ok w (by omega) _).to ?_⟩
     cases hk:wordOk w
     ·simp -implicitDefEqProofs (disch:=omega) only [push_cast,simprocAttr,↓gd]
      exact fin0 (by rw [hw,hk]; rfl)
     ·simp -implicitDefEqProofs (disch:=omega) only [push_cast,simprocAttr,↓gd]
      exact fin0 (by rw [hw,hk]; simp [wrV])
   ·have hsn':((s:Int)+n > b.length):=by omega
    simp -implicitDefEqProofs (disch:=omega) only [push_cast,simprocAttr,nrV,h16',hsn',↓gd]
    exact fin0 (by rw [hw,if_neg (fun h=>hsn h.2)]; rfl)
  ·have h16':((n:Int) > 16):=by omega
   simp -implicitDefEqProofs (disch:=omega) only [push_cast,simprocAttr,nrV,h16',↓gd]
   exact fin0 (by rw [hw,if_neg (fun h=>h16 h.1)]; rfl)
end
section
open Go
theorem finOne {S X:List Blk} {v:V} {q:V→Prop} (hc:Cl S.length (eraseT v)) (h:q (eraseT v)):∃r S2,Wk S v (S++X) r S2∧q r∧S2=S:=⟨_,S,(Wk.eraseT _ _ _).trans (Wk.pure hc),h,rfl⟩
theorem l3At_ok (l:List Fd) (max:Int) (place:Nat) (hl:l.length≤1000000) (hp:place≤1000000) (S:List Blk):VCall Try.prog 44 [tV l max,.int .i64 place] S fun r S'=>r=arV (atR l place)∧S'=S:=by
 refine VCall.en hD Try.func44 Try.ntmps44 Try.results44 ?_
 simp -implicitDefEqProofs (disch:=omega) only [push_cast,simprocAttr,↓gd]
 refine (l3All_ok l max (by omega) _).to ?_
 have hal:=all_len l
 generalize hw:fixedFds++l=w at hal
 simp -implicitDefEqProofs (disch:=omega) only [push_cast,simprocAttr,↓gd]
 refine (l6In_ok place 1 w.length _).to ?_
 by_cases h:1≤place∧place≤l.length+6
 ·have hgd:=getD_fV (l:=w) (i:=place - 1) (by omega)
  have hat:atR l place=some (w.getD (place - 1) fd0):=by rw [atR,if_pos h,hw]
  generalize w.getD (place - 1) fd0=f at hgd hat
  have hpl:((place:Int) - 1).toNat=place - 1:=by omega
  have hin:(decide ((1:Int)≤(place:Int)) && decide ((place:Int)≤(w.length:Int)))=true:=by simp; omega
  rw [hin]
  simp -implicitDefEqProofs (disch:=omega) only [push_cast,simprocAttr,hpl,hgd,↓gd]
  exact ⟨by omega,by omega,fin1 (Cl.two (cl_fV _ f) (.bool _)) (by rw [hat]; rfl)⟩
 ·have hin:(decide ((1:Int)≤(place:Int)) && decide ((place:Int)≤(w.length:Int)))=false:=by simp; omega
  rw [hin]
  simp -implicitDefEqProofs (disch:=omega) only [push_cast,simprocAttr,↓gd]
  refine fin1 (Cl.two (cl_fV _ fd0) (.bool _)) ?_
  rw [atR,if_neg h]
  rfl
def LitRes (o:Option (Fd × Nat × Nat)) (r:V):Prop:=match o with
 | some (f,s,_)=>r=.tup [fV ⟨f.name,f.val,false⟩,.int .i64 s,.bool true]
 | none=>∃(g:Fd) (s:Int),r=.tup [fV g,.int .i64 s,.bool false]
theorem l11Lit_ok (l:List Fd) (max:Int) (b:List UInt8) (bits:Nat) (hbits:3≤bits∧bits≤7) (hl:l.length≤1000000) (hb:b.length≤1000000) (hall:∀f ∈ fixedFds++l,fieldOk f=true) (S:List Blk) :
  VCall Try.prog 45 [tV l max,.str b,.int .i64 bits] S fun r S'=>LitRes (litR l b bits) r∧S'=S:=by
 have hz:∀(X:List Blk),∃r S2,Wk S (.tup [.agg [.str [],.str [],.bool false],.int .i64 0,.bool false]) (S++X) r S2∧LitRes none r∧S2=S :=
  fun X=>⟨_,_,Wk.pure (Cl.three (cl_fV _ fd0) (.int _ _) (.bool _)),⟨fd0,0,rfl⟩,rfl⟩
 have hfin:∀(X:List Blk) (nm v:List UInt8) (s:Nat) (si:Int),si=s→litR l b bits=some (⟨nm,v,bits == 4⟩,s,bits)→∃r S2,Wk S (.tup [.agg [.str nm,.str v,.bool false],.int .i64 si,.bool true]) (S++X) r S2∧LitRes (litR l b bits) r∧S2=S :=
  fun X nm v s si e h=>⟨_,_,Wk.pure (Cl.three (cl_fV _ ⟨nm,v,false⟩) (.int _ _) (.bool _)),by rw [h,e]; rfl,rfl⟩
 have hbad:∀(X:List Blk) (nm v:List UInt8) (s:Int),litR l b bits=none→∃r S2,Wk S (.tup [.agg [.str nm,.str v,.bool false],.int .i64 s,.bool false]) (S++X) r S2∧LitRes (litR l b bits) r∧S2=S :=
  fun X nm v s h=>⟨_,_,Wk.pure (Cl.three (cl_fV _ ⟨nm,v,false⟩) (.int _ _) (.bool _)),by rw [h]; exact ⟨⟨nm,v,false⟩,s,rfl⟩,rfl⟩
 refine VCall.en hD Try.func45 Try.ntmps45 Try.results45 ?_
 simp -implicitDefEqProofs (disch:=omega) only [push_cast,simprocAttr,↓gd]
 refine (l1Read_ok b bits hbits (by omega) _).to ?_
 cases hn:numR b bits with
 | none =>
  have hlit:litR l b bits=none:=by rw [litR,hn]
  simp -implicitDefEqProofs (disch:=omega) only [push_cast,simprocAttr,nrV,↓gd]
  rw [hlit]
  exact hz _
 | some x =>
  obtain ⟨q,s⟩:=x
  obtain ⟨g1,g2,g3,g4⟩:=numR_bound hbits.2 hn
  have hlit:litR l b bits=match nameR l b q s with
    | none=>none
    | some (nm,s2)=>match wordR (b.drop s2) with
     | none=>none
     | some (v,n)=>if fieldOk ⟨nm,v,bits == 4⟩=true then some (⟨nm,v,bits == 4⟩,s2+n,bits) else none:=by rw [litR,hn]; rfl
  have hds:(b.take b.length).drop s=b.drop s:=by rw [List.take_length]
  by_cases hq:q=0
  ·have hq':(q:Int)=0:=by omega
   have hnm:nameR l b q s=(wordR (b.drop s)).map (fun x=>(x.1,s+x.2)):=by rw [nameR,if_pos hq]
   rw [hnm] at hlit
   simp -implicitDefEqProofs (disch:=omega) only [push_cast,simprocAttr,nrV,hq',hds,↓gd]
   refine ⟨by omega,by omega,by omega,(l2Read_ok (b.drop s) (by simp; omega) _).to ?_⟩
   cases hw:wordR (b.drop s) with
   | none =>
    rw [hw] at hlit
    simp -implicitDefEqProofs (disch:=omega) only [push_cast,simprocAttr,wrV,↓gd]
    rw [hlit]
    exact hz _
   | some y =>
    obtain ⟨nm,n⟩:=y
    obtain ⟨w1,w2,w3⟩:=wordR_bound hw
    simp only [List.length_drop] at w3
    have hds2:(b.take b.length).drop ((s:Int)+n).toNat=b.drop (s+n):=by rw [List.take_length,show ((s:Int)+n).toNat=s+n by omega]
    rw [hw] at hlit
    simp only [Option.map_some] at hlit
    have hnl:=(wordOk_signs w1).2
    by_cases hnm0:nm=[]
    ·have hno:litR l b bits=none:=by
      rw [hlit]
      cases wordR (b.drop (s+n)) with
      | none=>rfl
      | some z =>
       obtain ⟨v,n2⟩:=z
       simp only
       rw [if_neg (by rw [hnm0]; simp [fieldOk])]
     simp -implicitDefEqProofs (disch:=omega) only [push_cast,simprocAttr,wrV,hnm0,↓gd]
     rw [hno]
     exact hz _
    ·have hnm0':(nm=[])=False:=by simp [hnm0]
     simp -implicitDefEqProofs (disch:=omega) only [push_cast,simprocAttr,wrV,hnm0',hds2,↓gd]
     refine ⟨by omega,by omega,by omega,(l2Read_ok (b.drop (s+n)) (by simp; omega) _).to ?_⟩
     cases hv:wordR (b.drop (s+n)) with
     | none =>
      rw [hv] at hlit
      simp -implicitDefEqProofs (disch:=omega) only [push_cast,simprocAttr,wrV,↓gd]
      exact hbad _ _ _ _ hlit
     | some z =>
      obtain ⟨v,n2⟩:=z
      obtain ⟨v1,v2,v3⟩:=wordR_bound hv
      simp only [List.length_drop] at v3
      have hk:fieldOk ⟨nm,v,bits == 4⟩=true:=by simp [fieldOk,w1,v1,hnm0]
      rw [hv] at hlit
      simp only [if_pos hk] at hlit
      simp -implicitDefEqProofs (disch:=omega) only [push_cast,simprocAttr,wrV,↓gd]
      exact hfin _ nm v _ _ (by simp) hlit
  ·have hq':¬(q:Int)=0:=by omega
   have hnm:nameR l b q s=(atR l q).map (fun f=>(f.name,s)):=by rw [nameR,if_neg hq]
   rw [hnm] at hlit
   simp -implicitDefEqProofs (disch:=omega) only [push_cast,simprocAttr,nrV,hq',↓gd]
   refine ((l3At_ok l max q hl (by omega) _).as rfl).to ?_
   cases hat:atR l q with
   | none =>
    rw [hat] at hlit
    simp -implicitDefEqProofs (disch:=omega) only [push_cast,simprocAttr,arV,fd0,↓gd]
    rw [hlit]
    exact hz _
   | some g =>
    rw [hat] at hlit
    simp only [Option.map_some] at hlit
    have hgm:=hall g (atR_mem hat)
    obtain ⟨gn1,gn2,gn3,gn4,gn5⟩:=fieldOk_parts hgm
    simp -implicitDefEqProofs (disch:=omega) only [push_cast,simprocAttr,arV,hds,↓gd]
    refine ⟨by omega,by omega,by omega,(l2Read_ok (b.drop s) (by simp; omega) _).to ?_⟩
    cases hv:wordR (b.drop s) with
    | none =>
     rw [hv] at hlit
     simp -implicitDefEqProofs (disch:=omega) only [push_cast,simprocAttr,wrV,↓gd]
     exact hbad _ _ _ _ hlit
    | some z =>
     obtain ⟨v,n2⟩:=z
     obtain ⟨v1,v2,v3⟩:=wordR_bound hv
     simp only [List.length_drop] at v3
     have hk:fieldOk ⟨g.name,v,bits == 4⟩=true:=by simp [fieldOk,gn1,v1,gn3]
     rw [hv] at hlit
     simp only [if_pos hk] at hlit
     simp -implicitDefEqProofs (disch:=omega) only [push_cast,simprocAttr,wrV,↓gd]
     exact hfin _ g.name v _ _ (by simp) hlit
def OneRes (l:List Fd) (max:Int) (o:Option (Fd × Nat × Nat)) (r:V):Prop:=match o with
 | some (f,s,bits)=>r=.tup [tV (if bits=6 then fitL (f :: l) max else l) max,fV f,.int .i64 s,.bool true]
 | none=>∃(g:Fd) (s:Int),r=.tup [tV l max,fV g,.int .i64 s,.bool false]
theorem litR_form {l:List Fd} {b:List UInt8} {w:Nat} {f:Fd} {s bits:Nat} (h:litR l b w=some (f,s,bits)):f=⟨f.name,f.val,w == 4⟩∧bits=w:=by
 unfold litR at h
 split at h
 ·cases h
 ·split at h
  ·cases h
  ·split at h
   ·cases h
   ·split at h
    ·cases h; exact ⟨rfl,rfl⟩
    ·cases h
theorem l11One_ok (l:List Fd) (max:Int) (b:List UInt8) (hl:FdsB l) (hl1:l.length≤1000000) (hm:0≤max) (hb:b.length≤1000000) (hne:b≠[]) (hall:∀f ∈ fixedFds++l,fieldOk f=true) (S:List Blk) :
  VCall Try.prog 28 [tV l max,.str b] S fun r S'=>OneRes l max (fieldR l b) r∧S'=S:=by
 have hpos:0 < b.length:=List.length_pos_iff.2 hne
 obtain ⟨c,hc⟩:∃c,c=b.getD 0 0:=⟨_,rfl⟩
 have hcn:=c.toNat_lt
 have hbad:∀(X:List Blk) (g:Fd) (s:Int),∃r S2,Wk S (.tup [tV l max,fV g,.int .i64 s,.bool false]) (S++X) r S2∧OneRes l max none r∧S2=S :=
  fun X g s=>⟨_,_,Wk.pure (Cl.four (cl_tab _ l max) (cl_fV _ g) (.int _ _) (.bool _)),⟨g,s,rfl⟩,rfl⟩
 refine VCall.ex hD (fun _=>false) (fun id=>if id=4 then [7,8,11,7,7,11,11,8,11,11,11] else if id=8 then [2,3,3,6,6,6] else if id=9 then [2,2,5,6,9,6,9,9,9] else if id=13 then [4,5,8,8,5,8,8,8] else []) Try.func28 Try.ntmps28 Try.results28 ?_
 simp -implicitDefEqProofs (disch:=omega) only [push_cast,simprocAttr,←hc,↓gd]
 refine ⟨by omega,?_⟩
 by_cases h128:128≤c.toNat
 ·have h128':(c.toNat:Int) ≥ 128:=by omega
  have hf0:fieldR l b=idxR l b:=by rw [fieldR,←hc,if_pos h128]
  simp -implicitDefEqProofs (disch:=omega) only [push_cast,simprocAttr,←hc,h128',↓gd]
  refine ((l1Read_ok b 7 (by omega) (by omega) _).as (by simp)).to ?_
  cases hn:numR b 7 with
  | none =>
   have hfr:fieldR l b=none:=by rw [hf0,idxR,hn]
   have hat:atR l 0=none:=by rw [atR,if_neg (by omega)]
   simp -implicitDefEqProofs (disch:=omega) only [push_cast,simprocAttr,nrV,↓gd]
   refine ((l3At_ok l max 0 hl1 (by omega) _).as rfl).to ?_
   rw [hat,hfr]
   simp -implicitDefEqProofs (disch:=omega) only [push_cast,simprocAttr,arV,fd0,↓gd]
   exact hbad _ fd0 _
  | some x =>
   obtain ⟨q,s⟩:=x
   obtain ⟨g1,g2,g3,g4⟩:=numR_bound (by decide) hn
   have hfr:fieldR l b=(atR l q).map (fun f=>(f,s,7)):=by rw [hf0,idxR,hn]
   simp -implicitDefEqProofs (disch:=omega) only [push_cast,simprocAttr,nrV,↓gd]
   refine ((l3At_ok l max q hl1 (by omega) _).as rfl).to ?_
   rw [hfr]
   cases hat:atR l q with
   | none =>
    simp -implicitDefEqProofs (disch:=omega) only [push_cast,simprocAttr,arV,fd0,↓gd]
    exact hbad _ fd0 _
   | some g =>
    simp -implicitDefEqProofs (disch:=omega) only [push_cast,simprocAttr,arV,↓gd]
    exact ⟨_,_,Wk.pure (Cl.four (cl_tab _ l max) (cl_fV _ g) (.int _ _) (.bool _)),rfl,rfl⟩
 have h128':¬(c.toNat:Int) ≥ 128:=by omega
 by_cases h64:64≤c.toNat
 ·have h64':(c.toNat:Int) ≥ 64:=by omega
  have hf0:fieldR l b=litR l b 6:=by rw [fieldR,←hc,if_neg h128,if_pos h64]
  simp -implicitDefEqProofs (disch:=omega) only [push_cast,simprocAttr,←hc,h128',h64',↓gd]
  refine ⟨by omega,((l11Lit_ok l max b 6 (by omega) hl1 hb hall _).as (by simp; rfl)).mono ?_⟩
  rintro r S2 ⟨hr,rfl⟩
  rw [hf0]
  cases hlit:litR l b 6 with
  | none =>
   rw [hlit] at hr
   obtain ⟨g,s,rfl⟩:=hr
   simp -implicitDefEqProofs (disch:=omega) only [push_cast,simprocAttr,↓gd]
   exact hbad _ g _
  | some y =>
   obtain ⟨f,s,bits⟩:=y
   obtain ⟨hff,hbits⟩:=litR_form hlit
   obtain ⟨k1,k2,k3,k4,k5⟩:=litR_bound hb (by decide) hlit
   rw [hlit] at hr
   have hrr:r=.tup [fV ⟨f.name,f.val,false⟩,.int .i64 s,.bool true]:=hr
   subst hrr
   have hff2:(⟨f.name,f.val,false⟩:Fd)=f:=hff.symm
   have hfb:FdB f:=by
    obtain ⟨_,_,_,q1,q2⟩:=fieldOk_parts k1
    exact ⟨by omega,by omega⟩
   simp -implicitDefEqProofs (disch:=omega) only [push_cast,simprocAttr,↓gd]
   refine ((l3Add_ok l max f hl hfb (by omega) hm _).as (by rw [←hff2]; rfl)).to ?_
   rw [hff2]
   simp -implicitDefEqProofs (disch:=omega) only [push_cast,simprocAttr,↓gd]
   refine finOne (Cl.four (cl_tab _ (fitL (f :: l) max) max) (cl_fV _ ⟨f.name,f.val,false⟩) (.int _ _) (.bool _)) ?_
   subst hbits
   show _=_
   rw [if_pos rfl,←hff2]
   rfl
 have h64':¬(c.toNat:Int) ≥ 64:=by omega
 have hcw:IntKind.i64.wrap (c.toNat:Int)=c.toNat:=i64_fit _ (by omega)
 simp -implicitDefEqProofs (disch:=omega) only [push_cast,simprocAttr,←hc,h128',h64',hcw,↓gd]
 refine ⟨by omega,by omega,(l6In_ok c.toNat 16 31 _).to ?_⟩
 by_cases h16:16≤c.toNat∧c.toNat < 32
 ·have hin:(decide ((16:Int)≤(c.toNat:Int)) && decide ((c.toNat:Int)≤31))=true:=by simp; omega
  have hf0:fieldR l b=litR l b 4:=by rw [fieldR,←hc,if_neg h128,if_neg h64,if_pos h16]
  rw [hin,hf0]
  simp -implicitDefEqProofs (disch:=omega) only [push_cast,simprocAttr,↓gd]
  refine ((l11Lit_ok l max b 4 (by omega) hl1 hb hall _).as (by simp; rfl)).mono ?_
  rintro r S2 ⟨hr,rfl⟩
  cases hlit:litR l b 4 with
  | none =>
   rw [hlit] at hr
   obtain ⟨g,s,rfl⟩:=hr
   simp -implicitDefEqProofs (disch:=omega) only [push_cast,simprocAttr,↓gd]
   exact hbad _ ⟨g.name,g.val,true⟩ _
  | some y =>
   obtain ⟨f,s,bits⟩:=y
   obtain ⟨hff,hbits⟩:=litR_form hlit
   rw [hlit] at hr
   have hrr:r=.tup [fV ⟨f.name,f.val,false⟩,.int .i64 s,.bool true]:=hr
   subst hrr
   simp -implicitDefEqProofs (disch:=omega) only [push_cast,simprocAttr,↓gd]
   refine ⟨_,_,Wk.pure (Cl.four (cl_tab _ l max) (cl_fV _ ⟨f.name,f.val,true⟩) (.int _ _) (.bool _)),?_,rfl⟩
   subst hbits
   show _=_
   rw [if_neg (by decide),hff]
   rfl
 ·have hin:(decide ((16:Int)≤(c.toNat:Int)) && decide ((c.toNat:Int)≤31))=false:=by simp; omega
  have hf0:fieldR l b=none:=by rw [fieldR,←hc,if_neg h128,if_neg h64,if_neg h16]
  rw [hin,hf0]
  simp -implicitDefEqProofs (disch:=omega) only [push_cast,simprocAttr,↓gd]
  exact hbad _ fd0 _
end
section
open Go
theorem l11Read_ok (l:List Fd) (max:Int) (b:List UInt8) (hl:FdsB l) (hl1:l.length≤100) (hm:0≤max) (hb:b.length≤250) (hall:∀f ∈ fixedFds++l,fieldOk f=true) (S:List Blk) :
  VCall Try.prog 16 [tV l max,.str b] S fun r S'=>r=hrV max (headR b.length l max b 0)∧S'=S:=by
 have hlen:=hl.1
 refine VCall.en hD Try.func16 Try.ntmps16 Try.results16 ?_
 simp -implicitDefEqProofs (disch:=omega) only [push_cast,simprocAttr,↓gd]
 refine wpV_loop (fun m t S'=>∃(w h:List Fd) (d:List UInt8) (X:List Blk) (τ:Nat),m=d.length∧d.length≤250∧FdsB w∧(∀f ∈ fixedFds++w,fieldOk f=true)∧w.length≤100+h.length∧h.length≤6∧(headR b.length l max b 0=(headR d.length w max d h.length).map (fun x=>(x.1,h++x.2)))∧t 1=.str d∧t 2=.ptr S.length 0∧t 4=.ptr (S.length+1) 0 ∧
   X[τ]?=some (.right 3)∧t 7=.rows (some (S.length+(τ+2))) (h.map fV)∧S'=S++([.cells 0 [.rows none (w.map fV),.int .i64 max],.cells 0 [.nils,.int .i64 0]]++X)) b.length
  ⟨l,[],b,[.right 3],0,rfl,hb,hl,hall,by simp; omega,by simp,?_,rfl,rfl,rfl,rfl,rfl,rfl⟩ ?_
 ·cases headR b.length l max b 0 <;> rfl
 rintro m t S' ⟨w,h,d,X,τ,rfl,hd,hw,hwall,hwl,hh6,hrun,h1,h2,h4,hX,h7,rfl⟩
 have hX2:∀Y,(X++Y)[τ]?=some (.right 3):=fun Y=>by rw [List.getElem?_append_left (rd_lt hX)]; exact hX
 refine wpV_of0 hD ?_
 by_cases hdn:d=[]
 ·subst hdn
  have hres:headR b.length l max b 0=some (w,h):=by rw [hrun,headR_nil]; simp
  simp -implicitDefEqProofs (disch:=omega) only [push_cast,simprocAttr,h1,h2,h4,h7,↓gd]
  exact finE (Cl.three (cl_tab _ w max) (cl_fds _ h) (.bool _)) (by rw [hres]; rfl)
 ·have hdp:0 < d.length:=List.length_pos_iff.2 hdn
  have hdne:(d=[])=False:=by simp [hdn]
  have hwl2:=hw.1
  simp -implicitDefEqProofs (disch:=omega) only [push_cast,simprocAttr,h1,h2,h4,hdne,↓gd]
  refine ((l11One_ok w max d hw (by omega) hm (by omega) hdn hwall _).as rfl).mono ?_
  rintro r S2 ⟨hr,rfl⟩
  obtain ⟨k,hk⟩:∃k,d.length=k+1:=⟨d.length - 1,by omega⟩
  cases hf:fieldR w d with
  | none =>
   rw [hf] at hr
   have hstep:headR d.length w max d h.length=none:=by rw [hk,headR,if_neg hdn,hf]
   have hres:headR b.length l max b 0=none:=by rw [hrun,hstep]; rfl
   obtain ⟨g,s,rfl⟩:=hr
   simp -implicitDefEqProofs (disch:=omega) only [push_cast,simprocAttr,h1,h2,h4,↓gd]
   exact finE (Cl.three (cl_tab _ [] 0) (cl_fds _ []) (.bool _)) (by rw [hres]; rfl)
  | some y =>
   obtain ⟨f,s,bits⟩:=y
   rw [hf] at hr
   have hstep:headR d.length w max d h.length=if h.length=6 then none else (headR k (if bits=6 then fitL (f :: w) max else w) max (d.drop s) (h.length+1)).map (fun x=>(x.1,f :: x.2)):=by rw [hk,headR,if_neg hdn,hf]
   obtain ⟨b1,b2,b3,b4⟩:=fieldR_bound (by omega) hf
   have hrr:r=.tup [tV (if bits=6 then fitL (f :: w) max else w) max,fV f,.int .i64 s,.bool true]:=hr
   subst hrr
   have hdl:(d.drop s).length=d.length - s:=List.length_drop ..
   have hds:(d.take d.length).drop s=d.drop s:=by rw [List.take_length]
   rw [headR_fuel d.length (d.drop s) (by omega) (by omega) k _ max _ (by omega)] at hstep
   have hfb:FdB f:=by
    rcases b4 with ⟨_,hm⟩ | ⟨_,hk,_⟩
    ·obtain ⟨_,_,_,q1,q2⟩:=fieldOk_parts (hwall f hm)
     exact ⟨by omega,by omega⟩
    ·obtain ⟨_,_,_,q1,q2⟩:=fieldOk_parts hk
     exact ⟨by omega,by omega⟩
   have hnew:FdsB (if bits=6 then fitL (f :: w) max else w)∧(if bits=6 then fitL (f :: w) max else w).length≤w.length+1∧∀g ∈ fixedFds++(if bits=6 then fitL (f :: w) max else w),fieldOk g=true:=by
    split
    ·rename_i h6
     have hb:FdsB (f :: w):=⟨by simp; omega,fun g hg=>by
      rcases List.mem_cons.1 hg with rfl | hg
      ·exact hfb
      ·exact hw.2 g hg⟩
     refine ⟨hb.fit max,by simpa using (fitL_sub (f :: w) max).2,fun g hg=>?_⟩
     rcases List.mem_append.1 hg with g1 | g1
     ·exact hwall g (List.mem_append.2 (.inl g1))
     ·rcases List.mem_cons.1 ((fitL_sub (f :: w) max).1 g g1) with rfl | g2
      ·rcases b4 with ⟨e7,_⟩ | ⟨_,hk,_⟩
       ·omega
       ·exact hk
      ·exact hwall g (List.mem_append.2 (.inr g2))
    ·exact ⟨hw,by omega,hwall⟩
   generalize (if bits=6 then fitL (f :: w) max else w)=w2 at hnew hstep
   obtain ⟨n1,n2,n3⟩:=hnew
   by_cases h6:h.length=6
   ·rw [if_pos h6] at hstep
    have hres:headR b.length l max b 0=none:=by rw [hrun,hstep]; rfl
    have h6':(h.length:Int) ≥ 6:=by omega
    simp -implicitDefEqProofs (disch:=omega) only [push_cast,simprocAttr,h1,h2,h4,h7,h6',↓gd]
    exact finE (Cl.three (cl_tab _ [] 0) (cl_fds _ []) (.bool _)) (by rw [hres]; rfl)
   ·rw [if_neg h6] at hstep
    have h6':¬(h.length:Int) ≥ 6:=by omega
    simp -implicitDefEqProofs (disch:=omega) only [push_cast,simprocAttr,h1,h2,h4,h7,h6',hds,hX2,↓gd]
    refine ⟨by omega,by omega,by omega,by omega,(d.drop s).length,by omega,w2,h++[f],d.drop s,_,X.length+3,rfl,by omega,n1,n3,by rw [List.length_append]; simp; omega,by rw [List.length_append]; simp; omega,?_,rfl,?_,by rw [List.map_append]; rfl,rfl⟩
    ·rw [hrun,hstep,Option.map_map,List.length_append]
     congr 1
     funext y
     simp
    ·rw [List.getElem?_append_right (by simp)]; simp
theorem sHeadRead_ok (l:List Fd) (max:Int) (b:List UInt8) (hl:FdsB l) (hb:b.length≤1000000000) (S:List Blk) :
  VCall Try.prog 5 [tV l max,.str b] S fun r S'=>r=hrV max (hrM l max b)∧S'=S:=by
 have hlen:=hl.1
 refine VCall.ex hD (fun _=>false) (fun id=>if id=3 then [3,3,3,8,8,8,8,8,12,12,12,12,15,15,15] else []) Try.func5 Try.ntmps5 Try.results5 ?_
 simp -implicitDefEqProofs (disch:=omega) only [push_cast,simprocAttr,↓gd]
 refine (sTableOk_ok l max hl _).to ?_
 cases ht:tableOk l max
 ·simp -implicitDefEqProofs (disch:=omega) only [push_cast,simprocAttr,↓gd]
  exact finE (Cl.three (cl_tab _ [] 0) (cl_fds _ []) (.bool _)) (by rw [hrM,if_neg (by simp [ht])]; rfl)
 obtain ⟨ht1,ht2,ht3,ht4,ht5⟩:=tableOk_parts ht
 by_cases h250:b.length≤250
 ·have h250':¬(b.length:Int) > 250:=by omega
  have hM:hrM l max b=headR b.length l max b 0:=by rw [hrM,if_pos ⟨ht,h250⟩]
  simp -implicitDefEqProofs (disch:=omega) only [push_cast,simprocAttr,h250',↓gd]
  refine ⟨by omega,((l11Read_ok l max b hl (by omega) ht2 h250 (fun f hf=>(List.mem_append.1 hf).elim (fun h=>(fixed_ok f h).1) (fun h=>(ht4 f h).1)) _).as rfl).to ?_⟩
  rw [hM]
  cases headR b.length l max b 0 with
  | none =>
   simp -implicitDefEqProofs (disch:=omega) only [push_cast,simprocAttr,hrV,↓gd]
   exact finE (Cl.three (cl_tab _ [] 0) (cl_fds _ []) (.bool _)) rfl
  | some x =>
   obtain ⟨w,h⟩:=x
   simp -implicitDefEqProofs (disch:=omega) only [push_cast,simprocAttr,hrV,↓gd]
   exact finE (Cl.three (cl_tab _ w max) (cl_fds _ h) (.bool _)) rfl
 ·have h250':(b.length:Int) > 250:=by omega
  simp -implicitDefEqProofs (disch:=omega) only [push_cast,simprocAttr,h250',↓gd]
  exact finE (Cl.three (cl_tab _ [] 0) (cl_fds _ []) (.bool _)) (by rw [hrM,if_neg (fun h=>h250 h.2)]; rfl)
end
section
open Go
def wo0:Wo:=⟨en0,en0,[],[]⟩
end
section
open Go
def Plain:V→Prop
 | .int _ _ | .bool _ | .str _=>True
 | _=>False
theorem Plain.vr {x:V} (h:Plain x) {G G':Gh} {w w':World} {c:Value} (hv:VR G w x c):VR G' w' x c:=by
 cases hv <;> first | exact .int _ _ | exact .bool _ | exact .str _ | exact h.elim
theorem Wk.fst {S0 S S':List Blk} {r r':V} {xs:List V} (hx:∀x ∈ xs,Plain x) (h:Wk S0 r S r' S'):Wk S0 (.tup (r :: xs)) S (.tup (r' :: xs)) S':=by
 intro G0 w0 G w c h0 hE hv hR
 cases hv with
 | @tup _ c hl hr =>
  have hsz:0 < c.size:=by rw [←hl]; simp
  obtain ⟨G',h1,h2,h3⟩:=h G0 w0 G w c[0] h0 hE (hr 0 r c[0] rfl (Array.getElem?_eq_getElem hsz)) hR
  refine ⟨G',.tup hl (fun i v u hv hu=>?_),h2,h3⟩
  cases i with
  | zero =>
   cases hv
   rw [Array.getElem?_eq_getElem hsz] at hu
   cases hu
   exact h1
  | succ i=>exact (hx v (List.mem_of_getElem? hv)).vr (hr (i+1) v u hv hu)
theorem RNew.zero {S X:List Blk}:∃r S2,Wk S (.agg zE) (S++X) r S2∧RNew S en0 r S2:=by
 obtain ⟨r,S2,h1,b',c',rfl,h2⟩:=fin_new (S:=S) (S1:=S++X) (r:=enV .nils .nils en0) (e:=en0) rfl rfl ((Upd.refl _ _).app _) rfl rfl
 have hz:Wk S (.agg zE) (S++X) (.agg [.bool false,.nils,.int .i64 0,.nils,.int .i64 0,.str [],.nils,.int .i64 0,.int .i64 0,.nils,.bool false]) (S++X):=Wk.refl _ _ _
 have he:Wk S (.agg zE) (S++X) (enV .nils .nils en0) (S++X):=by
  intro G0 w0 G w c hR0 hE hv hR
  refine ⟨G,?_,hR,hE⟩
  cases hv with
  | agg hl hr ho =>
   refine .agg hl (fun i v u hv hu=>?_) ho
   have hi:i < 11:=by
    have:=List.getElem?_eq_some_iff.1 hv
    simpa [enC,enV] using this.1
   have hz:zE[i]?=some (zE[i]'(by simpa [zE] using hi)):=List.getElem?_eq_getElem _
   have hr':=hr i _ u hz hu
   have:i=0∨i=1∨i=2∨i=3∨i=4∨i=5∨i=6∨i=7∨i=8∨i=9∨i=10:=by omega
   rcases this with rfl | rfl | rfl | rfl | rfl | rfl | rfl | rfl | rfl | rfl | rfl <;> simp only [enC,en0,List.map_nil,List.getElem?_cons_zero,List.getElem?_cons_succ,Option.some.injEq] at hv <;> subst hv <;> first | exact hr' | exact eraseC_ok hr'
 exact ⟨_,_,he.trans h1,b',c',rfl,h2⟩
theorem EnNew.set {S:List Blk} {e:En} {b c:Nat} {S':List Blk} (h:EnNew S e b c S') {j:Nat} (B:Blk) (hj:S.length≤j) (h1:b≠j) (h2:c≠j):EnNew S e b c (S'.set j B) :=
 ⟨⟨by rw [get_set_ne (Ne.symm h1)]; exact h.at_.1,by rw [get_set_ne (Ne.symm h2)]; exact h.at_.2⟩,h.hb,h.hc,h.upd.set B (.inl hj)⟩
end
section
open Go
def wC (b c d f:Nat) (w:Wo):List V:=enC (.heap b w.caller.strs.length) (.heap c w.caller.wait.length) w.caller++enC (.heap d w.answerer.strs.length) (.heap f w.answerer.wait.length) w.answerer++[.str w.up,.str w.down]
def wV (b c d f:Nat) (w:Wo):V:=.agg (wC b c d f w)
@[push_cast] theorem wC_eq (b c d f:Nat) (w:Wo):wC b c d f w=enC (.heap b w.caller.strs.length) (.heap c w.caller.wait.length) w.caller++enC (.heap d w.answerer.strs.length) (.heap f w.answerer.wait.length) w.answerer++[.str w.up,.str w.down]:=rfl
@[push_cast] theorem wV_eq (b c d f:Nat) (w:Wo):wV b c d f w=.agg (enC (.heap b w.caller.strs.length) (.heap c w.caller.wait.length) w.caller++enC (.heap d w.answerer.strs.length) (.heap f w.answerer.wait.length) w.answerer++[.str w.up,.str w.down]):=rfl
def zW:List V:=zE++zE++[.str [],.str []]
@[push_cast] theorem zW_eq:zW=zE++zE++[.str [],.str []]:=rfl
structure WoAt (S:List Blk) (b c d f:Nat) (w:Wo):Prop where
 caller:EnAt S b c w.caller
 answerer:EnAt S d f w.answerer
 ne1:b≠d
 ne2:c≠f
theorem WoAt.app {S:List Blk} {b c d f:Nat} {w:Wo} (h:WoAt S b c d f w) (X:List Blk):WoAt (S++X) b c d f w:=⟨h.caller.app X,h.answerer.app X,h.ne1,h.ne2⟩
structure WoNew (S:List Blk) (w:Wo) (b c d f:Nat) (S':List Blk):Prop where
 at_:WoAt S' b c d f w
 hb:S.length≤b
 hc:S.length≤c
 hd:S.length≤d
 hf:S.length≤f
 upd:Upd [] S S'
structure WoTo (S:List Blk) (b c d f:Nat) (w:Wo) (b' c' d' f':Nat) (S':List Blk):Prop where
 at_:WoAt S' b' c' d' f' w
 hb:b'=b∨S.length≤b'
 hc:c'=c∨S.length≤c'
 hd:d'=d∨S.length≤d'
 hf:f'=f∨S.length≤f'
 upd:Upd [b,c,d,f] S S'
def RWNew (S:List Blk) (w:Wo) (v:V) (S':List Blk):Prop:=∃b c d f,v=wV b c d f w∧WoNew S w b c d f S'
theorem WoTo.refl {S:List Blk} {b c d f:Nat} {w:Wo} (h:WoAt S b c d f w):WoTo S b c d f w b c d f S:=⟨h,.inl rfl,.inl rfl,.inl rfl,.inl rfl,Upd.refl _ _⟩
theorem WoTo.stay {S X:List Blk} {b c d f:Nat} {w:Wo} (h:WoAt S b c d f w):WoTo S b c d f w b c d f (S++X):=⟨h.app _,.inl rfl,.inl rfl,.inl rfl,.inl rfl,(Upd.refl _ _).app _⟩
theorem WoTo.trans {S S1 S2:List Blk} {b c d f b1 c1 d1 f1 b2 c2 d2 f2:Nat} {w1 w2:Wo} (h:WoTo S b c d f w1 b1 c1 d1 f1 S1) (k:WoTo S1 b1 c1 d1 f1 w2 b2 c2 d2 f2 S2):WoTo S b c d f w2 b2 c2 d2 f2 S2:=by
 have hl:=h.upd.1
 have h1:=h.hb; have h2:=h.hc; have h3:=h.hd; have h4:=h.hf
 refine ⟨k.at_,?_,?_,?_,?_,h.upd.then_ k.upd fun j hj hm=>?_⟩
 ·rcases k.hb with e | e <;> omega
 ·rcases k.hc with e | e <;> omega
 ·rcases k.hd with e | e <;> omega
 ·rcases k.hf with e | e <;> omega
 ·simp only [List.mem_cons,List.not_mem_nil,or_false] at hm ⊢
  omega
theorem WoNew.to {S S1 S2:List Blk} {b1 c1 d1 f1 b2 c2 d2 f2:Nat} {w1 w2:Wo} (h:WoNew S w1 b1 c1 d1 f1 S1) (k:WoTo S1 b1 c1 d1 f1 w2 b2 c2 d2 f2 S2):WoNew S w2 b2 c2 d2 f2 S2:=by
 have hl:=h.upd.1
 have h1:=h.hb; have h2:=h.hc; have h3:=h.hd; have h4:=h.hf
 refine ⟨k.at_,?_,?_,?_,?_,h.upd.then_ k.upd fun j hj hm=>?_⟩
 ·rcases k.hb with e | e <;> omega
 ·rcases k.hc with e | e <;> omega
 ·rcases k.hd with e | e <;> omega
 ·rcases k.hf with e | e <;> omega
 ·simp only [List.mem_cons,List.not_mem_nil,or_false] at hm
  omega
theorem WoNew.app {S X:List Blk} {w:Wo} {b c d f:Nat} {S':List Blk} (h:WoNew (S++X) w b c d f S'):WoNew S w b c d f S':=by
 have h1:=h.hb; have h2:=h.hc; have h3:=h.hd; have h4:=h.hf
 rw [List.length_append] at h1 h2 h3 h4
 exact ⟨h.at_,by omega,by omega,by omega,by omega,((Upd.refl [] S).app X).then_ h.upd (fun j hj hm=>hm)⟩
theorem WoTo.app {S X:List Blk} {b c d f:Nat} {w:Wo} {b' c' d' f':Nat} {S':List Blk} (h:WoTo (S++X) b c d f w b' c' d' f' S'):WoTo S b c d f w b' c' d' f' S':=by
 have h1:=h.hb; have h2:=h.hc; have h3:=h.hd; have h4:=h.hf
 rw [List.length_append] at h1 h2 h3 h4
 exact ⟨h.at_,by omega,by omega,by omega,by omega,((Upd.refl [b,c,d,f] S).app X).then_ h.upd (fun j hj hm=>hm)⟩
theorem EnAt.set {S:List Blk} {b c:Nat} {e:En} (h:EnAt S b c e) {j:Nat} (B:Blk) (h1:b≠j) (h2:c≠j):EnAt (S.set j B) b c e:=⟨by rw [get_set_ne (Ne.symm h1)]; exact h.1,by rw [get_set_ne (Ne.symm h2)]; exact h.2⟩
theorem WoAt.var {S:List Blk} {b c d f:Nat} {w:Wo} (h:WoAt S b c d f w) {j:Nat} {cs:List V} (hj:S[j]?=some (.cells 0 cs)):b≠j∧c≠j∧d≠j∧f≠j :=
 ⟨cells_ne h.caller.1 hj (by decide),cells_ne h.caller.2 hj (by decide),cells_ne h.answerer.1 hj (by decide),cells_ne h.answerer.2 hj (by decide)⟩
theorem WoAt.set {S:List Blk} {b c d f:Nat} {w:Wo} (h:WoAt S b c d f w) {j:Nat} (B:Blk) (hj:b≠j∧c≠j∧d≠j∧f≠j):WoAt (S.set j B) b c d f w:=⟨h.caller.set B hj.1 hj.2.1,h.answerer.set B hj.2.2.1 hj.2.2.2,h.ne1,h.ne2⟩
theorem WoTo.set {S:List Blk} {b c d f:Nat} {w:Wo} {b' c' d' f':Nat} {S':List Blk} (h:WoTo S b c d f w b' c' d' f' S') {j:Nat} (B:Blk) (hj:S.length≤j) (hn:b'≠j∧c'≠j∧d'≠j∧f'≠j):WoTo S b c d f w b' c' d' f' (S'.set j B) :=
 ⟨h.at_.set B hn,h.hb,h.hc,h.hd,h.hf,h.upd.set B (.inl hj)⟩
theorem WoNew.set {S:List Blk} {w:Wo} {b' c' d' f':Nat} {S':List Blk} (h:WoNew S w b' c' d' f' S') {j:Nat} (B:Blk) (hj:S.length≤j) (hn:b'≠j∧c'≠j∧d'≠j∧f'≠j):WoNew S w b' c' d' f' (S'.set j B) :=
 ⟨h.at_.set B hn,h.hb,h.hc,h.hd,h.hf,h.upd.set B (.inl hj)⟩
end
end Go.Proofs.Ytldogccmhncnoaa
