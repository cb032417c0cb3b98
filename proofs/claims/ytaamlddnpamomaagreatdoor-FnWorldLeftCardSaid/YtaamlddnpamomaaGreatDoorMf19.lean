/- A part of the proof: contracts of functions, or plain facts on which these lean. -/
import Derived.Test.YtaamlddnpamomaaGreatDoorMf16
import Derived.Test.YtaamlddnpamomaaGreatDoorMf18
namespace Go.Proofs.YtaamlddnpamomaaGreatDoor
open Go
set_option linter.unusedVariables false
set_option linter.unusedSimpArgs false
set_option maxRecDepth 100000
set_option maxHeartbeats 16000000

section
open Go
theorem unpack_pack {w:List UInt8} (hw:wordOk w=true) (hp:(pack w).length≤16):unpackM (pack w)=some w:=by
 obtain ⟨hs,h16⟩:=wordOk_signs hw
 have hb:=bitsB_pack w
 have hlen:w.length≤(w.flatMap codeOf).length:=by
  clear hb hp hs h16 hw
  induction w with
  | nil=>simp
  | cons c w ih =>
   have:1≤(codeOf c).length:=by unfold codeOf; split <;> simp [bitsOf_len]
   simp only [List.flatMap_cons,List.length_append,List.length_cons]; omega
 have hu:unB (bitsB (pack w)).length (bitsB (pack w))=(w,List.replicate ((8 - (w.flatMap codeOf).length % 8) % 8) 1):=by
  rw [hb]
  refine unB_word w _ _ hs (by simp only [pad8,List.length_append]; omega) (fun x hx=>(List.mem_replicate.1 hx).2) (by rw [List.length_replicate]; omega)
 have h1:unO (pack w)=w:=by rw [unO,hu]
 have h2:unL (pack w)=List.replicate ((8 - (w.flatMap codeOf).length % 8) % 8) 1:=by rw [unL,hu]
 have h3:unOk (pack w)=true:=by
  rw [unOk,h1,h2]
  simp only [Bool.and_eq_true,decide_eq_true_eq,List.length_replicate]
  refine ⟨⟨?_,by omega⟩,h16⟩
  rw [List.all_eq_true]
  intro x hx
  simpa using (List.mem_replicate.1 hx).2
 rw [unpackM,if_pos hp,if_pos h3,h1]
theorem numW_small {n bits head:Nat} (h:n < 2 ^ bits - 1):numW n bits head=[by8 (head * 2 ^ bits+n)]:=by rw [numW,if_pos h]
theorem wordR_wordW {w:List UInt8} (hw:wordOk w=true) (rest:List UInt8):wordR (wordW w++rest)=some (w,(wordW w).length):=by
 obtain ⟨hs,h16⟩:=wordOk_signs hw
 rw [wordW]
 split
 ·rename_i hp
  have hn:numW (pack w).length 7 1=[by8 (1 * 2 ^ 7+(pack w).length)]:=numW_small (by have:(2:Nat) ^ 7=128:=rfl; omega)
  have hr:=numR_numW (n:=(pack w).length) (bits:=7) (head:=1) (by omega) (by omega) (by decide) (pack w++rest)
  rw [List.append_assoc,wordR,hr]
  simp only
  have hlen:(numW (pack w).length 7 1).length=1:=by rw [hn]; rfl
  have hc:((numW (pack w).length 7 1++(pack w++rest)).getD 0 0).toNat=1 * 2 ^ 7+(pack w).length:=by
   rw [hn]
   exact by8_toNat (by have:(2:Nat) ^ 7=128:=rfl; omega)
  rw [if_pos ⟨by omega,by simp [List.length_append]⟩,hc,if_pos (by have:(2:Nat) ^ 7=128:=rfl; omega),List.drop_left,List.take_left,unpack_pack hw (by omega)]
  simp
 ·have hn:numW w.length 7 0=[by8 (0 * 2 ^ 7+w.length)]:=numW_small (by have:(2:Nat) ^ 7=128:=rfl; omega)
  have hr:=numR_numW (n:=w.length) (bits:=7) (head:=0) (by omega) (by omega) (by decide) (w++rest)
  rw [List.append_assoc,wordR,hr]
  simp only
  have hlen:(numW w.length 7 0).length=1:=by rw [hn]; rfl
  have hc:((numW w.length 7 0++(w++rest)).getD 0 0).toNat=0 * 2 ^ 7+w.length:=by
   rw [hn]
   exact by8_toNat (by have:(2:Nat) ^ 7=128:=rfl; omega)
  rw [if_pos ⟨by omega,by simp [List.length_append]⟩,hc,if_neg (by have:(2:Nat) ^ 7=128:=rfl; omega),List.drop_left,List.take_left,if_pos hw]
  simp
theorem wordW_len17 {w:List UInt8} (hw:wordOk w=true):(wordW w).length≤17:=by
 obtain ⟨hs,h16⟩:=wordOk_signs hw
 rw [wordW]
 split
 ·rw [numW_small (by have:(2:Nat) ^ 7=128:=rfl; omega),List.length_append,List.length_singleton]; omega
 ·rw [numW_small (by have:(2:Nat) ^ 7=128:=rfl; omega),List.length_append,List.length_singleton]; omega
theorem numW_len2 {n bits head:Nat} (h:n≤100):(numW n bits head).length≤2:=by
 rw [numW]
 split
 ·simp
 ·rw [numTail_lt (by omega)]; simp
theorem nameW_len20 {f:Fd} (hf:fieldOk f=true) {place bits:Nat} (h:place≤100):(nameW place bits f).length≤19:=by
 obtain ⟨h1,_⟩:=fieldOk_parts hf
 have:=wordW_len17 h1
 have:=numW_len2 (bits:=bits) (head:=1) h
 rw [nameW,List.length_append]
 split
 ·omega
 ·simp only [List.length_nil]; omega
theorem fieldW_len36 {l:List Fd} {f:Fd} (hf:fieldOk f=true) (hl:l.length≤50):(fieldW l f).length≤36:=by
 obtain ⟨_,h2,_⟩:=fieldOk_parts hf
 have hp:=placeOf_le l f
 have h3:=wordW_len17 h2
 have h4:=nameW_len20 hf (place:=placeOf l f) (bits:=4) (by omega)
 have h5:=nameW_len20 hf (place:=placeOf l f) (bits:=6) (by omega)
 have h6:=numW_len2 (n:=placeOf l f) (bits:=7) (head:=1) (by omega)
 unfold fieldW
 split
 ·rw [List.length_append]; omega
 ·split
  ·omega
  ·rw [List.length_append]; omega
theorem findIdx_lt {p:Fd→Bool} {w:List Fd} (h:w.any p=true):w.findIdx p < w.length∧p (w.getD (w.findIdx p) fd0)=true:=by
 obtain ⟨x,hx,hp⟩:=List.any_eq_true.1 h
 have hlt:w.findIdx p < w.length:=List.findIdx_lt_length_of_exists ⟨x,hx,hp⟩
 refine ⟨hlt,?_⟩
 rw [List.getD,List.getElem?_eq_getElem hlt,Option.getD_some]
 exact List.findIdx_getElem
theorem place_found {l:List Fd} {f:Fd} (h:foundIn l f=true):∃g,atR l (placeOf l f)=some g∧g.name=f.name∧g.val=f.val:=by
 unfold foundIn at h
 obtain ⟨h1,h2⟩:=findIdx_lt h
 have hp:placeOf l f=(fixedFds++l).findIdx (bothP f)+1:=by rw [placeOf,if_pos h]
 rw [all_len] at h1
 refine ⟨(fixedFds++l).getD ((fixedFds++l).findIdx (bothP f)) fd0,?_,?_⟩
 ·rw [atR,hp,if_pos ⟨by omega,by omega⟩,Nat.add_sub_cancel]
 ·simpa [bothP] using h2
theorem place_name {l:List Fd} {f:Fd} (h:placeOf l f≠0):∃g,atR l (placeOf l f)=some g∧g.name=f.name:=by
 by_cases hf:foundIn l f=true
 ·obtain ⟨g,h1,h2,_⟩:=place_found hf
  exact ⟨g,h1,h2⟩
 ·unfold foundIn at hf
  have hp:placeOf l f=if (fixedFds++l).any (nameP f) then (fixedFds++l).findIdx (nameP f)+1 else 0:=by rw [placeOf,if_neg hf]
  by_cases hn:(fixedFds++l).any (nameP f)=true
  ·rw [if_pos hn] at hp
   obtain ⟨h1,h2⟩:=findIdx_lt hn
   rw [all_len] at h1
   refine ⟨(fixedFds++l).getD ((fixedFds++l).findIdx (nameP f)) fd0,?_,?_⟩
   ·rw [atR,hp,if_pos ⟨by omega,by omega⟩,Nat.add_sub_cancel]
   ·simpa [nameP] using h2
  ·rw [if_neg hn] at hp
   exact absurd hp h
theorem fieldOk_never (n v:List UInt8) (a b:Bool):fieldOk ⟨n,v,a⟩=fieldOk ⟨n,v,b⟩:=rfl
theorem litR_back {l:List Fd} {f:Fd} (hf:fieldOk f=true) (hl:l.length≤50) {bits:Nat} (hb:bits=4∨bits=6) (rest:List UInt8) :
  litR l ((nameW (placeOf l f) bits f++wordW f.val)++rest) bits=some (⟨f.name,f.val,bits == 4⟩,(nameW (placeOf l f) bits f++wordW f.val).length,bits):=by
 obtain ⟨hn,hv,_⟩:=fieldOk_parts hf
 have hp:=placeOf_le l f
 have hpow:1 * 2 ^ bits+2 ^ bits≤256:=by rcases hb with rfl | rfl <;> decide
 have hname:nameW (placeOf l f) bits f=numW (placeOf l f) bits 1++(if placeOf l f=0 then wordW f.name else []):=rfl
 have hk:fieldOk ⟨f.name,f.val,bits == 4⟩=true:=by rw [fieldOk_never _ _ _ f.never]; exact hf
 rw [litR,hname,List.append_assoc,List.append_assoc,numR_numW (by omega) (by rcases hb with rfl | rfl <;> decide) hpow]
 simp only
 by_cases h0:placeOf l f=0
 ·rw [nameR,if_pos h0,List.drop_left,if_pos h0,wordR_wordW hn]
  simp only [Option.map_some]
  have hd:List.drop ((numW (placeOf l f) bits 1).length+(wordW f.name).length) (numW (placeOf l f) bits 1++(wordW f.name++(wordW f.val++rest)))=wordW f.val++rest:=by
   rw [←List.append_assoc,←List.length_append,List.drop_left]
  rw [hd,wordR_wordW hv]
  simp only [if_pos hk,List.length_append]
 ·obtain ⟨g,hg1,hg2⟩:=place_name h0
  rw [nameR,if_neg h0,if_neg h0,hg1]
  simp only [Option.map_some,hg2,List.nil_append,List.drop_left,wordR_wordW hv,if_pos hk,List.length_append,List.length_nil,Nat.add_zero]
theorem first_lit {n bits:Nat} (hb:bits=4∨bits=6) (rest:List UInt8):2 ^ bits≤((numW n bits 1++rest).getD 0 0).toNat∧((numW n bits 1++rest).getD 0 0).toNat < 2 * 2 ^ bits:=by
 have h2:2 ^ bits=16∨2 ^ bits=64:=by rcases hb with rfl | rfl <;> simp
 rw [numW]
 split
 ·have:(([by8 (1 * 2 ^ bits+n)]++rest).getD 0 0).toNat=1 * 2 ^ bits+n:=by8_toNat (by omega)
  rw [this]; omega
 ·have:((by8 (1 * 2 ^ bits+(2 ^ bits - 1)) :: numTail (n - (2 ^ bits - 1))++rest).getD 0 0).toNat=1 * 2 ^ bits+(2 ^ bits - 1):=by8_toNat (by omega)
  rw [this]; omega
def bitsW (l:List Fd) (f:Fd):Nat:=if f.never then 4 else if foundIn l f then 7 else 6
theorem fieldR_back {l:List Fd} {f:Fd} (hf:fieldOk f=true) (hl:l.length≤50) (hno:∀g ∈ l,g.never=false) (rest:List UInt8) :
  fieldR l (fieldW l f++rest)=some (f,(fieldW l f).length,bitsW l f):=by
 have hp:=placeOf_le l f
 by_cases hn:f.never=true
 ·have hw:fieldW l f=nameW (placeOf l f) 4 f++wordW f.val:=by rw [fieldW,if_pos hn]
  have hfst:=first_lit (n:=placeOf l f) (bits:=4) (.inl rfl) ((if placeOf l f=0 then wordW f.name else [])++wordW f.val++rest)
  have hc:(fieldW l f++rest)=numW (placeOf l f) 4 1++((if placeOf l f=0 then wordW f.name else [])++wordW f.val++rest):=by rw [hw,nameW]; simp [List.append_assoc]
  rw [←hc] at hfst
  have h16:(2:Nat) ^ 4=16:=rfl
  rw [fieldR,if_neg (by omega),if_neg (by omega),if_pos ⟨by omega,by omega⟩,bitsW,if_pos hn,hw,litR_back hf hl (.inl rfl)]
  congr 2
  cases f
  cases hn
  rfl
 ·have hn':f.never=false:=by simpa using hn
  by_cases hfo:foundIn l f=true
  ·have hw:fieldW l f=numW (placeOf l f) 7 1:=by rw [fieldW,if_neg hn,if_pos hfo]
   have hs:numW (placeOf l f) 7 1=[by8 (1 * 2 ^ 7+placeOf l f)]:=numW_small (by have:(2:Nat) ^ 7=128:=rfl; omega)
   have hc:((fieldW l f++rest).getD 0 0).toNat=1 * 2 ^ 7+placeOf l f:=by
    rw [hw,hs]
    exact by8_toNat (by have:(2:Nat) ^ 7=128:=rfl; omega)
   obtain ⟨g,hg1,hg2,hg3⟩:=place_found hfo
   have hgn:g.never=false:=by
    rcases List.mem_append.1 (atR_mem hg1) with h | h
    ·exact (fixed_ok g h).2
    ·exact hno g h
   have hgf:g=f:=fd_ext.1 ⟨hg2,hg3,hgn.trans hn'.symm⟩
   rw [fieldR,if_pos (by have:(2:Nat) ^ 7=128:=rfl; omega),bitsW,if_neg hn,if_pos hfo,idxR,hw,numR_numW (by omega) (by omega) (by decide)]
   simp only [hg1,Option.map_some,hgf]
  ·have hw:fieldW l f=nameW (placeOf l f) 6 f++wordW f.val:=by rw [fieldW,if_neg hn,if_neg hfo]
   have hfst:=first_lit (n:=placeOf l f) (bits:=6) (.inr rfl) ((if placeOf l f=0 then wordW f.name else [])++wordW f.val++rest)
   have hc:(fieldW l f++rest)=numW (placeOf l f) 6 1++((if placeOf l f=0 then wordW f.name else [])++wordW f.val++rest):=by rw [hw,nameW]; simp [List.append_assoc]
   rw [←hc] at hfst
   have h64:(2:Nat) ^ 6=64:=rfl
   rw [fieldR,if_neg (by omega),if_pos (by omega),bitsW,if_neg hn,if_neg hfo,hw,litR_back hf hl (.inr rfl)]
   congr 2
   cases f
   cases hn'
   rfl
theorem headR_back:∀(h:List Fd) (l:List Fd) (max:Int) (c k:Nat),(∀f ∈ h,fieldOk f=true)→l.length+h.length≤50→(∀g ∈ l,g.never=false)→c+h.length≤6→(headW l max h).2.length≤k→headR k l max (headW l max h).2 c=some ((headW l max h).1,h)
 | [],l,max,c,k,_,_,_,_,_=>by rw [headW_nil,headR_nil]
 | f :: h,l,max,c,k,hh,hl,hno,hc,hk=>by
  have hfo:=hh f (by simp)
  simp only [List.length_cons] at hl hc
  have hb:=fieldR_back hfo (by omega:l.length≤50) hno (headW (tabW l max f) max h).2
  have e2:(headW l max (f :: h)).2=fieldW l f++(headW (tabW l max f) max h).2:=rfl
  have e1:(headW l max (f :: h)).1=(headW (tabW l max f) max h).1:=rfl
  have hpos:1≤(fieldW l f).length:=by
   have h36:=fieldW_len36 (l:=l) hfo (by omega)
   have:=(fieldR_bound (l:=l) (b:=fieldW l f++[]) (by simp; omega) (fieldR_back hfo (by omega) hno [])).1
   exact this
  rw [e2,List.length_append] at hk
  obtain ⟨k,rfl⟩:∃j,k=j+1:=⟨k - 1,by omega⟩
  rw [e2,e1,headR,if_neg (fun e=>by have:=congrArg List.length e; simp at this; rw [this.1] at hpos; simp at hpos),hb]
  simp only [List.drop_left]
  rw [if_neg (by omega)]
  have htab:(if bitsW l f=6 then fitL (f :: l) max else l)=tabW l max f:=by
   unfold bitsW tabW
   split
   ·rfl
   ·split <;> rfl
  have hlen:=tabW_len l max f
  rw [htab,headR_back h (tabW l max f) max (c+1) k (fun g hg=>hh g (by simp [hg])) (by omega) (fun g hg=>?_) (by omega) (by omega)]
  ·rfl
  ·unfold tabW at hg
   split at hg
   ·exact hno g hg
   ·rename_i hn
    split at hg
    ·exact hno g hg
    ·rcases List.mem_cons.1 ((fitL_sub (f :: l) max).1 g hg) with rfl | h'
     ·simpa using hn
     ·exact hno g h'
theorem headW_len:∀(h:List Fd) (l:List Fd) (max:Int),(∀f ∈ h,fieldOk f=true)→l.length+h.length≤50→(headW l max h).2.length≤36 * h.length
 | [],l,max,_,_=>by simp [headW]
 | f :: h,l,max,hh,hl=>by
  simp only [List.length_cons] at hl
  have h1:=fieldW_len36 (l:=l) (hh f (by simp)) (by omega)
  have h2:=tabW_len l max f
  have h3:=headW_len h (tabW l max f) max (fun g hg=>hh g (by simp [hg])) (by omega)
  simp only [headW,List.length_append,List.length_cons]
  omega
theorem head_back {l h:List Fd} {max:Int} (ht:tableOk l max=true) (hk:headOk h=true):hrM l max (headW l max h).2=some ((headW l max h).1,h):=by
 obtain ⟨t1,t2,t3,t4,t5⟩:=tableOk_parts ht
 obtain ⟨k1,k2⟩:=headOk_parts hk
 have hl:=headW_len h l max k1 (by omega)
 rw [hrM,if_pos ⟨ht,by omega⟩]
 exact headR_back h l max 0 _ k1 (by omega) (fun g hg=>(t4 g hg).2) (by omega) (Nat.le_refl _)
end
section
open Go
theorem fitN_size:∀(n:Nat) (l:List Fd) (max:Int),0≤max→l.length≤n→((fdsSize (fitN l max n):Nat):Int)≤max
 | 0,l,max,hm,hl=>by
  have:l=[]:=List.length_eq_zero_iff.1 (by omega)
  subst this
  simpa [fitN,fdsSize] using hm
 | n+1,l,max,hm,hl=>by
  rw [fitN]
  split
  ·exact fitN_size n l.dropLast max hm (by simp; omega)
  ·omega
theorem tableOk_of {l:List Fd} {max:Int} (h1:∀f ∈ l,fieldOk f=true∧f.never=false) (h2:0≤max∧max≤64) (h3:((fdsSize l:Nat):Int)≤max):tableOk l max=true:=by
 simp only [tableOk,Bool.and_eq_true,List.all_eq_true,decide_eq_true_eq,Bool.not_eq_true']
 exact ⟨⟨h1,h2⟩,h3⟩
theorem tableOk_tabW {l:List Fd} {max:Int} {f:Fd} (ht:tableOk l max=true) (hf:fieldOk f=true):tableOk (tabW l max f) max=true:=by
 obtain ⟨t1,t2,t3,t4,t5⟩:=tableOk_parts ht
 unfold tabW
 split
 ·exact ht
 ·rename_i hn
  split
  ·exact ht
  ·refine tableOk_of (fun g hg=>?_) ⟨t2,t3⟩ (fitN_size _ _ _ t2 (Nat.le_refl _))
   rcases List.mem_cons.1 ((fitL_sub (f :: l) max).1 g hg) with rfl | h'
   ·exact ⟨hf,by simpa using hn⟩
   ·exact t4 g h'
theorem tableOk_headW:∀(h:List Fd) (l:List Fd) (max:Int),tableOk l max=true→(∀f ∈ h,fieldOk f=true)→tableOk (headW l max h).1 max=true
 | [],l,max,ht,_=>ht
 | f :: h,l,max,ht,hh=>tableOk_headW h (tabW l max f) max (tableOk_tabW ht (hh f (by simp))) (fun g hg=>hh g (by simp [hg]))
theorem fitL_ok {l:List Fd} {max:Int} {f:Fd} (ht:tableOk l max=true) (hf:fieldOk f=true) (hn:f.never=false):tableOk (fitL (f :: l) max) max=true:=by
 obtain ⟨t1,t2,t3,t4,t5⟩:=tableOk_parts ht
 refine tableOk_of (fun g hg=>?_) ⟨t2,t3⟩ (fitN_size _ _ _ t2 (Nat.le_refl _))
 rcases List.mem_cons.1 ((fitL_sub (f :: l) max).1 g hg) with rfl | h'
 ·exact ⟨hf,hn⟩
 ·exact t4 g h'
theorem field_tab {l:List Fd} {max:Int} {b:List UInt8} {f:Fd} {s bits:Nat} (ht:tableOk l max=true) (hb:b.length≤1000000) (h:fieldR l b=some (f,s,bits)) :
  fieldOk f=true∧tableOk (if bits=6 then fitL (f :: l) max else l) max=true:=by
 obtain ⟨t1,t2,t3,t4,t5⟩:=tableOk_parts ht
 obtain ⟨_,_,_,b4⟩:=fieldR_bound hb h
 rcases b4 with ⟨e7,hm⟩ | ⟨_,hk,hn⟩
 ·refine ⟨?_,by rw [if_neg (by omega)]; exact ht⟩
  rcases List.mem_append.1 hm with g | g
  ·exact (fixed_ok f g).1
  ·exact (t4 f g).1
 ·refine ⟨hk,?_⟩
  split
  ·rename_i h6
   subst h6
   exact fitL_ok ht hk hn
  ·exact ht
theorem headR_good:∀(k:Nat) (l:List Fd) (max:Int) (b:List UInt8) (c:Nat) (x h:List Fd),tableOk l max=true→b.length≤1000000→c≤6→headR k l max b c=some (x,h) →
  tableOk x max=true∧(∀f ∈ h,fieldOk f=true)∧c+h.length≤6
 | 0,l,max,b,c,x,h,ht,hb,hc,he=>by
  rw [headR] at he
  split at he
  ·cases he; exact ⟨ht,by simp,by simpa using hc⟩
  ·cases he
 | k+1,l,max,b,c,x,h,ht,hb,hc,he=>by
  rw [headR] at he
  split at he
  ·cases he; exact ⟨ht,by simp,by simpa using hc⟩
  ·split at he
   ·cases he
   ·rename_i f s bits hf
    split at he
    ·cases he
    ·rename_i hc6
     obtain ⟨g1,g2⟩:=field_tab ht hb hf
     cases hr:headR k (if bits=6 then fitL (f :: l) max else l) max (b.drop s) (c+1) with
     | none=>rw [hr] at he; cases he
     | some y =>
      obtain ⟨x',h'⟩:=y
      rw [hr] at he
      cases he
      obtain ⟨k1,k2,k3⟩:=headR_good k _ max _ _ _ _ g2 (by simp; omega) (by omega) hr
      refine ⟨k1,fun g hg=>?_,by simp; omega⟩
      rcases List.mem_cons.1 hg with rfl | hg
      ·exact g1
      ·exact k2 g hg
end
section
open Go
structure Fr where
 kind:Int
 last:Bool
 stream:Int
 body:List UInt8
 deriving DecidableEq
structure St where
 id:Int
 state:Int
 head:List Fd
 say:List UInt8
 begun:Bool
 said:Bool
 sent:Int
 got:List Fd
 text:List UInt8
 heard:Bool
 send:Int
 room:Int
structure En where
 ans:Bool
 out:List Fd
 outM:Int
 inn:List Fd
 innM:Int
 came:List UInt8
 strs:List St
 send:Int
 room:Int
 wait:List Fr
 bad:Bool
structure Wo where
 caller:En
 answerer:En
 up:List UInt8
 down:List UInt8
structure Ev where
 kind:Int
 a:Int
 b:Int
 path:List UInt8
 text:List UInt8
def fr0:Fr:=⟨0,false,0,[]⟩
def st0:St:=⟨0,0,[],[],false,false,0,[],[],false,0,0⟩
def en0:En:=⟨false,[],0,[],0,[],[],0,0,[],false⟩
def strmOk (n:Int):Bool:=decide (1≤n) && decide (n≤7) && decide (n.tmod 2=1)
def byteAt (b:List UInt8) (i:Nat):Nat:=(b.getD i 0).toNat
def frameOk (f:Fr):Bool :=
 if f.kind=0∨f.kind=1 then strmOk f.stream && decide (f.body.length≤200)
 else if f.kind=3 then strmOk f.stream && !f.last && decide (f.body=[])
 else if f.kind=8 then (decide (f.stream=0) || strmOk f.stream) && !f.last && decide (f.body.length=1) && decide (1≤byteAt f.body 0) && decide (byteAt f.body 0≤31)
 else false
def frW (f:Fr):List UInt8:=[by8 f.body.length,by8 f.kind.toNat,if f.last then 1 else 0,by8 f.stream.toNat]++f.body
def frR (b:List UInt8):Fr × Nat × Int :=
 if b.length < 4 then (fr0,0,0)
 else if byteAt b 0 > 200∨byteAt b 2 > 1 then (fr0,0,-1)
 else if b.length < 4+byteAt b 0 then (fr0,0,0)
 else if frameOk ⟨byteAt b 1,decide (byteAt b 2=1),byteAt b 3,(b.drop 4).take (byteAt b 0)⟩ then (⟨byteAt b 1,decide (byteAt b 2=1),byteAt b 3,(b.drop 4).take (byteAt b 0)⟩,4+byteAt b 0,1)
 else (fr0,0,-1)
def flowOk (s r:Int):Bool:=(decide (0≤s) && decide (s≤31)) && (decide (0≤r) && decide (r≤31))
def stOk (s:St):Bool:=strmOk s.id && (decide (1≤s.state) && decide (s.state≤3)) && headOk s.head && headOk s.got && wordOk s.say && wordOk s.text && (decide (0≤s.sent) && decide (s.sent≤s.say.length)) && flowOk s.send s.room
def okAt (ans:Bool) (l:List St) (i:Nat):Bool:=stOk (l.getD i st0) && (decide (i=0) || decide ((l.getD (i - 1) st0).id < (l.getD i st0).id)) && (ans || decide ((l.getD i st0).id=2 * i+1))
def stsOk (ans:Bool) (l:List St):Bool:=(List.range l.length).all (okAt ans l)
def endOk (e:En):Bool:=stsOk e.ans e.strs && e.wait.all frameOk && tableOk e.out e.outM && tableOk e.inn e.innM && flowOk e.send e.room && decide (e.came.length≤600) && decide (e.wait.length≤60)
def newEn (ans:Bool):En:=⟨ans,[],64,[],64,[],[],16,16,[],false⟩
def newSt (id:Int):St:=⟨id,1,[],[],false,false,0,[],[],false,8,8⟩
def decM (n:Nat):List UInt8:=if h:n < 10 then [by8 (48+n)] else decM (n / 10)++[by8 (48+n % 10)]
 termination_by n
 decreasing_by omega
def sPath:List UInt8:=[58,112,97,116,104]
def sStatus:List UInt8:=[58,115,116,97,116,117,115]
def sKind:List UInt8:=[107,105,110,100]
def sText:List UInt8:=[116,101,120,116]
def sSize:List UInt8:=[115,105,122,101]
def sEcho:List UInt8:=[47,101,99,104,111]
def sUp:List UInt8:=[47,117,112]
def sLen:List UInt8:=[47,108,101,110]
def callHead (path text:List UInt8):List Fd:=[⟨sPath,path,false⟩,⟨sKind,sText,false⟩,⟨sSize,decM text.length,false⟩]
def callM (e:En) (path text:List UInt8):En × Int × Bool :=
 if e.ans=true∨2 * (e.strs.length:Int)+1 > 7∨headOk (callHead path text)=false∨wordOk text=false then (e,0,false)
 else ({ e with strs:=e.strs++[{ newSt (2 * e.strs.length+1) with head:=callHead path text,say:=text }] },2 * e.strs.length+1,true)
def atM (l:List St) (id:Int):Option Nat:=l.findIdx? (fun s=>decide (s.id=id))
def setSt (e:En) (k:Nat) (s:St):En:={ e with strs:=e.strs.set k s }
def stAt (e:En) (k:Nat):St:=e.strs.getD k st0
def leaveM (e:En) (id:Int):En × Bool :=
 match atM e.strs id with
 | none=>(e,false)
 | some k=>if e.ans=true∨(stAt e k).state≠1 then (e,false) else
   (setSt { e with wait:=if (stAt e k).begun then e.wait++[⟨3,false,id,[]⟩] else e.wait } k { stAt e k with state:=3 },true)
def mayM (e:En) (s:St):Int:=min ((s.say.length:Int) - s.sent) (min s.send e.send)
def beginM (e:En) (s:St):En × St × List UInt8 :=
 if s.begun then (e,s,[]) else
  ({ e with out:=(headW e.out e.outM s.head).1 },{ s with begun:=true,said:=decide (s.say=[]) },frW ⟨1,decide (s.say=[]),s.id,(headW e.out e.outM s.head).2⟩)
def pieceM (e:En) (s:St):En × St × List UInt8 :=
 if s.said=false∧0 < mayM e s then
  ({ e with send:=e.send - mayM e s },{ s with send:=s.send - mayM e s,said:=decide (s.sent+mayM e s=s.say.length),sent:=s.sent+mayM e s },
   frW ⟨0,decide (s.sent+mayM e s=s.say.length),s.id,(s.say.drop s.sent.toNat).take (mayM e s).toNat⟩)
 else (e,s,[])
def sayM (e:En) (k:Nat):En × List UInt8 :=
 let s:=stAt e k
 if s.state≠1∨s.head=[]∨s.said=true then (e,[]) else
  let (e1,s1,o1):=beginM e s
  let (e2,s2,o2):=pieceM e1 s1
  (setSt e2 k { s2 with state:=if e.ans && s2.said then 2 else s2.state },o1++o2)
def roomM (e:En) (f:Fr):En :=
 if f.kind≠8 then e
 else if f.stream=0 then { e with room:=min (e.room+byteAt f.body 0) 31 }
 else match atM e.strs f.stream with
  | none=>e
  | some k=>setSt e k { stAt e k with room:=min ((stAt e k).room+byteAt f.body 0) 31 }
def waitM:En→List Fr→En × List UInt8
 | e,[]=>(e,[])
 | e,f :: l=>let (x,o):=waitM (roomM e f) l; (x,frW f++o)
def saysM:Nat→Nat→En→En × List UInt8
 | 0,_,e=>(e,[])
 | n+1,k,e=>let (e1,o1):=sayM e k; let (e2,o2):=saysM n (k+1) e1; (e2,o1++o2)
def writeM (e:En):En × List UInt8 :=
 let (e1,o1):=waitM e e.wait
 let (e2,o2):=saysM e.strs.length 0 { e1 with wait:=[] }
 (e2,o1++o2)
def upM (t:List UInt8):List UInt8:=t.map fun b=>if 97≤b.toNat∧b.toNat < 122 then by8 (b.toNat+1) else b
def answerM (path text:List UInt8):List UInt8 × List UInt8 :=
 if path=sEcho then ([48],text) else if path=sUp then ([48],upM text) else if path=sLen then ([48],decM text.length) else ([49,50],[])
def getM (h:List Fd) (name:List UInt8):List UInt8 × Bool:=match h.find? (fun f=>decide (f.name=name)) with
 | some f=>(f.val,true)
 | none=>([],false)
def askM (s:St):St :=
 let a:=answerM (getM s.got sPath).1 s.text
 { s with head:=[⟨sStatus,a.1,false⟩,⟨sKind,sText,false⟩],say:=a.2,begun:=false,said:=false,sent:=0 }
def doneM (ans:Bool) (s:St):St :=
 if s.state≠1 then { s with heard:=true } else if ans then askM { s with heard:=true } else { s with heard:=true,state:=2 }
def growM (e:En) (id:Int):En :=
 if atM e.strs id=none∧e.ans=true∧(e.strs=[]∨(e.strs.getD (e.strs.length - 1) st0).id < id) then { e with strs:=e.strs++[newSt id] } else e
def badM (e:En):En:={ e with bad:=true }
def headFM (e:En) (f:Fr):En :=
 let g:=growM e f.stream
 match headR f.body.length e.inn e.innM f.body 0,atM g.strs f.stream with
 | some (t,h),some k=>if (stAt g k).heard=true∨(stAt g k).got≠[]∨h=[] then badM g else
   setSt { g with inn:=t } k (if f.last then doneM e.ans { stAt g k with got:=h } else { stAt g k with got:=h })
 | _,_=>badM g
def dataM (e:En) (f:Fr):En :=
 match atM e.strs f.stream with
 | none=>badM e
 | some k =>
  let s:=stAt e k
  if s.heard=true∨s.got=[]∨(f.body.length:Int) > e.room∨(f.body.length:Int) > s.room∨wordOk (s.text++f.body)=false then badM e else
   let s1:={ s with text:=s.text++f.body,room:=s.room - f.body.length }
   setSt { e with room:=e.room - f.body.length,wait:=if f.body=[] then e.wait else e.wait++[⟨8,false,0,[by8 f.body.length]⟩,⟨8,false,s.id,[by8 f.body.length]⟩] } k (if f.last then doneM e.ans s1 else s1)
def moreM (e:En) (f:Fr):En :=
 if f.stream=0 then { e with send:=min (e.send+byteAt f.body 0) 31,bad:=e.bad || decide (e.send+byteAt f.body 0 > 31) }
 else match atM e.strs f.stream with
  | none=>badM e
  | some k=>setSt { e with bad:=e.bad || decide ((stAt e k).send+byteAt f.body 0 > 31) } k { stAt e k with send:=min ((stAt e k).send+byteAt f.body 0) 31 }
def frameM (e:En) (f:Fr):En :=
 if f.kind=1 then headFM e f else if f.kind=0 then dataM e f else if f.kind=8 then moreM e f
 else match atM e.strs f.stream with
  | none=>badM e
  | some k=>if e.ans=false then badM e else setSt e k { stAt e k with state:=3 }
def hearsM:Nat→En→En
 | 0,e=>e
 | n+1,e=>if e.bad then e else
  let r:=frR e.came
  if r.2.2 < 0 then badM e else if r.2.2=0 then e else hearsM n (frameM { e with came:=e.came.drop r.2.1 } r.1)
def hearM (e:En) (b:List UInt8):En:=hearsM (e.came.length+b.length+1) { e with came:=e.came++b }
def newWo:Wo:=⟨newEn false,newEn true,[],[]⟩
def woOk (w:Wo):Bool:=endOk w.caller && endOk w.answerer && !w.caller.ans && w.answerer.ans && decide (w.up.length≤800) && decide (w.down.length≤800)
def sayWM (w:Wo) (side:Int):Wo :=
 if side=0 then (if w.caller.bad=false∧w.up.length+(writeM w.caller).2.length≤800 then { w with caller:=(writeM w.caller).1,up:=w.up++(writeM w.caller).2 } else w)
 else if side=1 then (if w.answerer.bad=false∧w.down.length+(writeM w.answerer).2.length≤800 then { w with answerer:=(writeM w.answerer).1,down:=w.down++(writeM w.answerer).2 } else w)
 else w
def hearWM (e:En) (b:List UInt8):En:=if e.bad=true∨e.came.length+b.length > 300∨e.wait.length > 40 then e else hearM e b
def passM (w:Wo) (way n:Int):Wo :=
 if 0≤n∧n≤90 then
  (if way=0 then { w with answerer:=hearWM w.answerer (w.up.take n.toNat),up:=w.up.drop n.toNat }
   else if way=1 then { w with caller:=hearWM w.caller (w.down.take n.toNat),down:=w.down.drop n.toNat } else w)
 else w
def doM (w:Wo) (v:Ev):Wo :=
 if v.kind=1 then { w with caller:=(callM w.caller v.path v.text).1 }
 else if v.kind=2 then { w with caller:=(leaveM w.caller v.a).1 }
 else if v.kind=3 then sayWM w v.a
 else if v.kind=4 then passM w v.a v.b else w
def playM (l:List Ev):Wo:=l.foldl doM newWo
def frmC (f:Fr):List V:=[.int .i64 f.kind,.bool f.last,.int .i64 f.stream,.str f.body]
def strC (s:St):List V:=[.int .i64 s.id,.int .i64 s.state,.rows none (s.head.map fV),.str s.say,.bool s.begun,.bool s.said,.int .i64 s.sent,.rows none (s.got.map fV),.str s.text,.bool s.heard,.int .i64 s.send,.int .i64 s.room]
def frmsC (l:List Fr):List V:=l.flatMap frmC
def strsC (l:List St):List V:=l.flatMap strC
end
section
open Go
section
variable {α:Type} {f:α→List V} {n:Nat}
theorem fl_len (hf:∀a,(f a).length=n) (l:List α):(l.flatMap f).length=l.length * n:=by
 induction l with
 | nil=>simp
 | cons a l ih=>rw [List.flatMap_cons,List.length_append,ih,hf,List.length_cons,Nat.add_mul]; omega
theorem fl_at (hf:∀a,(f a).length=n) {l:List α} {i:Nat} (d:α) (h:i < l.length):((l.flatMap f).drop (i * n)).take n=f (l.getD i d):=by
 induction l generalizing i with
 | nil=>simp at h
 | cons a l ih =>
  cases i with
  | zero =>
   rw [Nat.zero_mul,List.drop_zero,List.flatMap_cons,←hf a,List.take_left]
   rfl
  | succ i =>
   rw [List.flatMap_cons,Nat.add_mul,Nat.one_mul,Nat.add_comm,←List.drop_drop]
   conv=>lhs; rw [←hf a]
   rw [List.drop_left,hf a]
   exact ih (by simpa using h)
theorem splice_front:∀(xs ys zs:List V),ys.length=xs.length→splice (ys++zs) 0 xs=xs++zs
 | [],ys,zs,h=>by
  have:ys=[]:=List.length_eq_zero_iff.1 h
  subst this
  cases zs <;> simp [splice]
 | x :: xs,[],zs,h=>by simp at h
 | x :: xs,y :: ys,zs,h=>by
  rw [List.cons_append,splice,splice_front xs ys zs (by simpa using h),List.cons_append]
theorem splice_skip:∀(us bs:List V) (k:Nat) (xs:List V),splice (us++bs) (us.length+k) xs=us++splice bs k xs
 | [],bs,k,xs=>by simp
 | a :: us,bs,k,xs=>by
  rw [List.cons_append,List.length_cons,show us.length+1+k=us.length+k+1 by omega,splice,splice_skip us bs k xs,List.cons_append]
theorem fl_set (hf:∀a,(f a).length=n) {l:List α} {i:Nat} (a:α) (h:i < l.length):splice (l.flatMap f) (i * n) (f a)=(l.set i a).flatMap f:=by
 induction l generalizing i with
 | nil=>simp at h
 | cons b l ih =>
  cases i with
  | zero =>
   rw [Nat.zero_mul,List.set_cons_zero,List.flatMap_cons,List.flatMap_cons]
   exact splice_front _ _ _ (by rw [hf,hf])
  | succ i =>
   rw [List.set_cons_succ,List.flatMap_cons,List.flatMap_cons,←ih (i:=i) (by simpa using h),Nat.add_mul,Nat.one_mul,Nat.add_comm,←hf b]
   exact splice_skip _ _ _ _
end
theorem strC_len (s:St):(strC s).length=12:=rfl
theorem frmC_len (f:Fr):(frmC f).length=4:=rfl
theorem strsC_len (l:List St):(strsC l).length=l.length * 12:=fl_len strC_len l
theorem frmsC_len (l:List Fr):(frmsC l).length=l.length * 4:=fl_len frmC_len l
theorem strsC_at {l:List St} {i:Nat} (h:i < l.length):((strsC l).drop (i * 12)).take 12=strC (l.getD i st0):=fl_at strC_len st0 h
theorem frmsC_at {l:List Fr} {i:Nat} (h:i < l.length):((frmsC l).drop (i * 4)).take 4=frmC (l.getD i fr0):=fl_at frmC_len fr0 h
theorem strsC_set {l:List St} {i:Nat} (s:St) (h:i < l.length):splice (strsC l) (i * 12) (strC s)=strsC (l.set i s):=fl_set strC_len s h
theorem strsC_app (l k:List St):strsC (l++k)=strsC l++strsC k:=by simp [strsC]
theorem frmsC_app (l k:List Fr):frmsC (l++k)=frmsC l++frmsC k:=by simp [frmsC]
def Upd (bs:List Nat) (S S':List Blk):Prop:=S.length≤S'.length∧∀j,j < S.length→j ∉ bs→S'[j]?=S[j]?
theorem Upd.refl (bs:List Nat) (S:List Blk):Upd bs S S:=⟨Nat.le_refl _,fun _ _ _=>rfl⟩
theorem Upd.mono {bs cs:List Nat} {S S':List Blk} (h:Upd bs S S') (hs:∀j,j < S.length→j ∈ bs→j ∈ cs):Upd cs S S':=⟨h.1,fun j hj hn=>h.2 j hj (fun hm=>hn (hs j hj hm))⟩
theorem Upd.trans {bs:List Nat} {S S1 S2:List Blk} (h:Upd bs S S1) (k:Upd bs S1 S2):Upd bs S S2:=⟨Nat.le_trans h.1 k.1,fun j hj hn=>(k.2 j (Nat.lt_of_lt_of_le hj h.1) hn).trans (h.2 j hj hn)⟩
theorem Upd.then_ {bs cs:List Nat} {S S1 S2:List Blk} (h:Upd bs S S1) (k:Upd cs S1 S2) (hs:∀j,j < S.length→j ∈ cs→j ∈ bs):Upd bs S S2 :=
 ⟨Nat.le_trans h.1 k.1,fun j hj hn=>(k.2 j (Nat.lt_of_lt_of_le hj h.1) (fun hm=>hn (hs j hj hm))).trans (h.2 j hj hn)⟩
theorem Upd.app {bs:List Nat} {S S1:List Blk} (h:Upd bs S S1) (X:List Blk):Upd bs S (S1++X):=by
 refine ⟨by rw [List.length_append]; have:=h.1; omega,fun j hj hn=>?_⟩
 rw [List.getElem?_append_left (Nat.lt_of_lt_of_le hj h.1)]
 exact h.2 j hj hn
theorem Upd.set {bs:List Nat} {S S1:List Blk} (h:Upd bs S S1) {i:Nat} (B:Blk) (hi:S.length≤i∨i ∈ bs):Upd bs S (S1.set i B):=by
 refine ⟨by rw [List.length_set]; exact h.1,fun j hj hn=>?_⟩
 have hne:i≠j:=by
  rintro rfl
  rcases hi with hi | hi
  ·omega
  ·exact hn hi
 rw [List.getElem?_set_ne hne]
 exact h.2 j hj hn
theorem Upd.get {bs:List Nat} {S S1:List Blk} (h:Upd bs S S1) {j:Nat} {B:Blk} (hS:S[j]?=some B) (hn:j ∉ bs):S1[j]?=some B:=by
 have hlt:j < S.length:=by
  rcases Nat.lt_or_ge j S.length with g | g
  ·exact g
  ·rw [List.getElem?_eq_none g] at hS; cases hS
 rw [h.2 j hlt hn]
 exact hS
theorem lt_of_some {S:List Blk} {j:Nat} {B:Blk} (h:S[j]?=some B):j < S.length:=by
 rcases Nat.lt_or_ge j S.length with g | g
 ·exact g
 ·rw [List.getElem?_eq_none g] at h; cases h
end
section
open Go
def frV (f:Fr):V:=.agg (frmC f)
def stV (s:St):V:=.agg (strC s)
def enC (v w:V) (e:En):List V:=[.bool e.ans,.rows none (e.out.map fV),.int .i64 e.outM,.rows none (e.inn.map fV),.int .i64 e.innM,.str e.came,v,.int .i64 e.send,.int .i64 e.room,w,.bool e.bad]
def enV (v w:V) (e:En):V:=.agg (enC v w e)
@[push_cast] theorem frmC_eq (f:Fr):frmC f=[.int .i64 f.kind,.bool f.last,.int .i64 f.stream,.str f.body]:=rfl
@[push_cast] theorem frV_eq (f:Fr):frV f=.agg [.int .i64 f.kind,.bool f.last,.int .i64 f.stream,.str f.body]:=rfl
@[push_cast] theorem strC_eq (s:St):strC s=[.int .i64 s.id,.int .i64 s.state,.rows none (s.head.map fV),.str s.say,.bool s.begun,.bool s.said,.int .i64 s.sent,.rows none (s.got.map fV),.str s.text,.bool s.heard,.int .i64 s.send,.int .i64 s.room]:=rfl
@[push_cast] theorem stV_eq (s:St):stV s=.agg [.int .i64 s.id,.int .i64 s.state,.rows none (s.head.map fV),.str s.say,.bool s.begun,.bool s.said,.int .i64 s.sent,.rows none (s.got.map fV),.str s.text,.bool s.heard,.int .i64 s.send,.int .i64 s.room]:=rfl
@[push_cast] theorem enC_eq (v w:V) (e:En):enC v w e=[.bool e.ans,.rows none (e.out.map fV),.int .i64 e.outM,.rows none (e.inn.map fV),.int .i64 e.innM,.str e.came,v,.int .i64 e.send,.int .i64 e.room,w,.bool e.bad]:=rfl
@[push_cast] theorem enV_eq (v w:V) (e:En):enV v w e=.agg [.bool e.ans,.rows none (e.out.map fV),.int .i64 e.outM,.rows none (e.inn.map fV),.int .i64 e.innM,.str e.came,v,.int .i64 e.send,.int .i64 e.room,w,.bool e.bad]:=rfl
def EnAt (S:List Blk) (b c:Nat) (e:En):Prop:=S[b]?=some (.cells 12 (strsC e.strs))∧S[c]?=some (.cells 4 (frmsC e.wait))
theorem EnAt.ne {S:List Blk} {b c:Nat} {e:En} (h:EnAt S b c e):b≠c:=by
 rintro rfl
 have:=h.1.symm.trans h.2
 simp at this
theorem EnAt.upd {S S':List Blk} {bs:List Nat} {b c:Nat} {e:En} (h:EnAt S b c e) (hu:Upd bs S S') (hb:b ∉ bs) (hc:c ∉ bs):EnAt S' b c e:=⟨hu.get h.1 hb,hu.get h.2 hc⟩
end
end Go.Proofs.YtaamlddnpamomaaGreatDoor
