/- A part of the proof: contracts of functions, or plain facts on which these lean. -/
import Derived.Test.YtodjmflbakfmjaaGreatDoorMa39
namespace Go.Proofs.YtodjmflbakfmjaaGreatDoor
open Go
set_option linter.unusedVariables false
set_option linter.unusedSimpArgs false
set_option maxRecDepth 100000
set_option maxHeartbeats 16000000

section
theorem byteAt_app {b q:List UInt8} {i:Nat} (h:i < b.length):byteAt (b++q) i=byteAt b i:=by
 unfold byteAt
 rw [List.getD_eq_getElem?_getD,List.getD_eq_getElem?_getD,List.getElem?_append_left h]
theorem frR_app {b q:List UInt8} (h:(frR b).2.2≠0):frR (b++q)=frR b:=by
 unfold frR at h ⊢
 by_cases h4:b.length < 4
 ·rw [if_pos h4] at h; exact absurd rfl h
 ·rw [if_neg h4] at h
  have h4':¬(b++q).length < 4:=by rw [List.length_append]; omega
  rw [if_neg h4,if_neg h4',byteAt_app (by omega),byteAt_app (by omega),byteAt_app (by omega),byteAt_app (by omega)]
  by_cases h2:byteAt b 0 > 200∨byteAt b 2 > 1
  ·rw [if_pos h2,if_pos h2]
  ·rw [if_neg h2] at h
   rw [if_neg h2,if_neg h2]
   by_cases h3:b.length < 4+byteAt b 0
   ·rw [if_pos h3] at h; exact absurd rfl h
   ·rw [if_neg h3,if_neg (show ¬(b++q).length < 4+byteAt b 0 by rw [List.length_append]; omega)]
    have:((b++q).drop 4).take (byteAt b 0)=(b.drop 4).take (byteAt b 0):=by
     rw [List.drop_append_of_le_length (by omega),List.take_append_of_le_length (by rw [List.length_drop]; omega)]
    rw [this]
theorem frameM_with (e:En) (f:Fr) (x:List UInt8):frameM { e with came:=x } f={ frameM e f with came:=x }:=by
 have hg:growM { e with came:=x } f.stream={ growM e f.stream with came:=x }:=by unfold growM; simp only; split <;> rfl
 unfold frameM
 split
 ·unfold headFM
  rw [hg]
  simp only
  split
  ·rename_i t hd k hr hk
   have e1:stAt { growM e f.stream with came:=x } k=stAt (growM e f.stream) k:=rfl
   rw [e1]
   split
   ·rfl
   ·rfl
  ·rfl
 ·split
  ·unfold dataM
   simp only
   split
   ·rfl
   ·rename_i k hk
    have e1:stAt { e with came:=x } k=stAt e k:=rfl
    simp only [e1]
    split <;> rfl
  ·split
   ·unfold moreM
    simp only
    split
    ·rfl
    ·split <;> rfl
   ·simp only
    split
    ·rfl
    ·rename_i k hk
     split <;> rfl
theorem hearsM_even:∀(n m:Nat) (e:En),e.came.length < n→e.came.length < m→(∀e f,(frameM e f).came=e.came)→hearsM n e=hearsM m e
 | 0,m,e,h1,h2,hf=>by omega
 | n+1,0,e,h1,h2,hf=>by omega
 | n+1,m+1,e,h1,h2,hf=>by
  rw [hearsM,hearsM]
  split
  ·rfl
  ·simp only
   split
   ·rfl
   ·split
    ·rfl
    ·rename_i g1 g2
     obtain ⟨r1,r2,r3,r4⟩:=frR_some (b:=e.came) (by omega)
     have hl:(frameM { e with came:=e.came.drop (frR e.came).2.1 } (frR e.came).1).came.length=e.came.length - (frR e.came).2.1:=by rw [hf]; simp
     exact hearsM_even n m _ (by omega) (by omega) hf
theorem hearsM_app:∀(n:Nat) (e:En) (q:List UInt8),e.came.length < n→∀m,(e.came++q).length < m →
  ((hearsM n e).bad=true→(hearsM m { e with came:=e.came++q }).bad=true) ∧
  ((hearsM n e).bad=false→∀m',((hearsM n e).came++q).length < m'→hearsM m { e with came:=e.came++q }=hearsM m' { hearsM n e with came:=(hearsM n e).came++q })
 | 0,e,q,h,_,_=>absurd h (Nat.not_lt_zero _)
 | n+1,e,q,h,0,hm=>absurd hm (Nat.not_lt_zero _)
 | n+1,e,q,h,m+1,hm=>by
  by_cases hb:e.bad=true
  ·have e1:hearsM (n+1) e=e:=by unfold hearsM; rw [if_pos hb]
   have e2:hearsM (m+1) { e with came:=e.came++q }={ e with came:=e.came++q }:=by unfold hearsM; rw [if_pos hb]
   rw [e1,e2]
   exact ⟨fun _=>hb,fun z=>by rw [hb] at z; cases z⟩
  ·by_cases h0:(frR e.came).2.2=0
   ·have e1:hearsM (n+1) e=e:=by
     unfold hearsM; rw [if_neg hb]; simp only; rw [if_neg (by omega),if_pos h0]
    rw [e1]
    exact ⟨fun z=>absurd z hb,fun _ m' hm'=>hearsM_even (m+1) m' _ hm hm' frameM_came⟩
   ·have ha:=frR_app (q:=q) h0
    by_cases hlt:(frR e.came).2.2 < 0
    ·have e1:hearsM (n+1) e=badM e:=by
      unfold hearsM; rw [if_neg hb]; simp only; rw [if_pos hlt]
     have e2:hearsM (m+1) { e with came:=e.came++q }=badM { e with came:=e.came++q }:=by
      unfold hearsM; rw [if_neg hb]; simp only; rw [ha,if_pos hlt]
     rw [e1,e2]
     exact ⟨fun _=>rfl,fun z=>by cases z⟩
    ·obtain ⟨g1,g2,g3,g4⟩:=frR_some (b:=e.came) (by omega)
     have e1:hearsM (n+1) e=hearsM n (frameM { e with came:=e.came.drop (frR e.came).2.1 } (frR e.came).1):=by
      conv=>lhs; unfold hearsM
      rw [if_neg hb]; simp only; rw [if_neg hlt,if_neg h0]
     have e2:hearsM (m+1) { e with came:=e.came++q }=hearsM m (frameM { e with came:=e.came.drop (frR e.came).2.1++q } (frR e.came).1):=by
      conv=>lhs; unfold hearsM
      rw [if_neg hb]; simp only; rw [ha,if_neg hlt,if_neg h0,List.drop_append_of_le_length g3]
     rw [e1,e2]
     have e3:frameM { e with came:=e.came.drop (frR e.came).2.1++q } (frR e.came).1={ frameM { e with came:=e.came.drop (frR e.came).2.1 } (frR e.came).1 with came:=(frameM { e with came:=e.came.drop (frR e.came).2.1 } (frR e.came).1).came++q }:=by
      rw [frameM_came]
      rw [frameM_with e (frR e.came).1 (e.came.drop (frR e.came).2.1++q),frameM_with e (frR e.came).1 (e.came.drop (frR e.came).2.1)]
     rw [e3]
     refine hearsM_app n _ q ?_ m ?_
     ·rw [frameM_came]; simp only [List.length_drop]; omega
     ·rw [frameM_came]; simp only [List.length_append,List.length_drop] at hm ⊢; omega
theorem hearM_parts (e:En) (b1 b2:List UInt8) :
  ((hearM e b1).bad=true→(hearM e (b1++b2)).bad=true)∧((hearM e b1).bad=false→hearM (hearM e b1) b2=hearM e (b1++b2)):=by
 have h:=hearsM_app (e.came.length+b1.length+1) { e with came:=e.came++b1 } b2 (by simp) (e.came.length+(b1++b2).length+1) (by simp only [List.length_append]; omega)
 have e1:hearM e (b1++b2)=hearsM (e.came.length+(b1++b2).length+1) { e with came:=(e.came++b1)++b2 }:=by unfold hearM; rw [List.append_assoc]
 rw [e1]
 refine ⟨h.1,fun z=>?_⟩
 exact (h.2 z ((hearM e b1).came.length+b2.length+1) (by show ((hearM e b1).came++b2).length < _; simp)).symm
theorem hearsM_short:∀(n:Nat) (e:En),(hearsM n e).came.length≤e.came.length
 | 0,e=>Nat.le_refl _
 | n+1,e=>by
  unfold hearsM
  split
  ·exact Nat.le_refl _
  ·simp only
   split
   ·exact Nat.le_refl _
   ·split
    ·exact Nat.le_refl _
    ·have h1:=hearsM_short n (frameM { e with came:=e.came.drop (frR e.came).2.1 } (frR e.came).1)
     rw [frameM_came] at h1
     simp only [List.length_drop] at h1
     omega
theorem hearM_short (e:En) (b:List UInt8):(hearM e b).came.length≤e.came.length+b.length:=by
 have:=hearsM_short (e.came.length+b.length+1) { e with came:=e.came++b }
 simp only [List.length_append] at this
 exact this
theorem pass_parts {w:Wo} (h:WoAll w) (hb:w.answerer.bad=false) (hw:w.answerer.wait.length≤4) (hc:w.answerer.came.length≤200) {n:Nat} (hn:n≤90) :
  (doM w ⟨4,0,90,[],[]⟩).answerer.bad=true∨doM (doM w ⟨4,0,n,[],[]⟩) ⟨4,0,((90:Int) - n),[],[]⟩=doM w ⟨4,0,90,[],[]⟩:=by
 have e1:doM w ⟨4,0,90,[],[]⟩={ w with answerer:=hearM w.answerer (w.up.take 90),up:=w.up.drop 90 }:=by
  show passM w 0 90=_
  unfold passM
  rw [if_pos (by decide),if_pos rfl]
  have:hearWM w.answerer (w.up.take (90:Int).toNat)=hearM w.answerer (w.up.take 90):=by
   unfold hearWM
   rw [if_neg]
   ·rfl
   ·rintro (z | z | z)
    ·rw [hb] at z; cases z
    ·rw [List.length_take] at z; simp at z; omega
    ·omega
  rw [this]; rfl
 have e2:doM w ⟨4,0,n,[],[]⟩={ w with answerer:=hearM w.answerer (w.up.take n),up:=w.up.drop n }:=by
  show passM w 0 n=_
  unfold passM
  rw [if_pos ⟨by omega,by omega⟩,if_pos rfl]
  have:hearWM w.answerer (w.up.take (n:Int).toNat)=hearM w.answerer (w.up.take n):=by
   unfold hearWM
   rw [if_neg]
   ·rfl
   ·rintro (z | z | z)
    ·rw [hb] at z; cases z
    ·rw [List.length_take] at z; simp at z; omega
    ·omega
  rw [this]; rfl
 have h1:=h.step ⟨4,0,n,[],[]⟩
 rw [e2] at h1
 have hcat:w.up.take 90=w.up.take n++(w.up.drop n).take (90 - n):=by
  rw [←List.take_add]; congr 1; omega
 obtain ⟨p1,p2⟩:=hearM_parts w.answerer (w.up.take n) ((w.up.drop n).take (90 - n))
 rw [←hcat] at p1 p2
 cases hx:(hearM w.answerer (w.up.take n)).bad with
 | true=>left; rw [e1]; exact p1 hx
 | false =>
  right
  rw [e2,e1]
  show passM _ 0 ((90:Int) - n)=_
  unfold passM
  rw [if_pos ⟨by omega,by omega⟩,if_pos rfl]
  have hs:=hearM_short w.answerer (w.up.take n)
  have hlt:(w.up.take n).length≤n:=by rw [List.length_take]; omega
  have ht:((90:Int) - n).toNat=90 - n:=by omega
  have:hearWM (hearM w.answerer (w.up.take n)) ((w.up.drop n).take ((90:Int) - n).toNat)=hearM w.answerer (w.up.take 90):=by
   unfold hearWM
   rw [if_neg,ht]
   ·exact p2 hx
   ·rintro (z | z | z)
    ·rw [hx] at z; cases z
    ·have:((w.up.drop n).take ((90:Int) - n).toNat).length≤90 - n:=by rw [ht,List.length_take]; omega
     omega
    ·have:=h1.1.answerer.len; simp only at this; omega
  simp only
  rw [this,ht,List.drop_drop,show n+(90 - n)=90 by omega]
end
end Go.Proofs.YtodjmflbakfmjaaGreatDoor
