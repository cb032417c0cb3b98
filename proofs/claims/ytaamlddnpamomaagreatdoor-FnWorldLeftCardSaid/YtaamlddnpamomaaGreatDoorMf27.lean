/- A part of the proof: contracts of functions, or plain facts on which these lean. -/
import Derived.Test.YtaamlddnpamomaaGreatDoorMf26
namespace Go.Proofs.YtaamlddnpamomaaGreatDoor
open Go
set_option linter.unusedVariables false
set_option linter.unusedSimpArgs false
set_option maxRecDepth 100000
set_option maxHeartbeats 16000000

section
open Go
theorem frmsC_in {S:List Blk} {c:Nat} {l:List Fr} (hc:S[c]?=some (.cells 4 (frmsC l))) (X:List Blk):(S++X)[c]?=some (.cells 4 (frmsC l)):=by
 rw [List.getElem?_append_left (lt_of_some hc)]; exact hc
theorem IndexFuncF_ok (l:List Fr) (fid:Nat) (caps:List V) (p:Fr→Bool) (hlen:l.length≤2000000) {c:Nat} (S:List Blk) (hc:S[c]?=some (.cells 4 (frmsC l))) (hp:∀g ∈ l,VCall Tryz.prog fid (eraseArgs (frV g :: caps)) S fun r S'=>r=.bool (p g)∧S'=S) :
  VCall Tryz.prog 112 [.heap c l.length,.fn fid caps] S fun r S'=>r=.int .i64 (if l.any p then (l.findIdx p:Int) else -1)∧S'=S:=by
 have hlw:=frmsC_len l
 refine VCall.en hDe Tryz.func112 Tryz.ntmps112 Tryz.results112 ?_
 simp -implicitDefEqProofs (maxSteps:=1000000) (disch:=omega) only [push_cast,simprocAttr,↓gd]
 refine wpV_loop (fun m t S'=>∃i:Nat,m=l.length - i∧i≤l.length∧(l.take i).any p=false∧t 0=.heap c l.length∧t 1=.fn fid caps∧t 7=.int .i64 l.length∧t 8=.int .i64 i∧S'=S) l.length ⟨0,by omega,by omega,by simp,rfl,rfl,rfl,rfl,rfl⟩ ?_
 rintro m t S' ⟨i,rfl,hi,hno,h0,h1,h7,h8,rfl⟩
 refine wpV_of0 hDe ?_
 simp -implicitDefEqProofs (maxSteps:=1000000) (disch:=omega) only [push_cast,simprocAttr,h0,h1,h7,h8,↓gd]
 refine ⟨fun h=>?_,fun h=>?_⟩
 ·have hil:i < l.length:=by omega
  have hat:=frmsC_at hil
  have hpf:=hp _ (getD_memF hil)
  have htk:=take_fr hil
  have hfi:p (l.getD i fr0)=true→l.findIdx p=i:=fun q=>by
   rw [getD_lt fr0 hil] at q
   rw [List.findIdx_eq hil]
   refine ⟨q,fun j hj=>?_⟩
   have:=List.any_eq_false.1 hno l[j] (by rw [List.mem_take_iff_getElem]; exact ⟨j,by omega,rfl⟩)
   simpa using this
  have han:p (l.getD i fr0)=true→l.any p=true:=fun q=>List.any_eq_true.2 ⟨_,getD_memF hil,q⟩
  generalize l.getD i fr0=f at *
  simp -implicitDefEqProofs (maxSteps:=1000000) (disch:=omega) only [push_cast,simprocAttr,h0,h1,h7,h8,hc,hat,↓gd]
  repeat refine And.intro (by omega) ?_
  refine (hpf.as rfl).to ?_
  cases hpv:p f
  ·simp -implicitDefEqProofs (maxSteps:=1000000) (disch:=omega) only [push_cast,simprocAttr,h0,h1,h7,h8,↓gd]
   refine ⟨l.length - (i+1),by omega,i+1,rfl,by omega,?_,by simp⟩
   rw [htk,List.any_append,hno]; simp [hpv]
  ·simp -implicitDefEqProofs (maxSteps:=1000000) (disch:=omega) only [push_cast,simprocAttr,h0,h1,h7,h8,↓gd]
   exact fin0 (by rw [han hpv,hfi hpv]; rfl)
 ·have:i=l.length:=by omega
  subst this
  rw [List.take_length] at hno
  exact fin0 (by rw [hno]; rfl)
theorem ContainsFuncF_ok (l:List Fr) (fid:Nat) (caps:List V) (p:Fr→Bool) (hlen:l.length≤2000000) {c:Nat} (S:List Blk) (hc:S[c]?=some (.cells 4 (frmsC l))) (hp:∀g ∈ l,VCall Tryz.prog fid (eraseArgs (frV g :: caps)) S fun r S'=>r=.bool (p g)∧S'=S) :
  VCall Tryz.prog 59 [.heap c l.length,.fn fid caps] S fun r S'=>r=.bool (l.any p)∧S'=S:=by
 refine VCall.en hDe Tryz.func59 Tryz.ntmps59 Tryz.results59 ?_
 simp -implicitDefEqProofs (maxSteps:=1000000) (disch:=omega) only [push_cast,simprocAttr,↓gd]
 refine (IndexFuncF_ok l fid caps p hlen S hc hp).to ?_
 cases h:l.any p
 ·simp -implicitDefEqProofs (maxSteps:=1000000) (disch:=omega) only [push_cast,simprocAttr,↓gd]
  exact fin0 rfl
 ·simp -implicitDefEqProofs (maxSteps:=1000000) (disch:=omega) only [push_cast,simprocAttr,↓gd]
  exact fin0 (by simp)
theorem endOk1_ok (f:Fr) (S:List Blk):VCall Tryz.prog 60 [frV f] S fun r S'=>r=.bool (!frameOk f)∧S'=S:=by
 refine VCall.en hD Tryz.func60 Tryz.ntmps60 Tryz.results60 ?_
 simp -implicitDefEqProofs (maxSteps:=1000000) (disch:=omega) only [push_cast,simprocAttr,↓gd]
 refine ((FrameOk_ok f _).as rfl).to ?_
 simp -implicitDefEqProofs (maxSteps:=1000000) (disch:=omega) only [push_cast,simprocAttr,↓gd]
 exact fin1 (.bool _) rfl
theorem EndOk_ok {e:En} (he:EnB e) {S:List Blk} {b c:Nat} (h:EnAt S b c e):VCall Tryz.prog 20 [eV b c e] S fun r S'=>r=.bool (endOk e)∧S'=S:=by
 obtain ⟨hb,hc⟩:=h
 have hbl:=lt_of_some hb
 have hcl:=lt_of_some hc
 have hlen:=strsC_len e.strs
 have hel:=he.len
 have hwn:=he.wait
 refine VCall.ex hDe (fun _=>false) (fun id=>if id=4 then [2,2,35,35,35,35,35,35,35,35,35,35,35,35,35,35,35,35,35,35,35,35,35,35,35,35,35,35,35,35,35,35,35,35,35,38,38,38] else []) Tryz.func20 Tryz.ntmps20 Tryz.results20 ?_
 simp -implicitDefEqProofs (maxSteps:=1000000) (disch:=omega) only [push_cast,simprocAttr,↓gd]
 refine wpV_loop (fun m t S1=>∃(i:Nat) (X:List Blk),m=e.strs.length - i∧i≤e.strs.length∧(∀j,j < i→okAt e.ans e.strs j=true)∧t 1=.ptr S.length 0∧t 6=.heap b e.strs.length∧t 7=.int .i64 e.strs.length∧t 8=.int .i64 i ∧
  S1=S++([.cells 0 (enC (.heap b e.strs.length) (.heap c e.wait.length) e)]++X)) e.strs.length
  ⟨0,[],by omega,by omega,by omega,rfl,rfl,rfl,rfl,rfl⟩ ?_
 rintro m t S1 ⟨i,X,rfl,hi,hok,h1,h6,h7,h8,rfl⟩
 refine wpV_of hDe (fun _=>false) (fun id=>if id=4 then [2,2,35,35,35,35,35,35,35,35,35,35,35,35,35,35,35,35,35,35,35,35,35,35,35,35,35,35,35,35,35,35,35,35,35,38,38,38] else []) (by kernel_rfl) ?_
 simp -implicitDefEqProofs (maxSteps:=1000000) (disch:=omega) only [push_cast,simprocAttr,h1,h6,h7,h8,↓gd]
 refine ⟨fun h=>?_,fun h=>?_⟩
 ·have hil:i < e.strs.length:=by omega
  have hat:=strsC_at hil
  have hid:=strsC_id hil
  have hsb:=he.sts _ (getD_memS hil)
  have bad:okAt e.ans e.strs i=false→endOk e=false:=fun q=>endOk_bad hil q
  have hx:okAt e.ans e.strs i=(stOk (e.strs.getD i st0) && (decide (i=0) || decide ((e.strs.getD (i - 1) st0).id < (e.strs.getD i st0).id)) && (e.ans || decide ((e.strs.getD i st0).id=2 * i+1))):=rfl
  have hid':∀_:0 < i,(strsC e.strs)[(i - 1) * 12]?=some (.int .i64 (e.strs.getD (i - 1) st0).id):=fun q=>strsC_id (l:=e.strs) (i:=i - 1) (by omega)
  generalize e.strs.getD i st0=s at hat hid hsb hx
  generalize e.strs.getD (i - 1) st0=p at hid' hx
  simp -implicitDefEqProofs (maxSteps:=1000000) (disch:=omega) only [push_cast,simprocAttr,h1,h6,h7,h8,hb,hat,hid,↓gd]
  repeat refine And.intro (by omega) ?_
  refine (isStream_ok s.id _).to ?_
  cases hs:strmOk s.id
  ·simp -implicitDefEqProofs (maxSteps:=1000000) (disch:=omega) only [push_cast,simprocAttr,h1,h6,h7,h8,hb,hat,hid,↓gd]
   exact fin1 (.bool _) (by rw [bad (by rw [hx,stOk,hs]; rfl)])
  have okf:stOk s=true→(i=0∨p.id < s.id)→(e.ans=true∨s.id=2 * (i:Int)+1)→okAt e.ans e.strs i=true:=fun q1 q2 q3=>by
   have a2:(decide (i=0) || decide (p.id < s.id))=true:=by rcases q2 with q | q <;> simp [q]
   have a3:(e.ans || decide (s.id=2 * (i:Int)+1))=true:=by
    rcases q3 with q | q
    ·simp [q]
    ·rw [decide_eq_true q]; simp
   rw [hx,q1,a2,a3]; rfl
  have next:∀(a:Bool) (B:Blk) (Y:List Blk),e.ans=a→okAt e.ans e.strs i=true→∃m',m' < e.strs.length - i∧∃(i':Nat) (X':List Blk),m'=e.strs.length - i'∧i'≤e.strs.length∧(∀j,j < i'→okAt a e.strs j=true) ∧
    V.int .i64 ((i:Int)+1)=.int .i64 (i':Nat)∧S++B :: (X++Y)=S++B :: X':=fun a B Y ea q =>
   ⟨e.strs.length - (i+1),by omega,i+1,X++Y,rfl,by omega,fun j hj=>by
    subst ea
    by_cases ej:j=i
    ·rw [ej]; exact q
    ·exact hok j (by omega),by simp,rfl⟩
  have fstrm:=fun X=>streamOk_ok s hsb hs X
  by_cases h0:i=0
  ·have hip:¬(i:Int) > 0:=by omega
   rcases Bool.eq_false_or_eq_true e.ans with ha | ha
   ·simp -implicitDefEqProofs (maxSteps:=1000000) (disch:=omega) only [push_cast,simprocAttr,h1,h6,h7,h8,hb,hat,hid,hip,ha,↓gd]
    refine ((fstrm _).as rfl).to ?_
    cases hso:stOk s
    ·simp -implicitDefEqProofs (maxSteps:=1000000) (disch:=omega) only [push_cast,simprocAttr,h1,h6,h7,h8,↓gd]
     exact fin1 (.bool _) (by rw [bad (by rw [hx,hso]; rfl)])
    ·simp -implicitDefEqProofs (maxSteps:=1000000) (disch:=omega) only [push_cast,simprocAttr,h1,h6,h7,h8,↓gd]
     exact next _ _ _ ha (okf hso (.inl h0) (.inl ha))
   ·by_cases h1d:s.id=2 * (i:Int)+1
    ·have hd:=eq_true h1d
     simp -implicitDefEqProofs (maxSteps:=1000000) (disch:=omega) only [push_cast,simprocAttr,h1,h6,h7,h8,hb,hat,hid,hip,ha,hd,↓gd]
     repeat refine And.intro (by omega) ?_
     refine ((fstrm _).as rfl).to ?_
     cases hso:stOk s
     ·simp -implicitDefEqProofs (maxSteps:=1000000) (disch:=omega) only [push_cast,simprocAttr,h1,h6,h7,h8,↓gd]
      exact fin1 (.bool _) (by rw [bad (by rw [hx,hso]; rfl)])
     ·simp -implicitDefEqProofs (maxSteps:=1000000) (disch:=omega) only [push_cast,simprocAttr,h1,h6,h7,h8,↓gd]
      exact next _ _ _ ha (okf hso (.inl h0) (.inr h1d))
    ·simp -implicitDefEqProofs (maxSteps:=1000000) (disch:=omega) only [push_cast,simprocAttr,h1,h6,h7,h8,hb,hat,hid,hip,ha,h1d,↓gd]
     repeat refine And.intro (by omega) ?_
     exact fin1 (.bool _) (by rw [bad (by rw [hx,ha,decide_eq_false h1d]; simp)])
  ·have hip:(i:Int) > 0:=by omega
   have hi0:((i:Int) - 1).toNat=i - 1:=by omega
   have hid':=hid' (by omega)
   by_cases hlt:s.id≤p.id
   ·simp -implicitDefEqProofs (maxSteps:=1000000) (disch:=omega) only [push_cast,simprocAttr,h1,h6,h7,h8,hb,hat,hid,hip,hid',hi0,hlt,↓gd]
    repeat refine And.intro (by omega) ?_
    exact fin1 (.bool _) (by rw [bad (by rw [hx,decide_eq_false h0,decide_eq_false (by omega:¬p.id < s.id)]; simp)])
   ·rcases Bool.eq_false_or_eq_true e.ans with ha | ha
    ·simp -implicitDefEqProofs (maxSteps:=1000000) (disch:=omega) only [push_cast,simprocAttr,h1,h6,h7,h8,hb,hat,hid,hip,hid',hi0,hlt,ha,↓gd]
     repeat refine And.intro (by omega) ?_
     refine ((fstrm _).as rfl).to ?_
     cases hso:stOk s
     ·simp -implicitDefEqProofs (maxSteps:=1000000) (disch:=omega) only [push_cast,simprocAttr,h1,h6,h7,h8,↓gd]
      exact fin1 (.bool _) (by rw [bad (by rw [hx,hso]; rfl)])
     ·simp -implicitDefEqProofs (maxSteps:=1000000) (disch:=omega) only [push_cast,simprocAttr,h1,h6,h7,h8,↓gd]
      exact next _ _ _ ha (okf hso (.inr (by omega)) (.inl ha))
    ·by_cases h1d:s.id=2 * (i:Int)+1
     ·have hd:=eq_true h1d
      simp -implicitDefEqProofs (maxSteps:=1000000) (disch:=omega) only [push_cast,simprocAttr,h1,h6,h7,h8,hb,hat,hid,hip,hid',hi0,hlt,ha,hd,↓gd]
      repeat refine And.intro (by omega) ?_
      refine ((fstrm _).as rfl).to ?_
      cases hso:stOk s
      ·simp -implicitDefEqProofs (maxSteps:=1000000) (disch:=omega) only [push_cast,simprocAttr,h1,h6,h7,h8,↓gd]
       exact fin1 (.bool _) (by rw [bad (by rw [hx,hso]; rfl)])
      ·simp -implicitDefEqProofs (maxSteps:=1000000) (disch:=omega) only [push_cast,simprocAttr,h1,h6,h7,h8,↓gd]
       exact next _ _ _ ha (okf hso (.inr (by omega)) (.inr h1d))
     ·simp -implicitDefEqProofs (maxSteps:=1000000) (disch:=omega) only [push_cast,simprocAttr,h1,h6,h7,h8,hb,hat,hid,hip,hid',hi0,hlt,ha,h1d,↓gd]
      repeat refine And.intro (by omega) ?_
      exact fin1 (.bool _) (by rw [bad (by rw [hx,ha,decide_eq_false h1d]; simp)])
 ·have:i=e.strs.length:=by omega
  subst this
  have hsts:stsOk e.ans e.strs=true:=by rw [stsOk,List.all_eq_true]; exact fun j hj=>hok j (List.mem_range.1 hj)
  have hE:endOk e=(e.wait.all frameOk && tableOk e.out e.outM && tableOk e.inn e.innM && flowOk e.send e.room && decide (e.came.length≤600) && decide (e.wait.length≤60)):=by
   simp only [endOk,hsts,Bool.true_and]
  by_cases hw:(e.wait.length:Int)≤60
  ·simp -implicitDefEqProofs (maxSteps:=1000000) (disch:=omega) only [push_cast,simprocAttr,h1,hc,hw,↓gd]
   have hcf:=fun X=>ContainsFuncF_ok e.wait 60 [] (fun f=>!frameOk f) (by omega) (c:=c) (S++X) (frmsC_in hc X) (fun g hg=>(endOk1_ok g _).as rfl)
   refine ((hcf _).as rfl).to ?_
   have hany:e.wait.any (fun f=>!frameOk f)=!e.wait.all frameOk:=by
    rw [List.all_eq_not_any_not,Bool.not_not]
   rw [hany]
   cases hall:e.wait.all frameOk
   ·simp -implicitDefEqProofs (maxSteps:=1000000) (disch:=omega) only [push_cast,simprocAttr,h1,↓gd]
    exact fin1 (.bool _) (by rw [hE,hall]; rfl)
   by_cases hcm:(e.came.length:Int)≤600
   ·simp -implicitDefEqProofs (maxSteps:=1000000) (disch:=omega) only [push_cast,simprocAttr,h1,hcm,↓gd]
    refine ((TableOk_ok e.out e.outM he.out _).as rfl).to ?_
    cases ht1:tableOk e.out e.outM
    ·simp -implicitDefEqProofs (maxSteps:=1000000) (disch:=omega) only [push_cast,simprocAttr,h1,↓gd]
     exact fin1 (.bool _) (by rw [hE,ht1]; simp)
    simp -implicitDefEqProofs (maxSteps:=1000000) (disch:=omega) only [push_cast,simprocAttr,h1,↓gd]
    refine ((TableOk_ok e.inn e.innM he.inn _).as rfl).to ?_
    cases ht2:tableOk e.inn e.innM
    ·simp -implicitDefEqProofs (maxSteps:=1000000) (disch:=omega) only [push_cast,simprocAttr,h1,↓gd]
     exact fin1 (.bool _) (by rw [hE,ht2]; simp)
    simp -implicitDefEqProofs (maxSteps:=1000000) (disch:=omega) only [push_cast,simprocAttr,h1,↓gd]
    refine ((FlowOk_ok e.send e.room _).as rfl).to ?_
    simp -implicitDefEqProofs (maxSteps:=1000000) (disch:=omega) only [push_cast,simprocAttr,h1,↓gd]
    exact fin1 (.bool _) (by rw [hE,hall,ht1,ht2,decide_eq_true (by omega:e.came.length≤600),decide_eq_true (by omega:e.wait.length≤60)]; simp)
   ·simp -implicitDefEqProofs (maxSteps:=1000000) (disch:=omega) only [push_cast,simprocAttr,h1,hcm,↓gd]
    exact fin1 (.bool _) (by rw [hE]; simp; omega)
  ·simp -implicitDefEqProofs (maxSteps:=1000000) (disch:=omega) only [push_cast,simprocAttr,h1,hw,↓gd]
   exact fin1 (.bool _) (by rw [hE]; simp; omega)
end
section
open Go
structure PtrAt (S:List Blk) (p b c:Nat) (e:En):Prop where
 var:S[p]?=some (.cells 0 (enC (.heap b e.strs.length) (.heap c e.wait.length) e))
 at_:EnAt S b c e
theorem PtrAt.nes {S:List Blk} {p b c:Nat} {e:En} (h:PtrAt S p b c e):b≠p∧c≠p∧b≠c∧p < S.length∧b < S.length∧c < S.length :=
 ⟨cells_ne h.at_.1 h.var (by decide),cells_ne h.at_.2 h.var (by decide),h.at_.ne,lt_of_some h.var,lt_of_some h.at_.1,lt_of_some h.at_.2⟩
structure PtrTo (S:List Blk) (p b c:Nat) (e:En) (b' c':Nat) (S':List Blk):Prop where
 at_:PtrAt S' p b' c' e
 hb:b'=b∨S.length≤b'
 hc:c'=c∨S.length≤c'
 upd:Upd [p,b,c] S S'
theorem PtrAt.app {S:List Blk} {p b c:Nat} {e:En} (h:PtrAt S p b c e) (X:List Blk):PtrAt (S++X) p b c e:=⟨by rw [List.getElem?_append_left (lt_of_some h.var)]; exact h.var,h.at_.app X⟩
theorem PtrTo.refl {S:List Blk} {p b c:Nat} {e:En} (h:PtrAt S p b c e):PtrTo S p b c e b c S:=⟨h,.inl rfl,.inl rfl,Upd.refl _ _⟩
theorem PtrTo.stay {S X:List Blk} {p b c:Nat} {e:En} (h:PtrAt S p b c e):PtrTo S p b c e b c (S++X):=⟨h.app X,.inl rfl,.inl rfl,(Upd.refl _ _).app X⟩
theorem PtrTo.trans {S S1 S2:List Blk} {p b c b1 c1 b2 c2:Nat} {e1 e2:En} (h:PtrTo S p b c e1 b1 c1 S1) (k:PtrTo S1 p b1 c1 e2 b2 c2 S2):PtrTo S p b c e2 b2 c2 S2:=by
 have hl:=h.upd.1
 have hb:=h.hb; have hc:=h.hc
 refine ⟨k.at_,?_,?_,h.upd.then_ k.upd fun j hj hm=>?_⟩
 ·rcases k.hb with e | e <;> omega
 ·rcases k.hc with e | e <;> omega
 ·simp only [List.mem_cons,List.not_mem_nil,or_false] at hm ⊢
  omega
theorem PtrTo.app {S X:List Blk} {p b c:Nat} {e:En} {b' c':Nat} {S':List Blk} (h:PtrTo (S++X) p b c e b' c' S'):PtrTo S p b c e b' c' S':=by
 have hb:=h.hb; have hc:=h.hc
 rw [List.length_append] at hb hc
 exact ⟨h.at_,by omega,by omega,((Upd.refl [p,b,c] S).app X).then_ h.upd (fun j hj hm=>hm)⟩
theorem PtrTo.mk' {S:List Blk} {p b c:Nat} {e:En} (b' c':Nat) {S':List Blk} (hv:S'[p]?=some (.cells 0 (enC (.heap b' e.strs.length) (.heap c' e.wait.length) e))) (h1:S'[b']?=some (.cells 12 (strsC e.strs))) (h2:S'[c']?=some (.cells 4 (frmsC e.wait)))
  (hb:b'=b∨S.length≤b') (hc:c'=c∨S.length≤c') (hu:Upd [p,b,c] S S'):PtrTo S p b c e b' c' S':=⟨⟨hv,h1,h2⟩,hb,hc,hu⟩
def atP (l:List St) (b:Nat) (id:Int):V:=match atM l id with
 | some k=>.ptr b (k * 12)
 | none=>.nilp
def ErL:List V→List V→Prop
 | [],[]=>True
 | v :: vs,u :: us=>(u=v∨u=eraseC v)∧ErL vs us
 | _,_=>False
theorem ErL.len:∀{vs us:List V},ErL vs us→vs.length=us.length
 | [],[],_=>rfl
 | v :: vs,u :: us,h=>by rw [List.length_cons,List.length_cons,h.2.len]
 | [],_ :: _,h=>h.elim
 | _ :: _,[],h=>h.elim
theorem ErL.at_:∀{vs us:List V},ErL vs us→∀(i:Nat) (v u:V),vs[i]?=some v→us[i]?=some u→u=v∨u=eraseC v
 | [],[],_,i,v,u,hv,_=>by simp at hv
 | v :: vs,u :: us,h,0,v',u',hv,hu=>by cases hv; cases hu; exact h.1
 | v :: vs,u :: us,h,i+1,v',u',hv,hu=>h.2.at_ i v' u' hv hu
 | [],_ :: _,h,_,_,_,_,_=>h.elim
 | _ :: _,[],h,_,_,_,_,_=>h.elim
theorem Wk.er {S0 S:List Blk} {cs ds:List V} (h:ErL cs ds):Wk S0 (.agg cs) S (.agg ds) S:=by
 intro G0 w0 G w c hR0 hE hv hR
 refine ⟨G,?_,hR,hE⟩
 cases hv with
 | agg hl hr ho =>
  refine .agg (by rw [←h.len]; exact hl) (fun i v u hv hu=>?_) ho
  have hi:=List.getElem?_eq_some_iff.1 hv
  obtain ⟨hi,_⟩:=hi
  have hc:cs[i]?=some (cs[i]'(by rw [h.len]; exact hi)):=List.getElem?_eq_getElem _
  rcases h.at_ i _ v hc hv with e | e
  ·rw [e]; exact hr i _ u hc hu
  ·rw [e]; exact eraseC_ok (hr i _ u hc hu)
theorem EndNew_ok (a:Bool) (S:List Blk):VCall Tryz.prog 19 [.bool a] S fun r S'=>RNew S (newEn a) r S':=by
 refine VCall.en hDe Tryz.func19 Tryz.ntmps19 Tryz.results19 ?_
 simp -implicitDefEqProofs (disch:=omega) only [push_cast,simprocAttr,↓gd]
 obtain ⟨r,S2,h1,h2⟩:=fin_new (S:=S) (S1:=S++[.cells 0 [V.bool a,V.nils,V.int .i64 64,V.nils,V.int .i64 64,V.str [],V.nils,V.int .i64 16,V.int .i64 16,V.nils,V.bool false]]) (r:=enV .nils .nils (newEn a)) (e:=newEn a) rfl rfl ((Upd.refl _ _).app _) rfl rfl
 have e1:ErL [V.bool a,V.nils,V.int .i64 64,V.nils,V.int .i64 64,V.str [],V.nils,V.int .i64 16,V.int .i64 16,V.nils,V.bool false] [V.bool a,.rows none [],V.int .i64 64,.rows none [],V.int .i64 64,V.str [],V.nils,V.int .i64 16,V.int .i64 16,V.nils,V.bool false]:=⟨.inl rfl,.inr rfl,.inl rfl,.inr rfl,.inl rfl,.inl rfl,.inl rfl,.inl rfl,.inl rfl,.inl rfl,.inl rfl,trivial⟩
 exact ⟨r,S2,Wk.trans (Wk.er e1) h1,h2⟩
theorem newStream_ok (id:Int) (S:List Blk):VCall Tryz.prog 67 [.int .i64 id] S fun r S'=>r=stV (newSt id)∧S'=S:=by
 refine VCall.en hD Tryz.func67 Tryz.ntmps67 Tryz.results67 ?_
 simp -implicitDefEqProofs (disch:=omega) only [push_cast,simprocAttr,↓gd]
 exact finE (stV_cl _ (newSt id)) rfl
theorem stream_ok {e:En} (he:EnB e) {S:List Blk} {p b c:Nat} (h:PtrAt S p b c e) (id:Int):VCall Tryz.prog 93 [.ptr p 0,.int .i64 id] S fun r S'=>r=atP e.strs b id∧S'=S:=by
 have hv:=h.var
 have hb:=h.at_.1
 have hpl:=lt_of_some hv
 have hbl:=lt_of_some hb
 have hel:=he.len
 have hlen:=strsC_len e.strs
 refine VCall.en hDe Tryz.func93 Tryz.ntmps93 Tryz.results93 ?_
 simp -implicitDefEqProofs (disch:=omega) only [push_cast,simprocAttr,hv,↓gd]
 refine wpV_loop (fun m t S1=>∃i:Nat,m=e.strs.length - i∧i≤e.strs.length∧(∀j,j < i→(e.strs.getD j st0).id≠id)∧t 0=.ptr p 0∧t 1=.int .i64 id∧t 10=.int .i64 e.strs.length∧t 11=.int .i64 i∧S1=S) e.strs.length
  ⟨0,by omega,by omega,by omega,rfl,rfl,rfl,rfl,rfl⟩ ?_
 rintro m t S1 ⟨i,rfl,hi,hno,h0,h1,h10,h11,rfl⟩
 refine wpV_of0 hDe ?_
 simp -implicitDefEqProofs (disch:=omega) only [push_cast,simprocAttr,h0,h1,h10,h11,hv,↓gd]
 refine ⟨fun h=>?_,fun h=>?_⟩
 ·have hil:i < e.strs.length:=by omega
  have hid:=strsC_id hil
  by_cases hq:(e.strs.getD i st0).id=id
  ·simp -implicitDefEqProofs (disch:=omega) only [push_cast,simprocAttr,h0,h1,h10,h11,hv,hb,hid,hq,↓gd]
   repeat refine And.intro (by omega) ?_
   exact fin0 (by rw [atP,atM_at hil hno hq])
  ·simp -implicitDefEqProofs (disch:=omega) only [push_cast,simprocAttr,h0,h1,h10,h11,hv,hb,hid,hq,↓gd]
   repeat refine And.intro (by omega) ?_
   refine ⟨e.strs.length - (i+1),by omega,i+1,rfl,by omega,fun j hj=>?_,by simp⟩
   by_cases e1:j=i
   ·rw [e1]; exact hq
   ·exact hno j (by omega)
 ·exact fin0 (by rw [atP,atM_no (fun j hj=>hno j (by omega))])
theorem widen_ok {N:Nat} {e:En} (hW:EnW N e) (hN:N≤1100000) {f:Fr} (hf:frameOk f=true) {S:List Blk} {p b c:Nat} (h:PtrAt S p b c e):VCall Tryz.prog 71 [.ptr p 0,frV f] S fun r S'=>r=.tup []∧PtrTo S p b c (roomM e f) b c S':=by
 have he:=hW.b hN
 have hfl:=hW.flows
 have hsts:=hW.sts
 have hfn:=(frameOk_nat hf).2.1
 obtain ⟨ans,out,outM,inn,innM,came,strs,snd,rm,wait,bad⟩:=e
 simp only at hfl hsts
 obtain ⟨n1,n2,n3,n4,n5,n6⟩:=h.nes
 have hv:S[p]?=some (.cells 0 (enC (.heap b strs.length) (.heap c wait.length) ⟨ans,out,outM,inn,innM,came,strs,snd,rm,wait,bad⟩)):=h.var
 have hb:S[b]?=some (.cells 12 (strsC strs)):=h.at_.1
 have hc:S[c]?=some (.cells 4 (frmsC wait)):=h.at_.2
 have hlen:=strsC_len strs
 have hm8:=frameOk_more hf
 obtain ⟨fk,fl,fs,fb⟩:=f
 simp only at hfn
 refine VCall.ex hDe (fun _=>false) (fun id=>if id=7 then [13,13,13,13,13,13,13,13,13,13,13,13,13,14] else []) Tryz.func71 Tryz.ntmps71 Tryz.results71 ?_
 by_cases hk:fk=8
 ·subst hk
  obtain ⟨x,rfl,hx1,hx2,rfl⟩:∃x:UInt8,fb=[x]∧1≤x.toNat∧x.toNat≤31∧fl=false:=hm8 rfl
  have hx0:([x]:List UInt8).getD 0 0=x:=rfl
  have emin:∀a:Int,(if a < (31:Int) then a else (31:Int))=min a 31:=fun a=>by omega
  by_cases hs0:fs=0
  ·subst hs0
   have hm:roomM ⟨ans,out,outM,inn,innM,came,strs,snd,rm,wait,bad⟩ ⟨8,false,0,[x]⟩=⟨ans,out,outM,inn,innM,came,strs,snd,min (rm+x.toNat) 31,wait,bad⟩:=by simp [roomM,byteAt]
   rw [hm]
   simp -implicitDefEqProofs (disch:=omega) only [push_cast,simprocAttr,hv,hx0,emin,↓gd]
   refine ⟨_,_,Wk.refl _ _ _,rfl,PtrTo.mk' b c ?_ ?_ ?_ (.inl rfl) (.inl rfl) (((Upd.refl _ _).set _ (.inr (by simp))).app _)⟩
   ·simp -implicitDefEqProofs (disch:=omega) only [push_cast,simprocAttr,↓gd]
   ·simp -implicitDefEqProofs (disch:=omega) only [push_cast,simprocAttr,hb,↓gd]
   ·simp -implicitDefEqProofs (disch:=omega) only [push_cast,simprocAttr,hc,↓gd]
  ·have hgt:fs > 0:=by omega
   simp -implicitDefEqProofs (disch:=omega) only [push_cast,simprocAttr,hv,hx0,hgt,↓gd]
   refine ((stream_ok he (h.app _) fs).as rfl).to ?_
   cases ha:atM strs fs with
   | none =>
    have hap:atP strs b fs=.nilp:=by rw [atP,ha]
    have hm:roomM ⟨ans,out,outM,inn,innM,came,strs,snd,rm,wait,bad⟩ ⟨8,false,fs,[x]⟩=⟨ans,out,outM,inn,innM,came,strs,snd,rm,wait,bad⟩:=by rw [roomM]; simp only [ha,hs0]; simp
    rw [hm]
    simp -implicitDefEqProofs (disch:=omega) only [push_cast,simprocAttr,hap,↓gd]
    exact ⟨_,_,Wk.refl _ _ _,rfl,.stay h⟩
   | some k =>
    obtain ⟨hk,hid⟩:=atM_some ha
    have hap:atP strs b fs=.ptr b (k * 12):=by rw [atP,ha]
    have hsf:=stOk_flow (stsOk_at hsts hk)
    have hrm:=strsC_get hk (c:=11) (by decide)
    have hput:∀v s',strC s'=(strC (strs.getD k st0)).set 11 v→splice (strsC strs) (k * 12+11) [v]=strsC (strs.set k s'):=fun v s'=>strsC_put hk (by decide)
    have hm:roomM ⟨ans,out,outM,inn,innM,came,strs,snd,rm,wait,bad⟩ ⟨8,false,fs,[x]⟩=⟨ans,out,outM,inn,innM,came,strs.set k { strs.getD k st0 with room:=min ((strs.getD k st0).room+x.toNat) 31 },snd,rm,wait,bad⟩:=by
     rw [roomM]; simp only [ha,hs0,stAt,setSt]; simp [byteAt]
    rw [hm]
    clear hm hid
    generalize strs.getD k st0=s at hrm hput hsf
    obtain ⟨sid,sst,shd,ssay,sbg,ssd,ssent,sgot,stx,shrd,ssnd,srm⟩:=s
    simp only at hsf
    have hput:=hput _ ⟨sid,sst,shd,ssay,sbg,ssd,ssent,sgot,stx,shrd,ssnd,min (srm+x.toNat) 31⟩ rfl
    simp -implicitDefEqProofs (disch:=omega) only [push_cast,simprocAttr,hap,hv,hb,hrm,hx0,emin,hput,↓gd]
    repeat refine And.intro (by omega) ?_
    refine ⟨_,_,Wk.refl _ _ _,rfl,PtrTo.mk' b c ?_ ?_ ?_ (.inl rfl) (.inl rfl) (((Upd.refl _ _).set _ (.inr (by simp))).app _)⟩
    ·simp -implicitDefEqProofs (disch:=omega) only [push_cast,simprocAttr,hv,↓gd]
    ·simp -implicitDefEqProofs (disch:=omega) only [push_cast,simprocAttr,↓gd]
    ·simp -implicitDefEqProofs (disch:=omega) only [push_cast,simprocAttr,hc,↓gd]
 ·have hm:roomM ⟨ans,out,outM,inn,innM,came,strs,snd,rm,wait,bad⟩ ⟨fk,fl,fs,fb⟩=⟨ans,out,outM,inn,innM,came,strs,snd,rm,wait,bad⟩:=by simp [roomM,hk]
  rw [hm]
  simp -implicitDefEqProofs (disch:=omega) only [push_cast,simprocAttr,hk,↓gd]
  exact ⟨_,_,Wk.refl _ _ _,rfl,.stay h⟩
end
section
open Go
theorem small_cut:∀n:Nat,n < 100→10≤n→((([48,48,48,49,48,50,48,51,48,52,48,53,48,54,48,55,48,56,48,57,49,48,49,49,49,50,49,51,49,52,49,53,49,54,49,55,49,56,49,57,50,48,50,49,50,50,50,51,50,52,50,53,50,54,50,55,50,56,50,57,51,48,51,49,51,50,51,51,51,52,51,53,51,54,51,55,51,56,51,57,52,48,52,49,52,50,52,51,52,52,52,53,52,54,52,55,52,56,52,57,53,48,53,49,53,50,53,51,53,52,53,53,53,54,53,55,53,56,53,57,54,48,54,49,54,50,54,51,54,52,54,53,54,54,54,55,54,56,54,57,55,48,55,49,55,50,55,51,55,52,55,53,55,54,55,55,55,56,55,57,56,48,56,49,56,50,56,51,56,52,56,53,56,54,56,55,56,56,56,57,57,48,57,49,57,50,57,51,57,52,57,53,57,54,57,55,57,56,57,57]:List UInt8).take (2 * n+2)).drop (2 * n))=[by8 (48+n / 10),by8 (48+n % 10)]:=by decide
theorem dig_cut:∀n:Nat,n < 10→((([48,49,50,51,52,53,54,55,56,57,97,98,99,100,101,102,103,104,105,106,107,108,109,110,111,112,113,114,115,116,117,118,119,120,121,122]:List UInt8).take (n+1)).drop n)=[by8 (48+n)]:=by decide
theorem small_ok (n:Nat) (hn:n < 100) (S:List Blk):VCall Tryz.prog 157 [.int .i64 n] S fun r S'=>r=.str (decM n)∧S'=S:=by
 refine VCall.en hD Tryz.func157 Tryz.ntmps157 Tryz.results157 ?_
 by_cases h:n < 10
 ·have h':(n:Int) < 10:=by omega
  have e:((n:Int)+1).toNat=n+1:=by omega
  simp -implicitDefEqProofs (disch:=omega) only [push_cast,simprocAttr,h',e,↓gd]
  repeat refine And.intro (by omega) ?_
  exact fin0 (by rw [decM_small h]; exact congrArg V.str (dig_cut n h))
 ·have h':¬(n:Int) < 10:=by omega
  have e1:((n:Int) * 2).toNat=2 * n:=by omega
  have e2:((n:Int) * 2+2).toNat=2 * n+2:=by omega
  have hd:decM n=[by8 (48+n / 10),by8 (48+n % 10)]:=by rw [decM_big h,decM_small (by omega)]; rfl
  simp -implicitDefEqProofs (disch:=omega) only [push_cast,simprocAttr,h',e1,e2,↓gd]
  refine ⟨by omega,by omega,?_,fin0 ?_⟩
  ·show (n:Int) * 2+2≤((200:Nat):Int)
   omega
  ·rw [hd]
   exact congrArg V.str (small_cut n hn (by omega))
theorem FormatInt_ok (n:Nat) (hn:n < 100) (S:List Blk):VCall Tryz.prog 145 [.int .i64 n,.int .i64 10] S fun r S'=>r=.str (decM n)∧S'=S:=by
 have h0:(0:Int)≤n:=by omega
 have h1:(n:Int) < 100:=by omega
 refine VCall.en hD Tryz.func145 Tryz.ntmps145 Tryz.results145 ?_
 simp -implicitDefEqProofs (disch:=omega) only [push_cast,simprocAttr,h0,h1,↓gd]
 refine (small_ok n hn _).to ?_
 simp -implicitDefEqProofs (disch:=omega) only [push_cast,simprocAttr,↓gd]
 exact fin0 rfl
theorem iItoa_ok (n:Nat) (hn:n < 100) (S:List Blk):VCall Tryz.prog 117 [.int .i64 n] S fun r S'=>r=.str (decM n)∧S'=S:=by
 refine VCall.en hD Tryz.func117 Tryz.ntmps117 Tryz.results117 ?_
 simp -implicitDefEqProofs (disch:=omega) only [push_cast,simprocAttr,↓gd]
 refine (FormatInt_ok n hn _).to ?_
 simp -implicitDefEqProofs (disch:=omega) only [push_cast,simprocAttr,↓gd]
 exact fin0 rfl
theorem Itoa_ok (n:Nat) (hn:n < 100) (S:List Blk):VCall Tryz.prog 68 [.int .i64 n] S fun r S'=>r=.str (decM n)∧S'=S:=by
 refine VCall.en hD Tryz.func68 Tryz.ntmps68 Tryz.results68 ?_
 simp -implicitDefEqProofs (disch:=omega) only [push_cast,simprocAttr,↓gd]
 refine (iItoa_ok n hn _).to ?_
 simp -implicitDefEqProofs (disch:=omega) only [push_cast,simprocAttr,↓gd]
 exact fin0 rfl
theorem get_ok (h:List Fd) (hl:FdsB h) (name:List UInt8) (S:List Blk):VCall Tryz.prog 74 [.rows none (h.map fV),.str name] S fun r S'=>r=.tup [.str (getM h name).1,.bool (getM h name).2]∧S'=S:=by
 have hlen:=hl.1
 have hcl:∀a b,Cl S.length (.tup [.str a,.bool b]):=fun a b=>Cl.two (.str _) (.bool _)
 refine VCall.en hD Tryz.func74 Tryz.ntmps74 Tryz.results74 ?_
 simp -implicitDefEqProofs (disch:=omega) only [push_cast,simprocAttr,↓gd]
 refine wpV_loop (fun m t S'=>∃(i:Nat) (X:List Blk),m=h.length - i∧i≤h.length∧(∀j,j < i→(h.getD j fd0).name≠name)∧t 1=.str name∧t 8=.rows none (h.map fV)∧t 9=.int .i64 h.length∧t 10=.int .i64 i∧S'=S++X) h.length ⟨0,[],by omega,by omega,by omega,rfl,rfl,rfl,rfl,by simp⟩ ?_
 rintro m t S' ⟨i,X,rfl,hi,hno,h1,h8,h9,h10,rfl⟩
 refine wpV_of0 hD ?_
 simp -implicitDefEqProofs (disch:=omega) only [push_cast,simprocAttr,h1,h8,h9,h10,↓gd]
 refine ⟨fun q=>?_,fun q=>?_⟩
 ·have hil:i < h.length:=by omega
  have hgd:=getD_fV hil
  have hat:=getM_at (name:=name) hil hno
  generalize hf:h.getD i fd0=f at hgd hat
  by_cases hq:f.name=name
  ·have hm:=hat hq
   have hq':=eq_true hq
   simp -implicitDefEqProofs (disch:=omega) only [push_cast,simprocAttr,h1,h8,h9,h10,hgd,hq',↓gd]
   repeat refine And.intro (by omega) ?_
   exact fin1 (hcl _ _) (by rw [hm])
  ·simp -implicitDefEqProofs (disch:=omega) only [push_cast,simprocAttr,h1,h8,h9,h10,hgd,hq,↓gd]
   repeat refine And.intro (by omega) ?_
   refine ⟨h.length - (i+1),by omega,i+1,_,rfl,by omega,fun j hj=>?_,by simp,rfl⟩
   by_cases e1:j=i
   ·rw [e1,hf]; exact hq
   ·exact hno j (by omega)
 ·exact fin1 (hcl _ _) (by rw [getM_no (fun j hj=>hno j (by omega))])
end
section
open Go
theorem hDu:TypesOk Tryz.prog (wrOf D [5]):=wrOk hD _
theorem u8s_len (s:List UInt8):(u8s s).length=s.length:=by simp [u8s]
theorem u8s_get {s:List UInt8} {i:Nat} (h:i < s.length):(u8s s)[i]?=some (.int .u8 ((s.getD i 0).toNat:Int)):=by
 simp [u8s,List.getElem?_eq_getElem h,List.getD]
theorem u8s_all (s:List UInt8):(u8s s).all isU8=true:=by simp [u8s,isU8]
theorem u8s_back (s:List UInt8):(u8s s).map byteOfV=s:=by
 simp [u8s,byteOfV,Function.comp_def]
theorem u8s_set {s:List UInt8} {i:Nat} {x:UInt8}:splice (u8s s) i [.int .u8 (x.toNat:Int)]=u8s (s.set i x):=by
 rw [splice_one]; simp [u8s,List.map_set]
theorem up_mix_get {w:List UInt8} {i:Nat} (h:i < w.length):(upM (w.take i)++w.drop i).getD i 0=w.getD i 0:=by
 have hl:(upM (w.take i)).length=i:=by rw [upM_len]; simp; omega
 rw [List.getD_eq_getElem?_getD,List.getElem?_append_right (by omega),hl,Nat.sub_self,List.getElem?_drop,Nat.add_zero,←List.getD_eq_getElem?_getD]
theorem up_mix_set {w:List UInt8} {i:Nat} (h:i < w.length):(upM (w.take i)++w.drop i).set i (if 97≤(w.getD i 0).toNat∧(w.getD i 0).toNat < 122 then by8 ((w.getD i 0).toNat+1) else w.getD i 0)=upM (w.take (i+1))++w.drop (i+1):=by
 have hl:(upM (w.take i)).length=i:=by rw [upM_len]; simp; omega
 rw [List.set_append_right _ _ (by omega),hl,Nat.sub_self,upM_take h,List.append_assoc]
 congr 1
 rw [List.drop_eq_getElem_cons h]
 rfl
theorem lt_of_get {α:Type} {l:List α} {i:Nat} {x:α} (h:l[i]?=some x):i < l.length:=by
 rcases Nat.lt_or_ge i l.length with g | g
 ·exact g
 ·rw [List.getElem?_eq_none g] at h; cases h
theorem EndAnswer_ok (path text:List UInt8) (ht:text.length < 100) (S:List Blk):VCall Tryz.prog 84 [.str path,.str text] S fun r S'=>r=.tup [.str (answerM path text).1,.str (answerM path text).2]∧S'=S:=by
 refine VCall.ex hDu (fun _=>false) (fun id=>if id=12 then [4,4,4,4] else []) Tryz.func84 Tryz.ntmps84 Tryz.results84 ?_
 by_cases h1:path=sEcho
 ·have h1':(path=[47,101,99,104,111])=True:=eq_true h1
  simp -implicitDefEqProofs (disch:=omega) only [push_cast,simprocAttr,h1',↓gd]
  exact fin0 (by rw [answerM,if_pos h1])
 ·have h1':¬path=[47,101,99,104,111]:=h1
  by_cases h2:path=sUp
  ·have h2':(path=[47,117,112])=True:=eq_true h2
   simp -implicitDefEqProofs (disch:=omega) only [push_cast,simprocAttr,h1',h2',↓gd]
   refine wpV_loop (fun m t S'=>∃i:Nat,m=text.length - i∧i≤text.length∧t 6=.heap S.length text.length∧t 17=.heap S.length text.length∧t 18=.int .i64 text.length∧t 19=.int .i64 i∧S'=S++[.cells (1000000 * (5+1)+1) (u8s (upM (text.take i)++text.drop i))]) text.length
    ⟨0,by omega,by omega,rfl,rfl,rfl,rfl,by simp [upM]⟩ ?_
   rintro m t S' ⟨i,rfl,hi,h6,h17,h18,h19,rfl⟩
   refine wpV_of hDu (fun _=>false) (fun id=>if id=12 then [4,4,4,4] else []) (by kernel_rfl) ?_
   have hml:(upM (text.take i)++text.drop i).length=text.length:=by rw [List.length_append,upM_len]; simp; omega
   have hcl:=u8s_len (upM (text.take i)++text.drop i)
   simp -implicitDefEqProofs (disch:=omega) only [push_cast,simprocAttr,h6,h17,h18,h19,↓gd]
   refine ⟨fun q=>?_,fun q=>?_⟩
   ·have hil:i < text.length:=by omega
    have hg:=u8s_get (s:=upM (text.take i)++text.drop i) (i:=i) (by omega)
    have hset:=up_mix_set hil
    rw [up_mix_get hil] at hg
    have hb:=UInt8.toNat_lt (text.getD i 0)
    have hsp:=fun x:UInt8=>u8s_set (s:=upM (text.take i)++text.drop i) (i:=i) (x:=x)
    generalize text.getD i 0=x at hg hset hb
    generalize u8s (upM (text.take i)++text.drop i)=cs at hg hcl hsp
    have same:∀{l:List UInt8},(upM (text.take i)++text.drop i).set i x=l→cs=u8s l:=fun {l} q=>by
     rw [←q,←hsp,splice_one]
     apply List.ext_getElem?
     intro j
     rw [List.getElem?_set]
     by_cases e:i=j
     ·subst e
      rw [if_pos rfl,if_pos (lt_of_get hg),hg]
     ·rw [if_neg e]
    by_cases c1:97≤x.toNat
    ·by_cases c2:x.toNat < 122
     ·rw [if_pos ⟨c1,c2⟩] at hset
      have q1:(97:Int)≤(x.toNat:Int):=by omega
      have q2:(x.toNat:Int)≤121:=by omega
      simp -implicitDefEqProofs (disch:=omega) only [push_cast,simprocAttr,h6,h17,h18,h19,Nat.mul_one,hg,q1,q2,↓gd]
      repeat refine And.intro (by omega) ?_
      have e1:((by8 (x.toNat+1)).toNat:Int)=(x.toNat:Int)+1:=by
       rw [by8,UInt8.toNat_ofNat']
       omega
      have e2:=hsp (by8 (x.toNat+1))
      rw [e1,hset] at e2
      exact ⟨text.length - (i+1),by omega,i+1,rfl,by omega,by simp,by rw [e2]⟩
     ·rw [if_neg (by omega)] at hset
      have q1:(97:Int)≤(x.toNat:Int):=by omega
      have q2:¬(x.toNat:Int)≤121:=by omega
      simp -implicitDefEqProofs (disch:=omega) only [push_cast,simprocAttr,h6,h17,h18,h19,Nat.mul_one,hg,q1,q2,↓gd]
      repeat refine And.intro (by omega) ?_
      exact ⟨text.length - (i+1),by omega,i+1,rfl,by omega,by simp,by rw [same hset]⟩
    ·rw [if_neg (by omega)] at hset
     have q1:¬(97:Int)≤(x.toNat:Int):=by omega
     simp -implicitDefEqProofs (disch:=omega) only [push_cast,simprocAttr,h6,h17,h18,h19,Nat.mul_one,hg,q1,↓gd]
     repeat refine And.intro (by omega) ?_
     exact ⟨text.length - (i+1),by omega,i+1,rfl,by omega,by simp,by rw [same hset]⟩
   ·have:i=text.length:=by omega
    subst this
    refine ⟨by omega,?_,?_⟩
    ·rw [List.take_of_length_le (by omega)]; exact u8s_all _
    ·rw [List.take_of_length_le (by omega),List.take_of_length_le (by omega),List.drop_of_length_le (by omega),List.append_nil,u8s_back]
     exact fin1 (Cl.two (.str _) (.str _)) (by rw [answerM,if_neg h1,if_pos h2])
  ·have h2':¬path=[47,117,112]:=h2
   by_cases h3:path=sLen
   ·have h3':(path=[47,108,101,110])=True:=eq_true h3
    simp -implicitDefEqProofs (disch:=omega) only [push_cast,simprocAttr,h1',h2',h3',↓gd]
    refine (Itoa_ok _ (by omega) _).to ?_
    simp -implicitDefEqProofs (disch:=omega) only [push_cast,simprocAttr,↓gd]
    exact fin0 (by rw [answerM,if_neg h1,if_neg h2,if_pos h3])
   ·have h3':¬path=[47,108,101,110]:=h3
    simp -implicitDefEqProofs (disch:=omega) only [push_cast,simprocAttr,h1',h2',h3',↓gd]
    refine fin0 ?_
    rw [answerM,if_neg h1,if_neg h2,if_neg h3]
end
end Go.Proofs.YtaamlddnpamomaaGreatDoor
