/- A part of the proof: contracts of functions, or plain facts on which these lean. -/
import Derived.Test.YtldogccmhncnoaaGreatMk16
namespace Go.Proofs.YtldogccmhncnoaaGreat
open Go
set_option linter.unusedVariables false
set_option linter.unusedSimpArgs false
set_option maxRecDepth 100000
set_option maxHeartbeats 16000000

section
open Go
theorem getD_lt {α:Type} {l:List α} {i:Nat} (d:α) (h:i < l.length):l.getD i d=l[i]:=by
 rw [List.getD,List.getElem?_eq_getElem h]; rfl
theorem getD_set {α:Type} {l:List α} {i k:Nat} (d a:α) (hk:k < l.length):(l.set k a).getD i d=if i=k then a else l.getD i d:=by
 simp only [List.getD,List.getElem?_set]
 by_cases e:k=i
 ·subst e; simp [hk]
 ·simp [e,Ne.symm e]
theorem okAt_iff {ans:Bool} {l:List St} {i:Nat}:okAt ans l i=true↔stOk (l.getD i st0)=true∧(i=0∨(l.getD (i - 1) st0).id < (l.getD i st0).id)∧(ans=true∨(l.getD i st0).id=2 * i+1):=by
 simp [okAt,and_assoc]
theorem stsOk_iff {ans:Bool} {l:List St}:stsOk ans l=true↔∀i,i < l.length→stOk (l.getD i st0)=true∧(i=0∨(l.getD (i - 1) st0).id < (l.getD i st0).id)∧(ans=true∨(l.getD i st0).id=2 * i+1):=by
 simp only [stsOk,List.all_eq_true,List.mem_range,okAt_iff]
theorem stsOk_set {ans:Bool} {l:List St} {k:Nat} {s:St} (h:stsOk ans l=true) (hk:k < l.length) (hs:stOk s=true) (hid:s.id=(l.getD k st0).id):stsOk ans (l.set k s)=true:=by
 rw [stsOk_iff] at h ⊢
 intro i hi
 rw [List.length_set] at hi
 have e:∀j,((l.set k s).getD j st0).id=(l.getD j st0).id:=by
  intro j
  rw [getD_set st0 s hk]
  split
  ·rename_i e; rw [hid,e]
  ·rfl
 rw [e,e]
 refine ⟨?_,(h i hi).2⟩
 rw [getD_set st0 s hk]
 split
 ·exact hs
 ·exact (h i hi).1
theorem strmOk_iff {n:Int}:strmOk n=true↔1≤n∧n≤7∧n.tmod 2=1:=by simp [strmOk,and_assoc]
theorem strmOk_cases {n:Int} (h:strmOk n=true):n=1∨n=3∨n=5∨n=7:=by
 obtain ⟨h1,h2,h3⟩:=strmOk_iff.1 h
 rw [Int.tmod_eq_emod_of_nonneg (by omega)] at h3
 omega
theorem flowOk_iff {s r:Int}:flowOk s r=true↔0≤s∧s≤31∧0≤r∧r≤31:=by simp [flowOk,and_assoc]
theorem stOk_iff {s:St}:stOk s=true↔strmOk s.id=true∧(1≤s.state∧s.state≤3)∧headOk s.head=true∧headOk s.got=true∧wordOk s.say=true∧wordOk s.text=true∧(0≤s.sent∧s.sent≤s.say.length)∧flowOk s.send s.room=true:=by
 simp only [stOk,Bool.and_eq_true,decide_eq_true_eq]
 constructor
 ·rintro ⟨⟨⟨⟨⟨⟨⟨h1,h2⟩,h3⟩,h4⟩,h5⟩,h6⟩,h7⟩,h8⟩; exact ⟨h1,h2,h3,h4,h5,h6,h7,h8⟩
 ·rintro ⟨h1,h2,h3,h4,h5,h6,h7,h8⟩; exact ⟨⟨⟨⟨⟨⟨⟨h1,h2⟩,h3⟩,h4⟩,h5⟩,h6⟩,h7⟩,h8⟩
theorem stsOk_ids {ans:Bool} {l:List St} (h:stsOk ans l=true):∀i,i < l.length→2 * (i:Int)+1≤(l.getD i st0).id:=by
 rw [stsOk_iff] at h
 intro i
 induction i with
 | zero =>
  intro hi
  have:=strmOk_cases (stOk_iff.1 (h 0 hi).1).1
  omega
 | succ i ih =>
  intro hi
  have h1:=ih (by omega)
  have h2:=strmOk_cases (stOk_iff.1 (h (i+1) hi).1).1
  have h3:=strmOk_cases (stOk_iff.1 (h i (by omega)).1).1
  rcases (h (i+1) hi).2.1 with h4 | h4
  ·omega
  ·rw [Nat.add_sub_cancel] at h4
   omega
theorem stsOk_len {ans:Bool} {l:List St} (h:stsOk ans l=true):l.length≤4:=by
 by_cases h0:l.length≤4
 ·exact h0
 ·have h1:=stsOk_ids h 4 (by omega)
  have h2:=strmOk_cases (stOk_iff.1 (stsOk_iff.1 h 4 (by omega)).1).1
  omega
theorem stsOk_at {ans:Bool} {l:List St} {k:Nat} (h:stsOk ans l=true) (hk:k < l.length):stOk (l.getD k st0)=true:=(stsOk_iff.1 h k hk).1
theorem atM_some {l:List St} {id:Int} {k:Nat} (h:atM l id=some k):k < l.length∧(l.getD k st0).id=id:=by
 unfold atM at h
 have h1:=List.findIdx?_eq_some_iff_getElem.1 h
 obtain ⟨h2,h3,_⟩:=h1
 refine ⟨h2,?_⟩
 rw [getD_lt st0 h2]
 simpa using h3
structure EnW (N:Nat) (e:En):Prop where
 sts:stsOk e.ans e.strs=true
 wait:∀f ∈ e.wait,frameOk f=true
 out:tableOk e.out e.outM=true
 inn:tableOk e.inn e.innM=true
 flow:flowOk e.send e.room=true
 came:e.came.length≤600
 len:e.wait.length≤N
theorem EnW.mono {N M:Nat} {e:En} (h:EnW N e) (hm:N≤M):EnW M e:=⟨h.sts,h.wait,h.out,h.inn,h.flow,h.came,Nat.le_trans h.len hm⟩
theorem endOk_iff {e:En}:endOk e=true↔EnW 60 e:=by
 simp only [endOk,Bool.and_eq_true,List.all_eq_true,decide_eq_true_eq]
 constructor
 ·rintro ⟨⟨⟨⟨⟨⟨h1,h2⟩,h3⟩,h4⟩,h5⟩,h6⟩,h7⟩; exact ⟨h1,h2,h3,h4,h5,h6,h7⟩
 ·rintro ⟨h1,h2,h3,h4,h5,h6,h7⟩; exact ⟨⟨⟨⟨⟨⟨h1,h2⟩,h3⟩,h4⟩,h5⟩,h6⟩,h7⟩
theorem EnW.setSt {N:Nat} {e:En} {k:Nat} {s:St} (h:EnW N e) (hk:k < e.strs.length) (hs:stOk s=true) (hid:s.id=(stAt e k).id):EnW N (setSt e k s) :=
 ⟨stsOk_set h.sts hk hs hid,h.wait,h.out,h.inn,h.flow,h.came,h.len⟩
theorem EnW.st {N:Nat} {e:En} {k:Nat} (h:EnW N e) (hk:k < e.strs.length):stOk (stAt e k)=true:=stsOk_at h.sts hk
theorem wordOk_iff {w:List UInt8}:wordOk w=true↔(∀c ∈ w,0≤signAt c)∧w.length≤16:=by simp [wordOk,List.all_eq_true]
theorem headOk_iff {h:List Fd}:headOk h=true↔(∀f ∈ h,fieldOk f=true)∧h.length≤6:=by simp [headOk,List.all_eq_true]
theorem EnW.withOut {N:Nat} {e:En} (h:EnW N e) {l:List Fd} (hl:tableOk l e.outM=true):EnW N { e with out:=l }:=⟨h.sts,h.wait,hl,h.inn,h.flow,h.came,h.len⟩
theorem mayM_le (e:En) (s:St):mayM e s≤(s.say.length:Int) - s.sent∧mayM e s≤s.send∧mayM e s≤e.send:=by
 unfold mayM; omega
theorem beginM_w {N:Nat} {e:En} {s:St} (h:EnW N e) (hs:stOk s=true):EnW N (beginM e s).1∧stOk (beginM e s).2.1=true∧(beginM e s).2.1.id=s.id∧(beginM e s).1.strs=e.strs:=by
 unfold beginM
 split
 ·exact ⟨h,hs,rfl,rfl⟩
 ·obtain ⟨a1,a2,a3,a4,a5,a6,a7,a8⟩:=stOk_iff.1 hs
  exact ⟨h.withOut (tableOk_headW _ _ _ h.out (headOk_parts a3).1),stOk_iff.2 ⟨a1,a2,a3,a4,a5,a6,a7,a8⟩,rfl,rfl⟩
theorem pieceM_w {N:Nat} {e:En} {s:St} (h:EnW N e) (hs:stOk s=true):EnW N (pieceM e s).1∧stOk (pieceM e s).2.1=true∧(pieceM e s).2.1.id=s.id∧(pieceM e s).1.strs=e.strs:=by
 unfold pieceM
 split
 ·rename_i hc
  obtain ⟨a1,a2,a3,a4,a5,a6,a7,a8⟩:=stOk_iff.1 hs
  obtain ⟨m1,m2,m3⟩:=mayM_le e s
  have hf:=flowOk_iff.1 h.flow
  have hg:=flowOk_iff.1 a8
  refine ⟨⟨h.sts,h.wait,h.out,h.inn,flowOk_iff.2 ⟨by simp only; omega,by simp only; omega,hf.2.2.1,hf.2.2.2⟩,h.came,h.len⟩,?_,rfl,rfl⟩
  exact stOk_iff.2 ⟨a1,a2,a3,a4,a5,a6,⟨by simp only; omega,by simp only; omega⟩,flowOk_iff.2 ⟨by simp only; omega,by simp only; omega,hg.2.2.1,hg.2.2.2⟩⟩
 ·exact ⟨h,hs,rfl,rfl⟩
theorem sayM_w {N:Nat} {e:En} {k:Nat} (h:EnW N e) (hk:k < e.strs.length):EnW N (sayM e k).1∧(sayM e k).1.strs.length=e.strs.length:=by
 unfold sayM
 simp only
 split
 ·exact ⟨h,rfl⟩
 ·have hs:=h.st hk
  obtain ⟨b1,b2,b3,b4⟩:=beginM_w h hs
  obtain ⟨c1,c2,c3,c4⟩:=pieceM_w b1 b2
  have hk2:k < (pieceM (beginM e (stAt e k)).1 (beginM e (stAt e k)).2.1).1.strs.length:=by rw [c4,b4]; exact hk
  refine ⟨c1.setSt hk2 ?_ ?_,by simp [setSt,c4,b4]⟩
  ·obtain ⟨a1,a2,a3,a4,a5,a6,a7,a8⟩:=stOk_iff.1 c2
   refine stOk_iff.2 ⟨a1,?_,a3,a4,a5,a6,a7,a8⟩
   simp only
   split
   ·exact ⟨by decide,by decide⟩
   ·exact a2
  ·have e1:stAt (pieceM (beginM e (stAt e k)).1 (beginM e (stAt e k)).2.1).1 k=stAt e k:=by
    show List.getD (pieceM _ _).1.strs k st0=_
    rw [c4,b4]
    rfl
   rw [e1]
   exact c3.trans b3
theorem roomM_w {N:Nat} {e:En} (h:EnW N e) (f:Fr):EnW N (roomM e f)∧(roomM e f).strs.length=e.strs.length∧(roomM e f).wait=e.wait:=by
 unfold roomM
 have hf:=flowOk_iff.1 h.flow
 split
 ·exact ⟨h,rfl,rfl⟩
 ·split
  ·exact ⟨⟨h.sts,h.wait,h.out,h.inn,flowOk_iff.2 ⟨hf.1,hf.2.1,by simp only; omega,by simp only; omega⟩,h.came,h.len⟩,rfl,rfl⟩
  ·split
   ·exact ⟨h,rfl,rfl⟩
   ·rename_i k hk
    obtain ⟨h1,h2⟩:=atM_some hk
    obtain ⟨a1,a2,a3,a4,a5,a6,a7,a8⟩:=stOk_iff.1 (h.st h1)
    have hg:=flowOk_iff.1 a8
    exact ⟨h.setSt h1 (stOk_iff.2 ⟨a1,a2,a3,a4,a5,a6,a7,flowOk_iff.2 ⟨hg.1,hg.2.1,by simp only; omega,by simp only; omega⟩⟩) rfl,by simp [setSt],rfl⟩
theorem waitM_w {N:Nat}:∀(l:List Fr) (e:En),EnW N e→EnW N (waitM e l).1∧(waitM e l).1.strs.length=e.strs.length∧(waitM e l).1.wait=e.wait
 | [],e,h=>⟨h,rfl,rfl⟩
 | f :: l,e,h=>by
  obtain ⟨r1,r2,r3⟩:=roomM_w h f
  obtain ⟨q1,q2,q3⟩:=waitM_w l _ r1
  exact ⟨q1,q2.trans r2,q3.trans r3⟩
theorem saysM_w {N:Nat}:∀(n k:Nat) (e:En),EnW N e→k+n≤e.strs.length→EnW N (saysM n k e).1∧(saysM n k e).1.strs.length=e.strs.length
 | 0,k,e,h,hk=>⟨h,rfl⟩
 | n+1,k,e,h,hk=>by
  obtain ⟨r1,r2⟩:=sayM_w h (k:=k) (by omega)
  obtain ⟨q1,q2⟩:=saysM_w n (k+1) _ r1 (by omega)
  exact ⟨q1,q2.trans r2⟩
theorem EnW.noWait {N:Nat} {e:En} (h:EnW N e):EnW 0 { e with wait:=[] }:=⟨h.sts,by simp,h.out,h.inn,h.flow,h.came,by simp⟩
theorem writeM_w {N:Nat} {e:En} (h:EnW N e):EnW 0 (writeM e).1:=by
 obtain ⟨r1,r2,_⟩:=waitM_w e.wait e h
 exact (saysM_w e.strs.length 0 _ r1.noWait (by simp [r2])).1
theorem EnW.bad {N:Nat} {e:En} (h:EnW N e):EnW N (badM e):=⟨h.sts,h.wait,h.out,h.inn,h.flow,h.came,h.len⟩
end
section
open Go
structure WoW (N:Nat) (w:Wo):Prop where
 caller:EnW N w.caller
 answerer:EnW N w.answerer
 calls:w.caller.ans=false
 answers:w.answerer.ans=true
 up:w.up.length≤800
 down:w.down.length≤800
theorem WoW.mono {N M:Nat} {w:Wo} (h:WoW N w) (hm:N≤M):WoW M w:=⟨h.caller.mono hm,h.answerer.mono hm,h.calls,h.answers,h.up,h.down⟩
end
section
open Go
theorem l12Stream_ok (n:Int) (S:List Blk):VCall Tryz.prog 72 [.int .i64 n] S fun r S'=>r=.bool (strmOk n)∧S'=S:=by
 refine VCall.en hD Tryz.func72 Tryz.ntmps72 Tryz.results72 ?_
 by_cases h:1≤n∧n≤7
 ·simp -implicitDefEqProofs (disch:=omega) only [push_cast,simprocAttr,↓gd]
  refine (l6In_t h S).to ?_
  simp -implicitDefEqProofs (disch:=omega) only [push_cast,simprocAttr,↓gd]
  exact fin0 (by simp [strmOk,h])
 ·simp -implicitDefEqProofs (disch:=omega) only [push_cast,simprocAttr,↓gd]
  refine (l6In_f h S).to ?_
  simp -implicitDefEqProofs (disch:=omega) only [push_cast,simprocAttr,↓gd]
  exact fin0 (by simp [strmOk]; omega)
theorem isStream_ok (n:Int) (S:List Blk):VCall Tryz.prog 52 [.int .i64 n] S fun r S'=>r=.bool (strmOk n)∧S'=S:=by
 refine VCall.en hD Tryz.func52 Tryz.ntmps52 Tryz.results52 ?_
 by_cases h:1≤n∧n≤7
 ·simp -implicitDefEqProofs (disch:=omega) only [push_cast,simprocAttr,↓gd]
  refine (in_t h S).to ?_
  simp -implicitDefEqProofs (disch:=omega) only [push_cast,simprocAttr,↓gd]
  exact fin0 (by simp [strmOk,h])
 ·simp -implicitDefEqProofs (disch:=omega) only [push_cast,simprocAttr,↓gd]
  refine (in_f h S).to ?_
  simp -implicitDefEqProofs (disch:=omega) only [push_cast,simprocAttr,↓gd]
  exact fin0 (by simp [strmOk]; omega)
theorem sFlowOk_ok (s r:Int) (S:List Blk):VCall Tryz.prog 44 [.agg [.int .i64 s,.int .i64 r]] S fun x S'=>x=.bool (flowOk s r)∧S'=S:=by
 refine VCall.en hD Tryz.func44 Tryz.ntmps44 Tryz.results44 ?_
 by_cases h:0≤s∧s≤31
 ·simp -implicitDefEqProofs (disch:=omega) only [push_cast,simprocAttr,↓gd]
  refine (l6In_t h _).to ?_
  simp -implicitDefEqProofs (disch:=omega) only [push_cast,simprocAttr,↓gd]
  refine (l6In_ok r 0 31 _).to ?_
  simp -implicitDefEqProofs (disch:=omega) only [push_cast,simprocAttr,↓gd]
  exact fin1 (.bool _) (by simp [flowOk,h])
 ·simp -implicitDefEqProofs (disch:=omega) only [push_cast,simprocAttr,↓gd]
  refine (l6In_f h _).to ?_
  simp -implicitDefEqProofs (disch:=omega) only [push_cast,simprocAttr,↓gd]
  exact fin1 (.bool _) (by simp [flowOk]; omega)
theorem FlowOk_ok (s r:Int) (S:List Blk):VCall Tryz.prog 58 [.agg [.int .i64 s,.int .i64 r]] S fun x S'=>x=.bool (flowOk s r)∧S'=S:=by
 refine VCall.en hD Tryz.func58 Tryz.ntmps58 Tryz.results58 ?_
 by_cases h:0≤s∧s≤31
 ·simp -implicitDefEqProofs (disch:=omega) only [push_cast,simprocAttr,↓gd]
  refine (in_t h _).to ?_
  simp -implicitDefEqProofs (disch:=omega) only [push_cast,simprocAttr,↓gd]
  refine (in_ok r 0 31 _).to ?_
  simp -implicitDefEqProofs (disch:=omega) only [push_cast,simprocAttr,↓gd]
  exact fin1 (.bool _) (by simp [flowOk,h])
 ·simp -implicitDefEqProofs (disch:=omega) only [push_cast,simprocAttr,↓gd]
  refine (in_f h _).to ?_
  simp -implicitDefEqProofs (disch:=omega) only [push_cast,simprocAttr,↓gd]
  exact fin1 (.bool _) (by simp [flowOk]; omega)
theorem sFrameOk_ok (f:Fr) (S:List Blk):VCall Tryz.prog 42 [frV f] S fun r S'=>r=.bool (frameOk f)∧S'=S:=by
 obtain ⟨k,l,s,b⟩:=f
 refine VCall.en hD Tryz.func42 Tryz.ntmps42 Tryz.results42 ?_
 by_cases k0:k=0
 ·subst k0
  simp -implicitDefEqProofs (disch:=omega) only [push_cast,simprocAttr,↓gd]
  refine (l12Stream_ok s _).to ?_
  cases hs:strmOk s
  ·simp -implicitDefEqProofs (disch:=omega) only [push_cast,simprocAttr,↓gd]
   exact fin1 (.bool _) (by simp [frameOk,hs])
  ·simp -implicitDefEqProofs (disch:=omega) only [push_cast,simprocAttr,↓gd]
   exact fin1 (.bool _) (by simp [frameOk,hs]; try omega)
 by_cases k1:k=1
 ·subst k1
  simp -implicitDefEqProofs (disch:=omega) only [push_cast,simprocAttr,↓gd]
  refine (l12Stream_ok s _).to ?_
  cases hs:strmOk s
  ·simp -implicitDefEqProofs (disch:=omega) only [push_cast,simprocAttr,↓gd]
   exact fin1 (.bool _) (by simp [frameOk,hs])
  ·simp -implicitDefEqProofs (disch:=omega) only [push_cast,simprocAttr,↓gd]
   exact fin1 (.bool _) (by simp [frameOk,hs]; try omega)
 by_cases k3:k=3
 ·subst k3
  simp -implicitDefEqProofs (disch:=omega) only [push_cast,simprocAttr,↓gd]
  refine (l12Stream_ok s _).to ?_
  cases hs:strmOk s
  ·simp -implicitDefEqProofs (disch:=omega) only [push_cast,simprocAttr,↓gd]
   exact fin1 (.bool _) (by simp [frameOk,hs])
  ·cases l
   ·simp -implicitDefEqProofs (disch:=omega) only [push_cast,simprocAttr,↓gd]
    exact fin1 (.bool _) (by simp [frameOk,hs])
   ·simp -implicitDefEqProofs (disch:=omega) only [push_cast,simprocAttr,↓gd]
    exact fin1 (.bool _) (by simp [frameOk,hs])
 by_cases k8:k=8
 ·subst k8
  have fin:∀X:List Blk,(s=0∨strmOk s=true)→l=false→b.length=1→∃r S2,Wk S (.bool (decide ((1:Int)≤((b.getD 0 0).toNat:Nat)) && decide (((b.getD 0 0).toNat:Int)≤31))) (S++X) r S2∧r=.bool (frameOk ⟨8,l,s,b⟩)∧S2=S:=by
   intro X h1 h2 h3
   refine fin1 (.bool _) ?_
   subst h2
   have e:(decide (s=0) || strmOk s)=true:=by simpa using h1
   have e2:frameOk ⟨8,false,s,b⟩=(decide (1≤(b.getD 0 0).toNat) && decide ((b.getD 0 0).toNat≤31)):=by
    simp only [frameOk]
    rw [if_neg (by decide),if_neg (by decide),if_pos trivial,e,h3]
    simp [byteAt]
   rw [e2]
   have e3:decide ((1:Int)≤((b.getD 0 0).toNat:Nat))=decide (1≤(b.getD 0 0).toNat):=decide_eq_decide.2 (by omega)
   have e4:decide (((b.getD 0 0).toNat:Int)≤31)=decide ((b.getD 0 0).toNat≤31):=decide_eq_decide.2 (by omega)
   rw [e3,e4]
  have hbt:=UInt8.toNat_lt (b.getD 0 0)
  by_cases hs0:s=0
  ·subst hs0
   cases l
   ·by_cases hb1:b.length=1
    ·simp -implicitDefEqProofs (disch:=omega) only [push_cast,simprocAttr,hb1,↓gd]
     refine (l6In_ok _ 1 31 _).to ?_
     simp -implicitDefEqProofs (disch:=omega) only [push_cast,simprocAttr,↓gd]
     exact fin _ (.inl rfl) rfl hb1
    ·have hb1':¬(b.length:Int)=1:=by omega
     simp -implicitDefEqProofs (disch:=omega) only [push_cast,simprocAttr,hb1',↓gd]
     exact fin1 (.bool _) (by simp [frameOk,hb1])
   ·simp -implicitDefEqProofs (disch:=omega) only [push_cast,simprocAttr,↓gd]
    exact fin1 (.bool _) (by simp [frameOk])
  ·simp -implicitDefEqProofs (disch:=omega) only [push_cast,simprocAttr,hs0,↓gd]
   refine (l12Stream_ok s _).to ?_
   cases hs:strmOk s
   ·simp -implicitDefEqProofs (disch:=omega) only [push_cast,simprocAttr,↓gd]
    exact fin1 (.bool _) (by simp [frameOk,hs,hs0])
   ·cases l
    ·by_cases hb1:b.length=1
     ·simp -implicitDefEqProofs (disch:=omega) only [push_cast,simprocAttr,hb1,↓gd]
      refine (l6In_ok _ 1 31 _).to ?_
      simp -implicitDefEqProofs (disch:=omega) only [push_cast,simprocAttr,↓gd]
      exact fin _ (.inr hs) rfl hb1
     ·have hb1':¬(b.length:Int)=1:=by omega
      simp -implicitDefEqProofs (disch:=omega) only [push_cast,simprocAttr,hb1',↓gd]
      exact fin1 (.bool _) (by simp [frameOk,hb1])
    ·simp -implicitDefEqProofs (disch:=omega) only [push_cast,simprocAttr,↓gd]
     exact fin1 (.bool _) (by simp [frameOk])
 ·simp -implicitDefEqProofs (disch:=omega) only [push_cast,simprocAttr,k0,k1,k3,k8,↓gd]
  exact fin1 (.bool _) (by simp [frameOk,k0,k1,k3,k8])
end
section
open Go
structure StB (s:St):Prop where
 head:FdsB s.head
 got:FdsB s.got
 say:s.say.length≤1100000
 text:s.text.length≤1100000
theorem headOk_b {h:List Fd} (hk:headOk h=true):FdsB h:=by
 obtain ⟨k1,k2⟩:=headOk_parts hk
 refine ⟨by omega,fun f hf=>?_⟩
 obtain ⟨_,_,_,q1,q2⟩:=fieldOk_parts (k1 f hf)
 exact ⟨by omega,by omega⟩
theorem tableOk_b {l:List Fd} {max:Int} (ht:tableOk l max=true):FdsB l:=by
 obtain ⟨t1,t2,t3,t4,t5⟩:=tableOk_parts ht
 refine ⟨by omega,fun f hf=>?_⟩
 obtain ⟨_,_,_,q1,q2⟩:=fieldOk_parts (t4 f hf).1
 exact ⟨by omega,by omega⟩
theorem stOk_b {s:St} (h:stOk s=true):StB s:=by
 obtain ⟨a1,a2,a3,a4,a5,a6,a7,a8⟩:=stOk_iff.1 h
 exact ⟨headOk_b a3,headOk_b a4,by have:=(wordOk_iff.1 a5).2; omega,by have:=(wordOk_iff.1 a6).2; omega⟩
theorem l21Stream_ok (s:St) (hs:StB s) (S:List Blk):VCall Tryz.prog 41 [stV s] S fun r S'=>r=.bool (stOk s)∧S'=S:=by
 obtain ⟨b1,b2,b3,b4⟩:=hs
 refine VCall.en hD Tryz.func41 Tryz.ntmps41 Tryz.results41 ?_
 simp -implicitDefEqProofs (disch:=omega) only [push_cast,simprocAttr,↓gd]
 refine (l12Stream_ok s.id _).to ?_
 cases h1:strmOk s.id
 ·simp -implicitDefEqProofs (disch:=omega) only [push_cast,simprocAttr,↓gd]
  exact fin1 (.bool _) (by simp [stOk,h1])
 simp -implicitDefEqProofs (disch:=omega) only [push_cast,simprocAttr,↓gd]
 refine (l6In_ok s.state 1 3 _).to ?_
 cases h2:(decide (1≤s.state) && decide (s.state≤3))
 ·simp -implicitDefEqProofs (disch:=omega) only [push_cast,simprocAttr,↓gd]
  exact fin1 (.bool _) (by simp [stOk,h2])
 simp -implicitDefEqProofs (disch:=omega) only [push_cast,simprocAttr,↓gd]
 refine (sHeadOk_ok s.head b1 _).to ?_
 cases h3:headOk s.head
 ·simp -implicitDefEqProofs (disch:=omega) only [push_cast,simprocAttr,↓gd]
  exact fin1 (.bool _) (by simp [stOk,h3])
 simp -implicitDefEqProofs (disch:=omega) only [push_cast,simprocAttr,↓gd]
 refine (sHeadOk_ok s.got b2 _).to ?_
 cases h4:headOk s.got
 ·simp -implicitDefEqProofs (disch:=omega) only [push_cast,simprocAttr,↓gd]
  exact fin1 (.bool _) (by simp [stOk,h4])
 simp -implicitDefEqProofs (disch:=omega) only [push_cast,simprocAttr,↓gd]
 refine (sWordOk_ok s.say (by omega) _).to ?_
 cases h5:wordOk s.say
 ·simp -implicitDefEqProofs (disch:=omega) only [push_cast,simprocAttr,↓gd]
  exact fin1 (.bool _) (by simp [stOk,h5])
 simp -implicitDefEqProofs (disch:=omega) only [push_cast,simprocAttr,↓gd]
 refine (sWordOk_ok s.text (by omega) _).to ?_
 cases h6:wordOk s.text
 ·simp -implicitDefEqProofs (disch:=omega) only [push_cast,simprocAttr,↓gd]
  exact fin1 (.bool _) (by simp [stOk,h6])
 simp -implicitDefEqProofs (disch:=omega) only [push_cast,simprocAttr,↓gd]
 refine (l6In_ok s.sent 0 s.say.length _).to ?_
 cases h7:(decide (0≤s.sent) && decide (s.sent≤(s.say.length:Int)))
 ·simp -implicitDefEqProofs (disch:=omega) only [push_cast,simprocAttr,↓gd]
  exact fin1 (.bool _) (by simp [stOk,h7])
 simp -implicitDefEqProofs (disch:=omega) only [push_cast,simprocAttr,↓gd]
 refine (sFlowOk_ok s.send s.room _).to ?_
 simp -implicitDefEqProofs (disch:=omega) only [push_cast,simprocAttr,↓gd]
 exact fin1 (.bool _) (by simp only [stOk,h1,h2,h3,h4,h5,h6,h7,Bool.true_and])
theorem streamOk_ok (s:St) (hs:StB s) (hid:strmOk s.id=true) (S:List Blk):VCall Tryz.prog 53 [stV s] S fun r S'=>r=.bool (stOk s)∧S'=S:=by
 obtain ⟨b1,b2,b3,b4⟩:=hs
 refine VCall.en hD Tryz.func53 Tryz.ntmps53 Tryz.results53 ?_
 simp -implicitDefEqProofs (disch:=omega) only [push_cast,simprocAttr,↓gd]
 refine (in_ok s.state 1 3 _).to ?_
 cases h2:(decide (1≤s.state) && decide (s.state≤3))
 ·simp -implicitDefEqProofs (disch:=omega) only [push_cast,simprocAttr,↓gd]
  exact fin1 (.bool _) (by simp [stOk,h2])
 simp -implicitDefEqProofs (disch:=omega) only [push_cast,simprocAttr,↓gd]
 refine (HeadOk_ok s.head b1 _).to ?_
 cases h3:headOk s.head
 ·simp -implicitDefEqProofs (disch:=omega) only [push_cast,simprocAttr,↓gd]
  exact fin1 (.bool _) (by simp [stOk,h3])
 simp -implicitDefEqProofs (disch:=omega) only [push_cast,simprocAttr,↓gd]
 refine (HeadOk_ok s.got b2 _).to ?_
 cases h4:headOk s.got
 ·simp -implicitDefEqProofs (disch:=omega) only [push_cast,simprocAttr,↓gd]
  exact fin1 (.bool _) (by simp [stOk,h4])
 simp -implicitDefEqProofs (disch:=omega) only [push_cast,simprocAttr,↓gd]
 refine (WordOk_ok s.say (by omega) _).to ?_
 cases h5:wordOk s.say
 ·simp -implicitDefEqProofs (disch:=omega) only [push_cast,simprocAttr,↓gd]
  exact fin1 (.bool _) (by simp [stOk,h5])
 simp -implicitDefEqProofs (disch:=omega) only [push_cast,simprocAttr,↓gd]
 refine (WordOk_ok s.text (by omega) _).to ?_
 cases h6:wordOk s.text
 ·simp -implicitDefEqProofs (disch:=omega) only [push_cast,simprocAttr,↓gd]
  exact fin1 (.bool _) (by simp [stOk,h6])
 simp -implicitDefEqProofs (disch:=omega) only [push_cast,simprocAttr,↓gd]
 refine (in_ok s.sent 0 s.say.length _).to ?_
 cases h7:(decide (0≤s.sent) && decide (s.sent≤(s.say.length:Int)))
 ·simp -implicitDefEqProofs (disch:=omega) only [push_cast,simprocAttr,↓gd]
  exact fin1 (.bool _) (by simp [stOk,h7])
 simp -implicitDefEqProofs (disch:=omega) only [push_cast,simprocAttr,↓gd]
 refine (FlowOk_ok s.send s.room _).to ?_
 simp -implicitDefEqProofs (disch:=omega) only [push_cast,simprocAttr,↓gd]
 exact fin1 (.bool _) (by simp only [stOk,hid,h2,h3,h4,h5,h6,h7,Bool.true_and])
end
section
open Go
theorem FrameOk_ok (f:Fr) (S:List Blk):VCall Tryz.prog 56 [frV f] S fun r S'=>r=.bool (frameOk f)∧S'=S:=by
 obtain ⟨k,l,s,b⟩:=f
 refine VCall.en hD Tryz.func56 Tryz.ntmps56 Tryz.results56 ?_
 by_cases k8:k=8
 ·subst k8
  have fin:∀X:List Blk,(s=0∨strmOk s=true)→l=false→b.length=1→∃r S2,Wk S (.bool (decide ((1:Int)≤((b.getD 0 0).toNat:Nat)) && decide (((b.getD 0 0).toNat:Int)≤31))) (S++X) r S2∧r=.bool (frameOk ⟨8,l,s,b⟩)∧S2=S:=by
   intro X h1 h2 h3
   refine fin1 (.bool _) ?_
   subst h2
   have e:(decide (s=0) || strmOk s)=true:=by simpa using h1
   have e2:frameOk ⟨8,false,s,b⟩=(decide (1≤(b.getD 0 0).toNat) && decide ((b.getD 0 0).toNat≤31)):=by
    simp only [frameOk]
    rw [if_neg (by decide),if_neg (by decide),if_pos trivial,e,h3]
    simp [byteAt]
   rw [e2]
   have e3:decide ((1:Int)≤((b.getD 0 0).toNat:Nat))=decide (1≤(b.getD 0 0).toNat):=decide_eq_decide.2 (by omega)
   have e4:decide (((b.getD 0 0).toNat:Int)≤31)=decide ((b.getD 0 0).toNat≤31):=decide_eq_decide.2 (by omega)
   rw [e3,e4]
  have hbt:=UInt8.toNat_lt (b.getD 0 0)
  by_cases hs0:s=0
  ·subst hs0
   cases l
   ·by_cases hb1:b.length=1
    ·simp -implicitDefEqProofs (disch:=omega) only [push_cast,simprocAttr,hb1,↓gd]
     refine (in_ok _ 1 31 _).to ?_
     simp -implicitDefEqProofs (disch:=omega) only [push_cast,simprocAttr,↓gd]
     exact fin _ (.inl rfl) rfl hb1
    ·have hb1':¬(b.length:Int)=1:=by omega
     simp -implicitDefEqProofs (disch:=omega) only [push_cast,simprocAttr,hb1',↓gd]
     exact fin1 (.bool _) (by simp [frameOk,hb1])
   ·simp -implicitDefEqProofs (disch:=omega) only [push_cast,simprocAttr,↓gd]
    exact fin1 (.bool _) (by simp [frameOk])
  ·simp -implicitDefEqProofs (disch:=omega) only [push_cast,simprocAttr,hs0,↓gd]
   refine (isStream_ok s _).to ?_
   cases hs:strmOk s
   ·simp -implicitDefEqProofs (disch:=omega) only [push_cast,simprocAttr,↓gd]
    exact fin1 (.bool _) (by simp [frameOk,hs,hs0])
   ·cases l
    ·by_cases hb1:b.length=1
     ·simp -implicitDefEqProofs (disch:=omega) only [push_cast,simprocAttr,hb1,↓gd]
      refine (in_ok _ 1 31 _).to ?_
      simp -implicitDefEqProofs (disch:=omega) only [push_cast,simprocAttr,↓gd]
      exact fin _ (.inr hs) rfl hb1
     ·have hb1':¬(b.length:Int)=1:=by omega
      simp -implicitDefEqProofs (disch:=omega) only [push_cast,simprocAttr,hb1',↓gd]
      exact fin1 (.bool _) (by simp [frameOk,hb1])
    ·simp -implicitDefEqProofs (disch:=omega) only [push_cast,simprocAttr,↓gd]
     exact fin1 (.bool _) (by simp [frameOk])
 simp -implicitDefEqProofs (disch:=omega) only [push_cast,simprocAttr,k8,↓gd]
 refine (isStream_ok s _).to ?_
 cases hs:strmOk s
 ·simp -implicitDefEqProofs (disch:=omega) only [push_cast,simprocAttr,↓gd]
  exact fin1 (.bool _) (by simp [frameOk,hs,k8])
 by_cases k0:k=0
 ·subst k0
  simp -implicitDefEqProofs (disch:=omega) only [push_cast,simprocAttr,↓gd]
  exact fin1 (.bool _) (by simp [frameOk,hs]; try omega)
 by_cases k1:k=1
 ·subst k1
  simp -implicitDefEqProofs (disch:=omega) only [push_cast,simprocAttr,↓gd]
  exact fin1 (.bool _) (by simp [frameOk,hs]; try omega)
 by_cases k3:k=3
 ·subst k3
  by_cases hb:b=[]
  ·subst hb
   simp -implicitDefEqProofs (disch:=omega) only [push_cast,simprocAttr,↓gd]
   exact fin1 (.bool _) (by simp [frameOk,hs])
  ·simp -implicitDefEqProofs (disch:=omega) only [push_cast,simprocAttr,hb,↓gd]
   exact fin1 (.bool _) (by simp [frameOk,hs,hb])
 ·simp -implicitDefEqProofs (disch:=omega) only [push_cast,simprocAttr,k0,k1,k3,↓gd]
  exact fin1 (.bool _) (by simp [frameOk,k0,k1,k3,k8])
theorem l12Write_ok (f:Fr) (hk:0≤f.kind) (hs:0≤f.stream) (hb:f.body.length≤1100000) (S:List Blk):VCall Tryz.prog 47 [frV f] S fun r S'=>r=.str (frW f)∧S'=S:=by
 obtain ⟨k,l,s,b⟩:=f
 obtain ⟨k,rfl⟩:∃n:Nat,k=n:=⟨k.toNat,(Int.toNat_of_nonneg hk).symm⟩
 obtain ⟨s,rfl⟩:∃n:Nat,s=n:=⟨s.toNat,(Int.toNat_of_nonneg hs).symm⟩
 simp only at hb
 refine VCall.ex hD (fun _=>false) (fun id=>if id=4 then [3,3,3,6,6,6,9,19,9,13,19,13,13,19,19,19,19,19,19] else []) Tryz.func47 Tryz.ntmps47 Tryz.results47 ?_
 cases l
 ·simp -implicitDefEqProofs (disch:=omega) only [push_cast,simprocAttr,↓gd]
  refine (l1Byte_ok b.length _).to ?_
  simp -implicitDefEqProofs (disch:=omega) only [push_cast,simprocAttr,↓gd]
  refine (l1Byte_ok k _).to ?_
  simp -implicitDefEqProofs (disch:=omega) only [push_cast,simprocAttr,↓gd]
  refine ((l1Byte_ok 0 _).as rfl).to ?_
  simp -implicitDefEqProofs (disch:=omega) only [push_cast,simprocAttr,↓gd]
  refine (l1Byte_ok s _).to ?_
  simp -implicitDefEqProofs (disch:=omega) only [push_cast,simprocAttr,↓gd]
  exact ⟨by omega,fin1 (.str _) rfl⟩
 ·simp -implicitDefEqProofs (disch:=omega) only [push_cast,simprocAttr,↓gd]
  refine (l1Byte_ok b.length _).to ?_
  simp -implicitDefEqProofs (disch:=omega) only [push_cast,simprocAttr,↓gd]
  refine (l1Byte_ok k _).to ?_
  simp -implicitDefEqProofs (disch:=omega) only [push_cast,simprocAttr,↓gd]
  refine ((l1Byte_ok 1 _).as rfl).to ?_
  simp -implicitDefEqProofs (disch:=omega) only [push_cast,simprocAttr,↓gd]
  refine (l1Byte_ok s _).to ?_
  simp -implicitDefEqProofs (disch:=omega) only [push_cast,simprocAttr,↓gd]
  exact ⟨by omega,fin1 (.str _) rfl⟩
end
section
open Go
theorem bytes_ok (f:Fr) (hk:0≤f.kind) (hs:0≤f.stream) (hb:f.body.length≤1100000) (S:List Blk):VCall Tryz.prog 62 [frV f] S fun r S'=>r=.str (frW f)∧S'=S:=by
 obtain ⟨k,l,s,b⟩:=f
 obtain ⟨k,rfl⟩:∃n:Nat,k=n:=⟨k.toNat,(Int.toNat_of_nonneg hk).symm⟩
 obtain ⟨s,rfl⟩:∃n:Nat,s=n:=⟨s.toNat,(Int.toNat_of_nonneg hs).symm⟩
 simp only at hb
 have e:∀n:Nat,UInt8.ofNat (IntKind.u8.wrap (n:Int)).toNat=by8 n:=fun n=>by rw [byte_wrap,byInt]
 refine VCall.en hD Tryz.func62 Tryz.ntmps62 Tryz.results62 ?_
 cases l
 ·simp -implicitDefEqProofs (disch:=omega) only [push_cast,simprocAttr,e,↓gd]
  exact ⟨by omega,fin1 (.str _) rfl⟩
 ·simp -implicitDefEqProofs (disch:=omega) only [push_cast,simprocAttr,e,↓gd]
  exact ⟨by omega,fin1 (.str _) rfl⟩
theorem frameOk_nat {f:Fr} (h:frameOk f=true):0≤f.kind∧0≤f.stream∧f.body.length≤200:=by
 unfold frameOk at h
 split at h
 ·rename_i hk
  simp only [Bool.and_eq_true,decide_eq_true_eq] at h
  have:=strmOk_iff.1 h.1
  omega
 ·split at h
  ·rename_i hk
   simp only [Bool.and_eq_true,decide_eq_true_eq] at h
   have:=strmOk_iff.1 h.1.1
   rw [h.2]
   simp
   omega
  ·split at h
   ·simp only [Bool.and_eq_true,Bool.or_eq_true,decide_eq_true_eq] at h
    obtain ⟨⟨⟨⟨h1,h2⟩,h3⟩,h4⟩,h5⟩:=h
    refine ⟨by omega,?_,by omega⟩
    rcases h1 with h1 | h1
    ·omega
    ·have:=strmOk_iff.1 h1; omega
   ·cases h
theorem FrameWrite_ok (f:Fr) (S:List Blk):VCall Tryz.prog 24 [frV f] S fun r S'=>r=.str (if frameOk f then frW f else [])∧S'=S:=by
 refine VCall.en hD Tryz.func24 Tryz.ntmps24 Tryz.results24 ?_
 simp -implicitDefEqProofs (disch:=omega) only [push_cast,simprocAttr,↓gd]
 refine ((FrameOk_ok f _).as rfl).to ?_
 cases h:frameOk f
 ·simp -implicitDefEqProofs (disch:=omega) only [push_cast,simprocAttr,↓gd]
  exact fin1 (.str _) rfl
 ·obtain ⟨h1,h2,h3⟩:=frameOk_nat h
  simp -implicitDefEqProofs (disch:=omega) only [push_cast,simprocAttr,↓gd]
  refine ((bytes_ok f h1 h2 (by omega) _).as rfl).to ?_
  simp -implicitDefEqProofs (disch:=omega) only [push_cast,simprocAttr,↓gd]
  exact fin1 (.str _) rfl
end
section
open Go
def HSa (sz:Nat) (cs:List V) (n:Nat) (S:List Blk) (v:V):Prop:=(∃b,v=.heap b n∧S[b]?=some (.cells sz cs))∨(n=0∧cs=[]∧v=.rows none [])
theorem HSa.one {sz n:Nat} {cs:List V} {S:List Blk} {v:V} (h:HSa sz cs n S v):V.one v=true:=by
 rcases h with ⟨b,rfl,_⟩ | ⟨_,_,rfl⟩ <;> rfl
theorem HSa.len {sz n:Nat} {cs:List V} {S:List Blk} {v:V} (h:HSa sz cs n S v) {D:Nat→TD} {t e:Nat} (ht:(D t).k=.slc e) (k:V→Prop):evLen D t v k=k (.int .i64 n):=by
 rcases h with ⟨b,rfl,_⟩ | ⟨rfl,_,rfl⟩
 ·simp only [evLen,ht]; simp
 ·simp only [evLen,ht]; simp
theorem HSa.heap {sz n:Nat} {cs:List V} {S:List Blk} {v:V} (h:HSa sz cs n S v) (hn:0 < n):∃b,v=.heap b n∧S[b]?=some (.cells sz cs):=by
 rcases h with h | ⟨h,_⟩
 ·exact h
 ·omega
theorem HSa.upd {sz n:Nat} {cs:List V} {S S':List Blk} {v:V} (h:HSa sz cs n S v) (hu:Upd [] S S'):HSa sz cs n S' v:=by
 rcases h with ⟨b,h1,h2⟩ | h
 ·exact .inl ⟨b,h1,hu.get h2 (by simp)⟩
 ·exact .inr h
theorem strsC_get {l:List St} {i:Nat} (h:i < l.length) {c:Nat} (hc:c < 12):(strsC l)[i * 12+c]?=(strC (l.getD i st0))[c]?:=by
 rw [←strsC_at h,List.getElem?_take,if_pos hc,List.getElem?_drop]
theorem strsC_id {l:List St} {i:Nat} (h:i < l.length):(strsC l)[i * 12]?=some (.int .i64 (l.getD i st0).id):=strsC_get h (c:=0) (by decide)
structure EnB (e:En):Prop where
 sts:∀s ∈ e.strs,StB s
 len:e.strs.length≤1100000
 wait:e.wait.length≤1100000
 out:FdsB e.out
 inn:FdsB e.inn
 came:e.came.length≤1100000
theorem getD_memS {l:List St} {i:Nat} (h:i < l.length):l.getD i st0 ∈ l:=by rw [getD_lt st0 h]; exact List.getElem_mem h
theorem getD_memF {l:List Fr} {i:Nat} (h:i < l.length):l.getD i fr0 ∈ l:=by rw [getD_lt fr0 h]; exact List.getElem_mem h
theorem EnW.b {N:Nat} {e:En} (h:EnW N e) (hN:N≤1100000):EnB e:=by
 refine ⟨fun s hs=>?_,by have:=stsOk_len h.sts; omega,by have:=h.len; omega,tableOk_b h.out,tableOk_b h.inn,by have:=h.came; omega⟩
 obtain ⟨i,hi,rfl⟩:=List.getElem_of_mem hs
 have:=stsOk_at h.sts hi
 rw [getD_lt st0 hi] at this
 exact stOk_b this
theorem endOk_bad {e:En} {i:Nat} (hi:i < e.strs.length) (h:okAt e.ans e.strs i=false):endOk e=false:=by
 rw [Bool.eq_false_iff]
 intro q
 have:=(endOk_iff.1 q).sts
 rw [stsOk,List.all_eq_true] at this
 have:=this i (List.mem_range.2 hi)
 rw [h] at this
 cases this
theorem sEndOk_ok (e:En) (he:EnB e) (v w:V) (S:List Blk) (hv:HSa 12 (strsC e.strs) e.strs.length S v) (hw:HSa 4 (frmsC e.wait) e.wait.length S w) :
  VCall Tryz.prog 14 [enV v w e] S fun r S'=>r=.bool (endOk e)∧S'=S:=by
 have v1:=hv.one
 have w1:=hw.one
 have hvl:∀k,evLen D 35 v k=k (.int .i64 e.strs.length):=hv.len rfl
 have hwl:∀k,evLen D 37 w k=k (.int .i64 e.wait.length):=hw.len rfl
 have hel:=he.len
 have hwn:=he.wait
 refine VCall.ex hD (fun _=>false) (fun id=>if id=4 then [5,5,5,5,5,44,44,44,44,44,44,44,44,44,44,44,44,44,44,44,44,44,44,44,44,44,44,44,44,44,44,44,44,44,44,44,44,44,44,44,44,44,44,44] else []) Tryz.func14 Tryz.ntmps14 Tryz.results14 ?_
 simp -implicitDefEqProofs (maxSteps:=1000000) (disch:=omega) only [push_cast,simprocAttr,v1,w1,↓gd]
 refine wpV_loop (fun m t S'=>∃i:Nat,m=e.strs.length - i∧i≤e.strs.length∧(∀j,j < i→okAt e.ans e.strs j=true)∧t 1=.ptr S.length 0∧t 3=.int .i64 i∧S'=S++[.cells 0 (enC v w e)]) e.strs.length ⟨0,by omega,by omega,by omega,rfl,rfl,rfl⟩ ?_
 rintro m t S' ⟨i,rfl,hi,hok,h1,h3,rfl⟩
 refine wpV_of hD (fun _=>false) (fun id=>if id=4 then [5,5,5,5,5,44,44,44,44,44,44,44,44,44,44,44,44,44,44,44,44,44,44,44,44,44,44,44,44,44,44,44,44,44,44,44,44,44,44,44,44,44,44,44] else []) (by kernel_rfl) ?_
 simp -implicitDefEqProofs (maxSteps:=1000000) (disch:=omega) only [push_cast,simprocAttr,h1,h3,hvl,↓gd]
 refine ⟨fun h=>?_,fun h=>?_⟩
 ·have hil:i < e.strs.length:=by omega
  obtain ⟨b,rfl,hb⟩:=hv.heap (by omega)
  have hbl:=lt_of_some hb
  have hb2:∀X,(S++X)[b]?=some (.cells 12 (strsC e.strs)):=fun X=>by rw [List.getElem?_append_left hbl]; exact hb
  have hlen:=strsC_len e.strs
  have hat:=strsC_at hil
  have hid:=strsC_id hil
  have hsb:=he.sts _ (getD_memS hil)
  simp -implicitDefEqProofs (maxSteps:=1000000) (disch:=omega) only [push_cast,simprocAttr,h1,h3,hb2,hat,hid,↓gd]
  have bad:okAt e.ans e.strs i=false→endOk e=false:=fun q=>endOk_bad hil q
  have hx:okAt e.ans e.strs i=(stOk (e.strs.getD i st0) && (decide (i=0) || decide ((e.strs.getD (i - 1) st0).id < (e.strs.getD i st0).id)) && (e.ans || decide ((e.strs.getD i st0).id=2 * i+1))):=rfl
  have hid':∀_:0 < i,(strsC e.strs)[(i - 1) * 12]?=some (.int .i64 (e.strs.getD (i - 1) st0).id):=fun q=>strsC_id (l:=e.strs) (i:=i - 1) (by omega)
  generalize e.strs.getD i st0=s at hat hid hsb hx
  generalize e.strs.getD (i - 1) st0=p at hid' hx
  refine ⟨by omega,by omega,by omega,((l21Stream_ok s hsb _).as rfl).to ?_⟩
  cases hs:stOk s
  ·simp -implicitDefEqProofs (maxSteps:=1000000) (disch:=omega) only [push_cast,simprocAttr,↓gd]
   exact fin1 (.bool _) (by rw [bad (by rw [hx,hs]; rfl)])
  rw [hs,Bool.true_and] at hx
  have next:okAt e.ans e.strs i=true→∃m',m' < e.strs.length - i∧∃i':Nat,m'=e.strs.length - i'∧i'≤e.strs.length∧(∀j,j < i'→okAt e.ans e.strs j=true)∧V.int .i64 ((i:Int)+1)=.int .i64 (i':Nat):=fun q =>
   ⟨e.strs.length - (i+1),by omega,i+1,rfl,by omega,fun j hj=>by
    by_cases ej:j=i
    ·rw [ej]; exact q
    ·exact hok j (by omega),rfl⟩
  by_cases h0:i=0
  ·have hip:¬0 < (i:Int):=by omega
   cases ha:e.ans
   ·by_cases h1d:s.id=2 * (i:Int)+1
    ·have hd:=eq_true h1d
     simp -implicitDefEqProofs (maxSteps:=1000000) (disch:=omega) only [push_cast,simprocAttr,h1,h3,hb2,hat,hid,hip,hd,↓gd]
     exact ⟨by omega,by omega,ha ▸ next (by rw [hx,ha,decide_eq_true h1d,decide_eq_true h0]; rfl)⟩
    ·simp -implicitDefEqProofs (maxSteps:=1000000) (disch:=omega) only [push_cast,simprocAttr,h1,h3,hb2,hat,hid,hip,h1d,↓gd]
     exact ⟨by omega,by omega,fin1 (.bool _) (by rw [bad (by rw [hx,ha,decide_eq_false h1d]; simp)])⟩
   ·simp -implicitDefEqProofs (maxSteps:=1000000) (disch:=omega) only [push_cast,simprocAttr,h1,h3,hb2,hat,hid,hip,↓gd]
    exact ha ▸ next (by rw [hx,ha,h0]; rfl)
  ·have hip:0 < (i:Int):=by omega
   have hi0:((i:Int) - 1).toNat=i - 1:=by omega
   have hid':=hid' (by omega)
   by_cases hlt:s.id≤p.id
   ·simp -implicitDefEqProofs (maxSteps:=1000000) (disch:=omega) only [push_cast,simprocAttr,h1,h3,hb2,hat,hid,hip,hid',hi0,hlt,↓gd]
    exact ⟨by omega,by omega,by omega,by omega,fin1 (.bool _) (by rw [bad (by rw [hx,decide_eq_false h0,decide_eq_false (by omega:¬p.id < s.id)]; simp)])⟩
   ·cases ha:e.ans
    ·by_cases h1d:s.id=2 * (i:Int)+1
     ·have hd:=eq_true h1d
      simp -implicitDefEqProofs (maxSteps:=1000000) (disch:=omega) only [push_cast,simprocAttr,h1,h3,hb2,hat,hid,hid',hi0,hip,hlt,hd,↓gd]
      exact ⟨by omega,by omega,by omega,by omega,by omega,by omega,ha ▸ next (by rw [hx,ha,decide_eq_true h1d,decide_eq_true (by omega:p.id < s.id)]; simp)⟩
     ·simp -implicitDefEqProofs (maxSteps:=1000000) (disch:=omega) only [push_cast,simprocAttr,h1,h3,hb2,hat,hid,hid',hi0,hip,hlt,h1d,↓gd]
      exact ⟨by omega,by omega,by omega,by omega,by omega,by omega,fin1 (.bool _) (by rw [bad (by rw [hx,ha,decide_eq_false h1d]; simp)])⟩
    ·simp -implicitDefEqProofs (maxSteps:=1000000) (disch:=omega) only [push_cast,simprocAttr,h1,h3,hb2,hat,hid,hid',hi0,hip,hlt,↓gd]
     exact ⟨by omega,by omega,by omega,by omega,ha ▸ next (by rw [hx,ha,decide_eq_true (by omega:p.id < s.id)]; simp)⟩
 ·have:i=e.strs.length:=by omega
  subst this
  have hsts:stsOk e.ans e.strs=true:=by rw [stsOk,List.all_eq_true]; exact fun j hj=>hok j (List.mem_range.1 hj)
  refine wpV_loop (fun m t S'=>∃i:Nat,m=e.wait.length - i∧i≤e.wait.length∧(∀j,j < i→frameOk (e.wait.getD j fr0)=true)∧t 1=.ptr S.length 0∧t 4=.int .i64 i∧S'=S++[.cells 0 (enC v w e)]) e.wait.length ⟨0,by omega,by omega,by omega,h1,rfl,rfl⟩ ?_
  rintro m t S' ⟨i,rfl,hi,hwk,h1,h4,rfl⟩
  refine wpV_of0 hD ?_
  simp -implicitDefEqProofs (maxSteps:=1000000) (disch:=omega) only [push_cast,simprocAttr,h1,h4,hwl,↓gd]
  refine ⟨fun h=>?_,fun h=>?_⟩
  ·have hil:i < e.wait.length:=by omega
   obtain ⟨b,rfl,hb⟩:=hw.heap (by omega)
   have hbl:=lt_of_some hb
   have hb2:∀X,(S++X)[b]?=some (.cells 4 (frmsC e.wait)):=fun X=>by rw [List.getElem?_append_left hbl]; exact hb
   have hlen:=frmsC_len e.wait
   have hat:=frmsC_at hil
   simp -implicitDefEqProofs (maxSteps:=1000000) (disch:=omega) only [push_cast,simprocAttr,h1,h4,hb2,hat,↓gd]
   refine ⟨by omega,by omega,by omega,((sFrameOk_ok (e.wait.getD i fr0) _).as rfl).to ?_⟩
   cases hf:frameOk (e.wait.getD i fr0)
   ·simp -implicitDefEqProofs (maxSteps:=1000000) (disch:=omega) only [push_cast,simprocAttr,↓gd]
    refine fin1 (.bool _) ?_
    have:endOk e=false:=by
     rw [Bool.eq_false_iff]
     intro q
     have:=(endOk_iff.1 q).wait _ (getD_memF hil)
     rw [hf] at this; cases this
    rw [this]
   ·simp -implicitDefEqProofs (maxSteps:=1000000) (disch:=omega) only [push_cast,simprocAttr,h1,h4,↓gd]
    exact ⟨e.wait.length - (i+1),by omega,i+1,rfl,by omega,fun j hj=>by
     by_cases ej:j=i
     ·rw [ej]; exact hf
     ·exact hwk j (by omega),rfl⟩
  ·have:i=e.wait.length:=by omega
   subst this
   have hwa:e.wait.all frameOk=true:=by
    rw [List.all_eq_true]
    intro f hf
    obtain ⟨j,hj,rfl⟩:=List.getElem_of_mem hf
    have:=hwk j hj
    rwa [getD_lt fr0 hj] at this
   have hE:endOk e=(tableOk e.out e.outM && tableOk e.inn e.innM && flowOk e.send e.room && decide (e.came.length≤600) && decide (e.wait.length≤60)):=by
    simp only [endOk,hsts,hwa,Bool.true_and]
   refine ((sTableOk_ok e.out e.outM he.out _).as rfl).to ?_
   cases ht1:tableOk e.out e.outM
   ·simp -implicitDefEqProofs (maxSteps:=1000000) (disch:=omega) only [push_cast,simprocAttr,↓gd]
    exact fin1 (.bool _) (by rw [hE,ht1]; rfl)
   simp -implicitDefEqProofs (maxSteps:=1000000) (disch:=omega) only [push_cast,simprocAttr,h1,↓gd]
   refine ((sTableOk_ok e.inn e.innM he.inn _).as rfl).to ?_
   cases ht2:tableOk e.inn e.innM
   ·simp -implicitDefEqProofs (maxSteps:=1000000) (disch:=omega) only [push_cast,simprocAttr,↓gd]
    exact fin1 (.bool _) (by rw [hE,ht1,ht2]; rfl)
   simp -implicitDefEqProofs (maxSteps:=1000000) (disch:=omega) only [push_cast,simprocAttr,h1,↓gd]
   refine ((sFlowOk_ok e.send e.room _).as rfl).to ?_
   cases ht3:flowOk e.send e.room
   ·simp -implicitDefEqProofs (maxSteps:=1000000) (disch:=omega) only [push_cast,simprocAttr,↓gd]
    exact fin1 (.bool _) (by rw [hE,ht1,ht2,ht3]; rfl)
   by_cases hc:e.came.length≤600
   ·have hc':(e.came.length:Int)≤600:=by omega
    simp -implicitDefEqProofs (maxSteps:=1000000) (disch:=omega) only [push_cast,simprocAttr,h1,hc',hwl,↓gd]
    exact fin1 (.bool _) (by rw [hE,ht1,ht2,ht3]; simp [hc]; omega)
   ·have hc':¬(e.came.length:Int)≤600:=by omega
    simp -implicitDefEqProofs (maxSteps:=1000000) (disch:=omega) only [push_cast,simprocAttr,h1,hc',↓gd]
    exact fin1 (.bool _) (by rw [hE,ht1,ht2,ht3]; simp [hc])
end
end Go.Proofs.YtldogccmhncnoaaGreat
