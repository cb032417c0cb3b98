/- A part of the proof: contracts of functions, or plain facts on which these lean. -/
import Derived.Test.YtldogccmhncnoaaGreatDoorMi16
import Derived.Test.YtldogccmhncnoaaGreatDoorMi19
namespace Go.Proofs.YtldogccmhncnoaaGreatDoor
open Go
set_option linter.unusedVariables false
set_option linter.unusedSimpArgs false
set_option maxRecDepth 100000
set_option maxHeartbeats 16000000

section
open Go
theorem frR_some {b:List UInt8} (h:0 < (frR b).2.2):frameOk (frR b).1=true∧4≤(frR b).2.1∧(frR b).2.1≤b.length∧(frR b).2.2=1:=by
 unfold frR at h ⊢
 split
 ·rename_i h1; rw [if_pos h1] at h; exact absurd h (by decide)
 ·rename_i h1
  rw [if_neg h1] at h
  split
  ·rename_i h2; rw [if_pos h2] at h; exact absurd h (by decide)
  ·rename_i h2
   rw [if_neg h2] at h
   split
   ·rename_i h3; rw [if_pos h3] at h; exact absurd h (by decide)
   ·rename_i h3
    rw [if_neg h3] at h
    split
    ·rename_i h4
     exact ⟨h4,by simp only; omega,by simp only; omega,rfl⟩
    ·rename_i h4; rw [if_neg h4] at h; exact absurd h (by decide)
theorem EnW.withCame {N:Nat} {e:En} (h:EnW N e) {c:List UInt8} (hc:c.length≤600):EnW N { e with came:=c }:=⟨h.sts,h.wait,h.out,h.inn,h.flow,hc,h.len⟩
theorem hearsM_w:∀(n N:Nat) (e:En),EnW N e→EnW (N+2 * n) (hearsM n e)
 | 0,N,e,h=>h
 | n+1,N,e,h=>by
  rw [hearsM]
  split
  ·exact h.mono (by omega)
  ·simp only
   split
   ·exact h.bad.mono (by omega)
   ·split
    ·exact h.mono (by omega)
    ·rename_i h1 h2
     obtain ⟨r1,r2,r3,r4⟩:=frR_some (b:=e.came) (by omega)
     have hc:=h.came
     have hw:=frameM_w (h.withCame (c:=e.came.drop (frR e.came).2.1) (by rw [List.length_drop]; omega)) r1
     exact (hearsM_w n (N+2) _ hw).mono (by omega)
theorem hearM_w {N:Nat} {e:En} (h:EnW N e) {b:List UInt8} (hb:e.came.length+b.length≤300):EnW (N+602) (hearM e b):=by
 have hw:=hearsM_w (e.came.length+b.length+1) N _ (h.withCame (c:=e.came++b) (by rw [List.length_append]; omega))
 exact hw.mono (by omega)
theorem frameM_came (e:En) (f:Fr):(frameM e f).came=e.came:=by
 have hg:(growM e f.stream).came=e.came:=by unfold growM; split <;> rfl
 unfold frameM
 split
 ·unfold headFM
  simp only
  split
  ·split
   ·exact hg
   ·exact hg
  ·exact hg
 ·split
  ·unfold dataM
   split
   ·rfl
   ·simp only
    split <;> rfl
  ·split
   ·unfold moreM
    split
    ·rfl
    ·split <;> rfl
   ·split
    ·rfl
    ·split <;> rfl
theorem frameM_ans (e:En) (f:Fr):(frameM e f).ans=e.ans:=by
 have hg:(growM e f.stream).ans=e.ans:=by unfold growM; split <;> rfl
 unfold frameM
 split
 ·unfold headFM
  simp only
  split
  ·split
   ·exact hg
   ·exact hg
  ·exact hg
 ·split
  ·unfold dataM
   split
   ·rfl
   ·simp only
    split <;> rfl
  ·split
   ·unfold moreM
    split
    ·rfl
    ·split <;> rfl
   ·split
    ·rfl
    ·split <;> rfl
theorem hearsM_ans:∀(n:Nat) (e:En),(hearsM n e).ans=e.ans
 | 0,e=>rfl
 | n+1,e=>by
  rw [hearsM]
  split
  ·rfl
  ·simp only
   split
   ·rfl
   ·split
    ·rfl
    ·rw [hearsM_ans n,frameM_ans]
theorem hearM_ans (e:En) (b:List UInt8):(hearM e b).ans=e.ans:=hearsM_ans _ _
theorem callM_ans (e:En) (p t:List UInt8):(callM e p t).1.ans=e.ans:=by unfold callM; split <;> rfl
theorem leaveM_ans (e:En) (id:Int):(leaveM e id).1.ans=e.ans:=by
 unfold leaveM
 split
 ·rfl
 ·split <;> rfl
theorem beginM_ans (e:En) (s:St):(beginM e s).1.ans=e.ans:=by unfold beginM; split <;> rfl
theorem pieceM_ans (e:En) (s:St):(pieceM e s).1.ans=e.ans:=by unfold pieceM; split <;> rfl
theorem sayM_ans (e:En) (k:Nat):(sayM e k).1.ans=e.ans:=by
 unfold sayM
 simp only
 split
 ·rfl
 ·exact (pieceM_ans _ _).trans (beginM_ans _ _)
theorem saysM_ans:∀(n k:Nat) (e:En),(saysM n k e).1.ans=e.ans
 | 0,k,e=>rfl
 | n+1,k,e=>(saysM_ans n (k+1) _).trans (sayM_ans e k)
theorem roomM_ans (e:En) (f:Fr):(roomM e f).ans=e.ans:=by
 unfold roomM
 split
 ·rfl
 ·split
  ·rfl
  ·split <;> rfl
theorem waitM_ans:∀(l:List Fr) (e:En),(waitM e l).1.ans=e.ans
 | [],e=>rfl
 | f :: l,e=>(waitM_ans l _).trans (roomM_ans e f)
theorem writeM_ans (e:En):(writeM e).1.ans=e.ans:=(saysM_ans _ _ _).trans (waitM_ans e.wait e)
structure WoW (N:Nat) (w:Wo):Prop where
 caller:EnW N w.caller
 answerer:EnW N w.answerer
 calls:w.caller.ans=false
 answers:w.answerer.ans=true
 up:w.up.length≤800
 down:w.down.length≤800
theorem WoW.mono {N M:Nat} {w:Wo} (h:WoW N w) (hm:N≤M):WoW M w:=⟨h.caller.mono hm,h.answerer.mono hm,h.calls,h.answers,h.up,h.down⟩
theorem woOk_iff {w:Wo}:woOk w=true↔WoW 60 w:=by
 simp only [woOk,Bool.and_eq_true,decide_eq_true_eq,Bool.not_eq_true',endOk_iff]
 constructor
 ·rintro ⟨⟨⟨⟨⟨h1,h2⟩,h3⟩,h4⟩,h5⟩,h6⟩; exact ⟨h1,h2,h3,h4,h5,h6⟩
 ·rintro ⟨h1,h2,h3,h4,h5,h6⟩; exact ⟨⟨⟨⟨⟨h1,h2⟩,h3⟩,h4⟩,h5⟩,h6⟩
theorem newEn_w (a:Bool):EnW 0 (newEn a):=⟨rfl,by simp [newEn],rfl,rfl,rfl,by simp [newEn],by simp [newEn]⟩
theorem newWo_w:WoW 0 newWo:=⟨newEn_w _,newEn_w _,rfl,rfl,by simp [newWo],by simp [newWo]⟩
theorem hearWM_w {N:Nat} {e:En} (h:EnW N e) (hN:642≤N) (b:List UInt8):EnW N (hearWM e b)∧(hearWM e b).ans=e.ans:=by
 unfold hearWM
 split
 ·exact ⟨h,rfl⟩
 ·rename_i hc
  have h1:¬e.came.length+b.length > 300:=fun q=>hc (.inr (.inl q))
  have h2:¬e.wait.length > 40:=fun q=>hc (.inr (.inr q))
  have h40:EnW 40 e:=⟨h.sts,h.wait,h.out,h.inn,h.flow,h.came,by omega⟩
  exact ⟨(hearM_w h40 (by omega)).mono (by omega),hearM_ans e b⟩
theorem sayWM_w {N:Nat} {w:Wo} (h:WoW N w) (side:Int):WoW N (sayWM w side):=by
 unfold sayWM
 split
 ·split
  ·rename_i hc
   exact ⟨(writeM_w h.caller).mono (by omega),h.answerer,(writeM_ans _).trans h.calls,h.answers,by rw [List.length_append]; exact hc.2,h.down⟩
  ·exact h
 ·split
  ·split
   ·rename_i hc
    exact ⟨h.caller,(writeM_w h.answerer).mono (by omega),h.calls,(writeM_ans _).trans h.answers,h.up,by rw [List.length_append]; exact hc.2⟩
   ·exact h
  ·exact h
theorem passM_w {N:Nat} {w:Wo} (h:WoW N w) (hN:642≤N) (way n:Int):WoW N (passM w way n):=by
 unfold passM
 split
 ·split
  ·obtain ⟨a1,a2⟩:=hearWM_w h.answerer hN (w.up.take n.toNat)
   exact ⟨h.caller,a1,h.calls,a2.trans h.answers,by have:=h.up; simp; omega,h.down⟩
  ·split
   ·obtain ⟨a1,a2⟩:=hearWM_w h.caller hN (w.down.take n.toNat)
    exact ⟨a1,h.answerer,a2.trans h.calls,h.answers,h.up,by have:=h.down; simp; omega⟩
   ·exact h
 ·exact h
theorem doM_w {N:Nat} {w:Wo} (h:WoW N w) (hN:642≤N) (v:Ev):WoW (N+1) (doM w v):=by
 unfold doM
 split
 ·exact ⟨(callM_w h.caller _ _).mono (by omega),h.answerer.mono (by omega),(callM_ans _ _ _).trans h.calls,h.answers,h.up,h.down⟩
 ·split
  ·exact ⟨leaveM_w h.caller _,h.answerer.mono (by omega),(leaveM_ans _ _).trans h.calls,h.answers,h.up,h.down⟩
  ·split
   ·exact (sayWM_w h _).mono (by omega)
   ·split
    ·exact (passM_w h hN _ _).mono (by omega)
    ·exact h.mono (by omega)
end
section
open Go
theorem l12Stream_ok (n:Int) (S:List Blk):VCall Tryz.prog 111 [.int .i64 n] S fun r S'=>r=.bool (strmOk n)∧S'=S:=by
 refine VCall.en hD Tryz.func111 Tryz.ntmps111 Tryz.results111 ?_
 by_cases h:1≤n∧n≤7
 ·simp -implicitDefEqProofs (disch:=omega) only [push_cast,simprocAttr,↓gd]
  refine (l6In_t h S).to ?_
  simp -implicitDefEqProofs (disch:=omega) only [push_cast,simprocAttr,↓gd]
  exact fin0 (by simp [strmOk,h])
 ·simp -implicitDefEqProofs (disch:=omega) only [push_cast,simprocAttr,↓gd]
  refine (l6In_f h S).to ?_
  simp -implicitDefEqProofs (disch:=omega) only [push_cast,simprocAttr,↓gd]
  exact fin0 (by simp [strmOk]; omega)
theorem isStream_ok (n:Int) (S:List Blk):VCall Tryz.prog 82 [.int .i64 n] S fun r S'=>r=.bool (strmOk n)∧S'=S:=by
 refine VCall.en hD Tryz.func82 Tryz.ntmps82 Tryz.results82 ?_
 by_cases h:1≤n∧n≤7
 ·simp -implicitDefEqProofs (disch:=omega) only [push_cast,simprocAttr,↓gd]
  refine (in_t h S).to ?_
  simp -implicitDefEqProofs (disch:=omega) only [push_cast,simprocAttr,↓gd]
  exact fin0 (by simp [strmOk,h])
 ·simp -implicitDefEqProofs (disch:=omega) only [push_cast,simprocAttr,↓gd]
  refine (in_f h S).to ?_
  simp -implicitDefEqProofs (disch:=omega) only [push_cast,simprocAttr,↓gd]
  exact fin0 (by simp [strmOk]; omega)
theorem sFlowOk_ok (s r:Int) (S:List Blk):VCall Tryz.prog 75 [.agg [.int .i64 s,.int .i64 r]] S fun x S'=>x=.bool (flowOk s r)∧S'=S:=by
 refine VCall.en hD Tryz.func75 Tryz.ntmps75 Tryz.results75 ?_
 by_cases h:0≤s∧s≤31
 ·simp -implicitDefEqProofs (disch:=omega) only [push_cast,simprocAttr,↓gd]
  refine (l6In_t h _).to ?_
  simp -implicitDefEqProofs (disch:=omega) only [push_cast,simprocAttr,↓gd]
  refine (l6In_ok r 0 31 _).to ?_
  simp -implicitDefEqProofs (disch:=omega) only [push_cast,simprocAttr,↓gd]
  exact fin1 (.bool _) (by simp [flowOk,h])
 ·simp -implicitDefEqProofs (disch:=omega) only [push_cast,simprocAttr,↓gd]
  refine (l6In_f h _).to ?_
  simp -implicitDefEqProofs (disch:=omega) only [push_cast,simprocAttr,↓gd]
  exact fin1 (.bool _) (by simp [flowOk]; omega)
theorem FlowOk_ok (s r:Int) (S:List Blk):VCall Tryz.prog 88 [.agg [.int .i64 s,.int .i64 r]] S fun x S'=>x=.bool (flowOk s r)∧S'=S:=by
 refine VCall.en hD Tryz.func88 Tryz.ntmps88 Tryz.results88 ?_
 by_cases h:0≤s∧s≤31
 ·simp -implicitDefEqProofs (disch:=omega) only [push_cast,simprocAttr,↓gd]
  refine (in_t h _).to ?_
  simp -implicitDefEqProofs (disch:=omega) only [push_cast,simprocAttr,↓gd]
  refine (in_ok r 0 31 _).to ?_
  simp -implicitDefEqProofs (disch:=omega) only [push_cast,simprocAttr,↓gd]
  exact fin1 (.bool _) (by simp [flowOk,h])
 ·simp -implicitDefEqProofs (disch:=omega) only [push_cast,simprocAttr,↓gd]
  refine (in_f h _).to ?_
  simp -implicitDefEqProofs (disch:=omega) only [push_cast,simprocAttr,↓gd]
  exact fin1 (.bool _) (by simp [flowOk]; omega)
theorem sFrameOk_ok (f:Fr) (S:List Blk):VCall Tryz.prog 73 [frV f] S fun r S'=>r=.bool (frameOk f)∧S'=S:=by
 obtain ⟨k,l,s,b⟩:=f
 refine VCall.en hD Tryz.func73 Tryz.ntmps73 Tryz.results73 ?_
 by_cases k0:k=0
 ·subst k0
  simp -implicitDefEqProofs (disch:=omega) only [push_cast,simprocAttr,↓gd]
  refine (l12Stream_ok s _).to ?_
  cases hs:strmOk s
  ·simp -implicitDefEqProofs (disch:=omega) only [push_cast,simprocAttr,↓gd]
   exact fin1 (.bool _) (by simp [frameOk,hs])
  ·simp -implicitDefEqProofs (disch:=omega) only [push_cast,simprocAttr,↓gd]
   exact fin1 (.bool _) (by simp [frameOk,hs]; try omega)
 by_cases k1:k=1
 ·subst k1
  simp -implicitDefEqProofs (disch:=omega) only [push_cast,simprocAttr,↓gd]
  refine (l12Stream_ok s _).to ?_
  cases hs:strmOk s
  ·simp -implicitDefEqProofs (disch:=omega) only [push_cast,simprocAttr,↓gd]
   exact fin1 (.bool _) (by simp [frameOk,hs])
  ·simp -implicitDefEqProofs (disch:=omega) only [push_cast,simprocAttr,↓gd]
   exact fin1 (.bool _) (by simp [frameOk,hs]; try omega)
 by_cases k3:k=3
 ·subst k3
  simp -implicitDefEqProofs (disch:=omega) only [push_cast,simprocAttr,↓gd]
  refine (l12Stream_ok s _).to ?_
  cases hs:strmOk s
  ·simp -implicitDefEqProofs (disch:=omega) only [push_cast,simprocAttr,↓gd]
   exact fin1 (.bool _) (by simp [frameOk,hs])
  ·cases l
   ·simp -implicitDefEqProofs (disch:=omega) only [push_cast,simprocAttr,↓gd]
    exact fin1 (.bool _) (by simp [frameOk,hs])
   ·simp -implicitDefEqProofs (disch:=omega) only [push_cast,simprocAttr,↓gd]
    exact fin1 (.bool _) (by simp [frameOk,hs])
 by_cases k8:k=8
 ·subst k8
  have fin:∀X:List Blk,(s=0∨strmOk s=true)→l=false→b.length=1→∃r S2,Wk S (.bool (decide ((1:Int)≤((b.getD 0 0).toNat:Nat)) && decide (((b.getD 0 0).toNat:Int)≤31))) (S++X) r S2∧r=.bool (frameOk ⟨8,l,s,b⟩)∧S2=S:=by
   intro X h1 h2 h3
   refine fin1 (.bool _) ?_
   subst h2
   have e:(decide (s=0) || strmOk s)=true:=by simpa using h1
   have e2:frameOk ⟨8,false,s,b⟩=(decide (1≤(b.getD 0 0).toNat) && decide ((b.getD 0 0).toNat≤31)):=by
    simp only [frameOk]
    rw [if_neg (by decide),if_neg (by decide),if_pos trivial,e,h3]
    simp [byteAt]
   rw [e2]
   have e3:decide ((1:Int)≤((b.getD 0 0).toNat:Nat))=decide (1≤(b.getD 0 0).toNat):=decide_eq_decide.2 (by omega)
   have e4:decide (((b.getD 0 0).toNat:Int)≤31)=decide ((b.getD 0 0).toNat≤31):=decide_eq_decide.2 (by omega)
   rw [e3,e4]
  have hbt:=UInt8.toNat_lt (b.getD 0 0)
  by_cases hs0:s=0
  ·subst hs0
   cases l
   ·by_cases hb1:b.length=1
    ·simp -implicitDefEqProofs (disch:=omega) only [push_cast,simprocAttr,hb1,↓gd]
     refine (l6In_ok _ 1 31 _).to ?_
     simp -implicitDefEqProofs (disch:=omega) only [push_cast,simprocAttr,↓gd]
     exact fin _ (.inl rfl) rfl hb1
    ·have hb1':¬(b.length:Int)=1:=by omega
     simp -implicitDefEqProofs (disch:=omega) only [push_cast,simprocAttr,hb1',↓gd]
     exact fin1 (.bool _) (by simp [frameOk,hb1])
   ·simp -implicitDefEqProofs (disch:=omega) only [push_cast,simprocAttr,↓gd]
    exact fin1 (.bool _) (by simp [frameOk])
  ·simp -implicitDefEqProofs (disch:=omega) only [push_cast,simprocAttr,hs0,↓gd]
   refine (l12Stream_ok s _).to ?_
   cases hs:strmOk s
   ·simp -implicitDefEqProofs (disch:=omega) only [push_cast,simprocAttr,↓gd]
    exact fin1 (.bool _) (by simp [frameOk,hs,hs0])
   ·cases l
    ·by_cases hb1:b.length=1
     ·simp -implicitDefEqProofs (disch:=omega) only [push_cast,simprocAttr,hb1,↓gd]
      refine (l6In_ok _ 1 31 _).to ?_
      simp -implicitDefEqProofs (disch:=omega) only [push_cast,simprocAttr,↓gd]
      exact fin _ (.inr hs) rfl hb1
     ·have hb1':¬(b.length:Int)=1:=by omega
      simp -implicitDefEqProofs (disch:=omega) only [push_cast,simprocAttr,hb1',↓gd]
      exact fin1 (.bool _) (by simp [frameOk,hb1])
    ·simp -implicitDefEqProofs (disch:=omega) only [push_cast,simprocAttr,↓gd]
     exact fin1 (.bool _) (by simp [frameOk])
 ·simp -implicitDefEqProofs (disch:=omega) only [push_cast,simprocAttr,k0,k1,k3,k8,↓gd]
  exact fin1 (.bool _) (by simp [frameOk,k0,k1,k3,k8])
end
section
open Go
structure StB (s:St):Prop where
 head:FdsB s.head
 got:FdsB s.got
 say:s.say.length≤1100000
 text:s.text.length≤1100000
theorem headOk_b {h:List Fd} (hk:headOk h=true):FdsB h:=by
 obtain ⟨k1,k2⟩:=headOk_parts hk
 refine ⟨by omega,fun f hf=>?_⟩
 obtain ⟨_,_,_,q1,q2⟩:=fieldOk_parts (k1 f hf)
 exact ⟨by omega,by omega⟩
theorem tableOk_b {l:List Fd} {max:Int} (ht:tableOk l max=true):FdsB l:=by
 obtain ⟨t1,t2,t3,t4,t5⟩:=tableOk_parts ht
 refine ⟨by omega,fun f hf=>?_⟩
 obtain ⟨_,_,_,q1,q2⟩:=fieldOk_parts (t4 f hf).1
 exact ⟨by omega,by omega⟩
theorem stOk_b {s:St} (h:stOk s=true):StB s:=by
 obtain ⟨a1,a2,a3,a4,a5,a6,a7,a8⟩:=stOk_iff.1 h
 exact ⟨headOk_b a3,headOk_b a4,by have:=(wordOk_iff.1 a5).2; omega,by have:=(wordOk_iff.1 a6).2; omega⟩
theorem l21Stream_ok (s:St) (hs:StB s) (S:List Blk):VCall Tryz.prog 72 [stV s] S fun r S'=>r=.bool (stOk s)∧S'=S:=by
 obtain ⟨b1,b2,b3,b4⟩:=hs
 refine VCall.en hD Tryz.func72 Tryz.ntmps72 Tryz.results72 ?_
 simp -implicitDefEqProofs (disch:=omega) only [push_cast,simprocAttr,↓gd]
 refine (l12Stream_ok s.id _).to ?_
 cases h1:strmOk s.id
 ·simp -implicitDefEqProofs (disch:=omega) only [push_cast,simprocAttr,↓gd]
  exact fin1 (.bool _) (by simp [stOk,h1])
 simp -implicitDefEqProofs (disch:=omega) only [push_cast,simprocAttr,↓gd]
 refine (l6In_ok s.state 1 3 _).to ?_
 cases h2:(decide (1≤s.state) && decide (s.state≤3))
 ·simp -implicitDefEqProofs (disch:=omega) only [push_cast,simprocAttr,↓gd]
  exact fin1 (.bool _) (by simp [stOk,h2])
 simp -implicitDefEqProofs (disch:=omega) only [push_cast,simprocAttr,↓gd]
 refine (sHeadOk_ok s.head b1 _).to ?_
 cases h3:headOk s.head
 ·simp -implicitDefEqProofs (disch:=omega) only [push_cast,simprocAttr,↓gd]
  exact fin1 (.bool _) (by simp [stOk,h3])
 simp -implicitDefEqProofs (disch:=omega) only [push_cast,simprocAttr,↓gd]
 refine (sHeadOk_ok s.got b2 _).to ?_
 cases h4:headOk s.got
 ·simp -implicitDefEqProofs (disch:=omega) only [push_cast,simprocAttr,↓gd]
  exact fin1 (.bool _) (by simp [stOk,h4])
 simp -implicitDefEqProofs (disch:=omega) only [push_cast,simprocAttr,↓gd]
 refine (sWordOk_ok s.say (by omega) _).to ?_
 cases h5:wordOk s.say
 ·simp -implicitDefEqProofs (disch:=omega) only [push_cast,simprocAttr,↓gd]
  exact fin1 (.bool _) (by simp [stOk,h5])
 simp -implicitDefEqProofs (disch:=omega) only [push_cast,simprocAttr,↓gd]
 refine (sWordOk_ok s.text (by omega) _).to ?_
 cases h6:wordOk s.text
 ·simp -implicitDefEqProofs (disch:=omega) only [push_cast,simprocAttr,↓gd]
  exact fin1 (.bool _) (by simp [stOk,h6])
 simp -implicitDefEqProofs (disch:=omega) only [push_cast,simprocAttr,↓gd]
 refine (l6In_ok s.sent 0 s.say.length _).to ?_
 cases h7:(decide (0≤s.sent) && decide (s.sent≤(s.say.length:Int)))
 ·simp -implicitDefEqProofs (disch:=omega) only [push_cast,simprocAttr,↓gd]
  exact fin1 (.bool _) (by simp [stOk,h7])
 simp -implicitDefEqProofs (disch:=omega) only [push_cast,simprocAttr,↓gd]
 refine (sFlowOk_ok s.send s.room _).to ?_
 simp -implicitDefEqProofs (disch:=omega) only [push_cast,simprocAttr,↓gd]
 exact fin1 (.bool _) (by simp only [stOk,h1,h2,h3,h4,h5,h6,h7,Bool.true_and])
theorem streamOk_ok (s:St) (hs:StB s) (hid:strmOk s.id=true) (S:List Blk):VCall Tryz.prog 83 [stV s] S fun r S'=>r=.bool (stOk s)∧S'=S:=by
 obtain ⟨b1,b2,b3,b4⟩:=hs
 refine VCall.en hD Tryz.func83 Tryz.ntmps83 Tryz.results83 ?_
 simp -implicitDefEqProofs (disch:=omega) only [push_cast,simprocAttr,↓gd]
 refine (in_ok s.state 1 3 _).to ?_
 cases h2:(decide (1≤s.state) && decide (s.state≤3))
 ·simp -implicitDefEqProofs (disch:=omega) only [push_cast,simprocAttr,↓gd]
  exact fin1 (.bool _) (by simp [stOk,h2])
 simp -implicitDefEqProofs (disch:=omega) only [push_cast,simprocAttr,↓gd]
 refine (HeadOk_ok s.head b1 _).to ?_
 cases h3:headOk s.head
 ·simp -implicitDefEqProofs (disch:=omega) only [push_cast,simprocAttr,↓gd]
  exact fin1 (.bool _) (by simp [stOk,h3])
 simp -implicitDefEqProofs (disch:=omega) only [push_cast,simprocAttr,↓gd]
 refine (HeadOk_ok s.got b2 _).to ?_
 cases h4:headOk s.got
 ·simp -implicitDefEqProofs (disch:=omega) only [push_cast,simprocAttr,↓gd]
  exact fin1 (.bool _) (by simp [stOk,h4])
 simp -implicitDefEqProofs (disch:=omega) only [push_cast,simprocAttr,↓gd]
 refine (WordOk_ok s.say (by omega) _).to ?_
 cases h5:wordOk s.say
 ·simp -implicitDefEqProofs (disch:=omega) only [push_cast,simprocAttr,↓gd]
  exact fin1 (.bool _) (by simp [stOk,h5])
 simp -implicitDefEqProofs (disch:=omega) only [push_cast,simprocAttr,↓gd]
 refine (WordOk_ok s.text (by omega) _).to ?_
 cases h6:wordOk s.text
 ·simp -implicitDefEqProofs (disch:=omega) only [push_cast,simprocAttr,↓gd]
  exact fin1 (.bool _) (by simp [stOk,h6])
 simp -implicitDefEqProofs (disch:=omega) only [push_cast,simprocAttr,↓gd]
 refine (in_ok s.sent 0 s.say.length _).to ?_
 cases h7:(decide (0≤s.sent) && decide (s.sent≤(s.say.length:Int)))
 ·simp -implicitDefEqProofs (disch:=omega) only [push_cast,simprocAttr,↓gd]
  exact fin1 (.bool _) (by simp [stOk,h7])
 simp -implicitDefEqProofs (disch:=omega) only [push_cast,simprocAttr,↓gd]
 refine (FlowOk_ok s.send s.room _).to ?_
 simp -implicitDefEqProofs (disch:=omega) only [push_cast,simprocAttr,↓gd]
 exact fin1 (.bool _) (by simp only [stOk,hid,h2,h3,h4,h5,h6,h7,Bool.true_and])
end
section
open Go
theorem FrameOk_ok (f:Fr) (S:List Blk):VCall Tryz.prog 86 [frV f] S fun r S'=>r=.bool (frameOk f)∧S'=S:=by
 obtain ⟨k,l,s,b⟩:=f
 refine VCall.en hD Tryz.func86 Tryz.ntmps86 Tryz.results86 ?_
 by_cases k8:k=8
 ·subst k8
  have fin:∀X:List Blk,(s=0∨strmOk s=true)→l=false→b.length=1→∃r S2,Wk S (.bool (decide ((1:Int)≤((b.getD 0 0).toNat:Nat)) && decide (((b.getD 0 0).toNat:Int)≤31))) (S++X) r S2∧r=.bool (frameOk ⟨8,l,s,b⟩)∧S2=S:=by
   intro X h1 h2 h3
   refine fin1 (.bool _) ?_
   subst h2
   have e:(decide (s=0) || strmOk s)=true:=by simpa using h1
   have e2:frameOk ⟨8,false,s,b⟩=(decide (1≤(b.getD 0 0).toNat) && decide ((b.getD 0 0).toNat≤31)):=by
    simp only [frameOk]
    rw [if_neg (by decide),if_neg (by decide),if_pos trivial,e,h3]
    simp [byteAt]
   rw [e2]
   have e3:decide ((1:Int)≤((b.getD 0 0).toNat:Nat))=decide (1≤(b.getD 0 0).toNat):=decide_eq_decide.2 (by omega)
   have e4:decide (((b.getD 0 0).toNat:Int)≤31)=decide ((b.getD 0 0).toNat≤31):=decide_eq_decide.2 (by omega)
   rw [e3,e4]
  have hbt:=UInt8.toNat_lt (b.getD 0 0)
  by_cases hs0:s=0
  ·subst hs0
   cases l
   ·by_cases hb1:b.length=1
    ·simp -implicitDefEqProofs (disch:=omega) only [push_cast,simprocAttr,hb1,↓gd]
     refine (in_ok _ 1 31 _).to ?_
     simp -implicitDefEqProofs (disch:=omega) only [push_cast,simprocAttr,↓gd]
     exact fin _ (.inl rfl) rfl hb1
    ·have hb1':¬(b.length:Int)=1:=by omega
     simp -implicitDefEqProofs (disch:=omega) only [push_cast,simprocAttr,hb1',↓gd]
     exact fin1 (.bool _) (by simp [frameOk,hb1])
   ·simp -implicitDefEqProofs (disch:=omega) only [push_cast,simprocAttr,↓gd]
    exact fin1 (.bool _) (by simp [frameOk])
  ·simp -implicitDefEqProofs (disch:=omega) only [push_cast,simprocAttr,hs0,↓gd]
   refine (isStream_ok s _).to ?_
   cases hs:strmOk s
   ·simp -implicitDefEqProofs (disch:=omega) only [push_cast,simprocAttr,↓gd]
    exact fin1 (.bool _) (by simp [frameOk,hs,hs0])
   ·cases l
    ·by_cases hb1:b.length=1
     ·simp -implicitDefEqProofs (disch:=omega) only [push_cast,simprocAttr,hb1,↓gd]
      refine (in_ok _ 1 31 _).to ?_
      simp -implicitDefEqProofs (disch:=omega) only [push_cast,simprocAttr,↓gd]
      exact fin _ (.inr hs) rfl hb1
     ·have hb1':¬(b.length:Int)=1:=by omega
      simp -implicitDefEqProofs (disch:=omega) only [push_cast,simprocAttr,hb1',↓gd]
      exact fin1 (.bool _) (by simp [frameOk,hb1])
    ·simp -implicitDefEqProofs (disch:=omega) only [push_cast,simprocAttr,↓gd]
     exact fin1 (.bool _) (by simp [frameOk])
 simp -implicitDefEqProofs (disch:=omega) only [push_cast,simprocAttr,k8,↓gd]
 refine (isStream_ok s _).to ?_
 cases hs:strmOk s
 ·simp -implicitDefEqProofs (disch:=omega) only [push_cast,simprocAttr,↓gd]
  exact fin1 (.bool _) (by simp [frameOk,hs,k8])
 by_cases k0:k=0
 ·subst k0
  simp -implicitDefEqProofs (disch:=omega) only [push_cast,simprocAttr,↓gd]
  exact fin1 (.bool _) (by simp [frameOk,hs]; try omega)
 by_cases k1:k=1
 ·subst k1
  simp -implicitDefEqProofs (disch:=omega) only [push_cast,simprocAttr,↓gd]
  exact fin1 (.bool _) (by simp [frameOk,hs]; try omega)
 by_cases k3:k=3
 ·subst k3
  by_cases hb:b=[]
  ·subst hb
   simp -implicitDefEqProofs (disch:=omega) only [push_cast,simprocAttr,↓gd]
   exact fin1 (.bool _) (by simp [frameOk,hs])
  ·simp -implicitDefEqProofs (disch:=omega) only [push_cast,simprocAttr,hb,↓gd]
   exact fin1 (.bool _) (by simp [frameOk,hs,hb])
 ·simp -implicitDefEqProofs (disch:=omega) only [push_cast,simprocAttr,k0,k1,k3,↓gd]
  exact fin1 (.bool _) (by simp [frameOk,k0,k1,k3,k8])
theorem l12Write_ok (f:Fr) (hk:0≤f.kind) (hs:0≤f.stream) (hb:f.body.length≤1100000) (S:List Blk):VCall Tryz.prog 138 [frV f] S fun r S'=>r=.str (frW f)∧S'=S:=by
 obtain ⟨k,l,s,b⟩:=f
 obtain ⟨k,rfl⟩:∃n:Nat,k=n:=⟨k.toNat,(Int.toNat_of_nonneg hk).symm⟩
 obtain ⟨s,rfl⟩:∃n:Nat,s=n:=⟨s.toNat,(Int.toNat_of_nonneg hs).symm⟩
 simp only at hb
 refine VCall.ex hD (fun _=>false) (fun id=>if id=4 then [3,3,3,6,6,6,9,19,9,13,19,13,13,19,19,19,19,19,19] else []) Tryz.func138 Tryz.ntmps138 Tryz.results138 ?_
 cases l
 ·simp -implicitDefEqProofs (disch:=omega) only [push_cast,simprocAttr,↓gd]
  refine (l1Byte_ok b.length _).to ?_
  simp -implicitDefEqProofs (disch:=omega) only [push_cast,simprocAttr,↓gd]
  refine (l1Byte_ok k _).to ?_
  simp -implicitDefEqProofs (disch:=omega) only [push_cast,simprocAttr,↓gd]
  refine ((l1Byte_ok 0 _).as rfl).to ?_
  simp -implicitDefEqProofs (disch:=omega) only [push_cast,simprocAttr,↓gd]
  refine (l1Byte_ok s _).to ?_
  simp -implicitDefEqProofs (disch:=omega) only [push_cast,simprocAttr,↓gd]
  exact ⟨by omega,fin1 (.str _) rfl⟩
 ·simp -implicitDefEqProofs (disch:=omega) only [push_cast,simprocAttr,↓gd]
  refine (l1Byte_ok b.length _).to ?_
  simp -implicitDefEqProofs (disch:=omega) only [push_cast,simprocAttr,↓gd]
  refine (l1Byte_ok k _).to ?_
  simp -implicitDefEqProofs (disch:=omega) only [push_cast,simprocAttr,↓gd]
  refine ((l1Byte_ok 1 _).as rfl).to ?_
  simp -implicitDefEqProofs (disch:=omega) only [push_cast,simprocAttr,↓gd]
  refine (l1Byte_ok s _).to ?_
  simp -implicitDefEqProofs (disch:=omega) only [push_cast,simprocAttr,↓gd]
  exact ⟨by omega,fin1 (.str _) rfl⟩
theorem l12Read_ok (b:List UInt8) (hb:b.length≤1100000) (S:List Blk):VCall Tryz.prog 77 [.str b] S fun r S'=>r=.tup [frV (frR b).1,.int .i64 (frR b).2.1,.int .i64 (frR b).2.2]∧S'=S:=by
 have h0:=UInt8.toNat_lt (b.getD 0 0)
 have h1:=UInt8.toNat_lt (b.getD 1 0)
 have h2:=UInt8.toNat_lt (b.getD 2 0)
 have h3:=UInt8.toNat_lt (b.getD 3 0)
 have fin:∀(f:Fr) (n:Nat) (is:Int) (X:List Blk),(frR b)=(f,n,is)→∃r S2,Wk S (.tup [frV f,.int .i64 n,.int .i64 is]) (S++X) r S2∧r=.tup [frV (frR b).1,.int .i64 (frR b).2.1,.int .i64 (frR b).2.2]∧S2=S:=by
  intro f n is X he
  rw [he]
  refine fin1 ?_ rfl
  simp only [cl_tup,frV_eq,cl_agg]
  intro v hv
  simp only [List.mem_cons,List.not_mem_nil,or_false] at hv
  rcases hv with rfl | rfl | rfl
  ·refine .agg (fun v hv=>?_)
   simp only [List.mem_cons,List.not_mem_nil,or_false] at hv
   rcases hv with rfl | rfl | rfl | rfl
   ·exact .int _ _
   ·exact .bool _
   ·exact .int _ _
   ·exact .str _
  ·exact .int _ _
  ·exact .int _ _
 refine VCall.ex hD (fun _=>false) (fun id=>if id=8 then [15,15,15,15,15,15,15,15,15,15,15,15,15,15,15,16] else []) Tryz.func77 Tryz.ntmps77 Tryz.results77 ?_
 by_cases h4:b.length < 4
 ·have h4':(b.length:Int) < 4:=by omega
  simp -implicitDefEqProofs (disch:=omega) only [push_cast,simprocAttr,h4',↓gd]
  exact fin fr0 0 0 _ (by rw [frR,if_pos h4])
 have h4':¬(b.length:Int) < 4:=by omega
 by_cases hn:(b.getD 0 0).toNat > 200
 ·have hn':((b.getD 0 0).toNat:Int) > 200:=by omega
  simp -implicitDefEqProofs (disch:=omega) only [push_cast,simprocAttr,h4',hn',↓gd]
  exact ⟨by omega,fin fr0 0 (-1) _ (by rw [frR,if_neg h4,if_pos (.inl hn)])⟩
 have hn':¬((b.getD 0 0).toNat:Int) > 200:=by omega
 by_cases hl:(b.getD 2 0).toNat > 1
 ·have hl':((b.getD 2 0).toNat:Int) > 1:=by omega
  simp -implicitDefEqProofs (disch:=omega) only [push_cast,simprocAttr,h4',hn',hl',↓gd]
  exact ⟨by omega,by omega,fin fr0 0 (-1) _ (by rw [frR,if_neg h4,if_pos (.inr hl)])⟩
 have hl':¬((b.getD 2 0).toNat:Int) > 1:=by omega
 have hor:¬(byteAt b 0 > 200∨byteAt b 2 > 1):=fun q=>q.elim hn hl
 by_cases hk:b.length < 4+byteAt b 0
 ·have hk':(b.length:Int) < 4+((b.getD 0 0).toNat:Int):=by unfold byteAt at hk; omega
  simp -implicitDefEqProofs (disch:=omega) only [push_cast,simprocAttr,h4',hn',hl',hk',↓gd]
  exact ⟨by omega,by omega,fin fr0 0 0 _ (by rw [frR,if_neg h4,if_neg hor,if_pos hk])⟩
 have hk':¬(b.length:Int) < 4+((b.getD 0 0).toNat:Int):=by unfold byteAt at hk; omega
 have e1:List.drop 4 (List.take (4+((b.getD 0 0).toNat:Int)).toNat b)=(b.drop 4).take (byteAt b 0):=by
  rw [List.drop_take]
  congr 1
  unfold byteAt
  omega
 have e2:decide (((b.getD 2 0).toNat:Int)=1)=decide (byteAt b 2=1):=decide_eq_decide.2 (by unfold byteAt; omega)
 have hR:frR b=if frameOk ⟨byteAt b 1,decide (byteAt b 2=1),byteAt b 3,(b.drop 4).take (byteAt b 0)⟩ then (⟨byteAt b 1,decide (byteAt b 2=1),byteAt b 3,(b.drop 4).take (byteAt b 0)⟩,4+byteAt b 0,1) else (fr0,0,-1):=by
  rw [frR,if_neg h4,if_neg hor,if_neg hk]
 simp -implicitDefEqProofs (disch:=omega) only [push_cast,simprocAttr,h4',hn',hl',hk',e1,e2,↓gd]
 refine ⟨by omega,by omega,by omega,by omega,by omega,by omega,by omega,((sFrameOk_ok ⟨byteAt b 1,decide (byteAt b 2=1),byteAt b 3,(b.drop 4).take (byteAt b 0)⟩ _).as rfl).to ?_⟩
 cases hf:frameOk ⟨byteAt b 1,decide (byteAt b 2=1),byteAt b 3,(b.drop 4).take (byteAt b 0)⟩
 ·rw [hf,if_neg (by simp)] at hR
  simp -implicitDefEqProofs (disch:=omega) only [push_cast,simprocAttr,↓gd]
  exact fin _ _ _ _ hR
 ·rw [hf,if_pos rfl] at hR
  simp -implicitDefEqProofs (disch:=omega) only [push_cast,simprocAttr,↓gd]
  exact fin _ _ _ _ hR
end
section
open Go
theorem FrameRead_ok (b:List UInt8) (hb:b.length≤1100000) (S:List Blk):VCall Tryz.prog 43 [.str b] S fun r S'=>r=.tup [frV (frR b).1,.int .i64 (frR b).2.1,.int .i64 (frR b).2.2]∧S'=S:=by
 have h0:=UInt8.toNat_lt (b.getD 0 0)
 have h1:=UInt8.toNat_lt (b.getD 1 0)
 have h2:=UInt8.toNat_lt (b.getD 2 0)
 have h3:=UInt8.toNat_lt (b.getD 3 0)
 have fin:∀(f:Fr) (n:Nat) (is:Int) (X:List Blk),(frR b)=(f,n,is)→∃r S2,Wk S (.tup [frV f,.int .i64 n,.int .i64 is]) (S++X) r S2∧r=.tup [frV (frR b).1,.int .i64 (frR b).2.1,.int .i64 (frR b).2.2]∧S2=S:=by
  intro f n is X he
  rw [he]
  refine fin1 ?_ rfl
  simp only [cl_tup,frV_eq,cl_agg]
  intro v hv
  simp only [List.mem_cons,List.not_mem_nil,or_false] at hv
  rcases hv with rfl | rfl | rfl
  ·refine .agg (fun v hv=>?_)
   simp only [List.mem_cons,List.not_mem_nil,or_false] at hv
   rcases hv with rfl | rfl | rfl | rfl
   ·exact .int _ _
   ·exact .bool _
   ·exact .int _ _
   ·exact .str _
  ·exact .int _ _
  ·exact .int _ _
 refine VCall.ex hD (fun _=>false) (fun id=>if id=8 then [14,14,14,14,14,14,14,14,14,14,14,14,14,14,15] else []) Tryz.func43 Tryz.ntmps43 Tryz.results43 ?_
 by_cases h4:b.length < 4
 ·have h4':(b.length:Int) < 4:=by omega
  simp -implicitDefEqProofs (disch:=omega) only [push_cast,simprocAttr,h4',↓gd]
  exact fin fr0 0 0 _ (by rw [frR,if_pos h4])
 have h4':¬(b.length:Int) < 4:=by omega
 by_cases hn:(b.getD 0 0).toNat > 200
 ·have hn':((b.getD 0 0).toNat:Int) > 200:=by omega
  simp -implicitDefEqProofs (disch:=omega) only [push_cast,simprocAttr,h4',hn',↓gd]
  exact ⟨by omega,by omega,fin fr0 0 (-1) _ (by rw [frR,if_neg h4,if_pos (.inl hn)])⟩
 have hn':¬((b.getD 0 0).toNat:Int) > 200:=by omega
 by_cases hl:(b.getD 2 0).toNat > 1
 ·have hl':((b.getD 2 0).toNat:Int) > 1:=by omega
  simp -implicitDefEqProofs (disch:=omega) only [push_cast,simprocAttr,h4',hn',hl',↓gd]
  exact ⟨by omega,by omega,by omega,fin fr0 0 (-1) _ (by rw [frR,if_neg h4,if_pos (.inr hl)])⟩
 have hl':¬((b.getD 2 0).toNat:Int) > 1:=by omega
 have hor:¬(byteAt b 0 > 200∨byteAt b 2 > 1):=fun q=>q.elim hn hl
 by_cases hk:b.length < 4+byteAt b 0
 ·have hk':(b.length:Int) < 4+((b.getD 0 0).toNat:Int):=by unfold byteAt at hk; omega
  simp -implicitDefEqProofs (disch:=omega) only [push_cast,simprocAttr,h4',hn',hl',hk',↓gd]
  exact ⟨by omega,by omega,by omega,fin fr0 0 0 _ (by rw [frR,if_neg h4,if_neg hor,if_pos hk])⟩
 have hk':¬(b.length:Int) < 4+((b.getD 0 0).toNat:Int):=by unfold byteAt at hk; omega
 have e1:List.drop 4 (List.take (4+((b.getD 0 0).toNat:Int)).toNat b)=(b.drop 4).take (byteAt b 0):=by
  rw [List.drop_take]
  congr 1
  unfold byteAt
  omega
 have e2:decide (((b.getD 2 0).toNat:Int)=1)=decide (byteAt b 2=1):=decide_eq_decide.2 (by unfold byteAt; omega)
 have hR:frR b=if frameOk ⟨byteAt b 1,decide (byteAt b 2=1),byteAt b 3,(b.drop 4).take (byteAt b 0)⟩ then (⟨byteAt b 1,decide (byteAt b 2=1),byteAt b 3,(b.drop 4).take (byteAt b 0)⟩,4+byteAt b 0,1) else (fr0,0,-1):=by
  rw [frR,if_neg h4,if_neg hor,if_neg hk]
 simp -implicitDefEqProofs (disch:=omega) only [push_cast,simprocAttr,h4',hn',hl',hk',e1,e2,↓gd]
 refine ⟨by omega,by omega,by omega,by omega,by omega,by omega,by omega,by omega,((FrameOk_ok ⟨byteAt b 1,decide (byteAt b 2=1),byteAt b 3,(b.drop 4).take (byteAt b 0)⟩ _).as rfl).to ?_⟩
 cases hf:frameOk ⟨byteAt b 1,decide (byteAt b 2=1),byteAt b 3,(b.drop 4).take (byteAt b 0)⟩
 ·rw [hf,if_neg (by simp)] at hR
  simp -implicitDefEqProofs (disch:=omega) only [push_cast,simprocAttr,↓gd]
  exact fin _ _ _ _ hR
 ·rw [hf,if_pos rfl] at hR
  simp -implicitDefEqProofs (disch:=omega) only [push_cast,simprocAttr,↓gd]
  exact fin _ _ _ _ hR
theorem bytes_ok (f:Fr) (hk:0≤f.kind) (hs:0≤f.stream) (hb:f.body.length≤1100000) (S:List Blk):VCall Tryz.prog 170 [frV f] S fun r S'=>r=.str (frW f)∧S'=S:=by
 obtain ⟨k,l,s,b⟩:=f
 obtain ⟨k,rfl⟩:∃n:Nat,k=n:=⟨k.toNat,(Int.toNat_of_nonneg hk).symm⟩
 obtain ⟨s,rfl⟩:∃n:Nat,s=n:=⟨s.toNat,(Int.toNat_of_nonneg hs).symm⟩
 simp only at hb
 have e:∀n:Nat,UInt8.ofNat (IntKind.u8.wrap (n:Int)).toNat=by8 n:=fun n=>by rw [byte_wrap,byInt]
 refine VCall.en hD Tryz.func170 Tryz.ntmps170 Tryz.results170 ?_
 cases l
 ·simp -implicitDefEqProofs (disch:=omega) only [push_cast,simprocAttr,e,↓gd]
  exact ⟨by omega,fin1 (.str _) rfl⟩
 ·simp -implicitDefEqProofs (disch:=omega) only [push_cast,simprocAttr,e,↓gd]
  exact ⟨by omega,fin1 (.str _) rfl⟩
theorem frameOk_nat {f:Fr} (h:frameOk f=true):0≤f.kind∧0≤f.stream∧f.body.length≤200:=by
 unfold frameOk at h
 split at h
 ·rename_i hk
  simp only [Bool.and_eq_true,decide_eq_true_eq] at h
  have:=strmOk_iff.1 h.1
  omega
 ·split at h
  ·rename_i hk
   simp only [Bool.and_eq_true,decide_eq_true_eq] at h
   have:=strmOk_iff.1 h.1.1
   rw [h.2]
   simp
   omega
  ·split at h
   ·simp only [Bool.and_eq_true,Bool.or_eq_true,decide_eq_true_eq] at h
    obtain ⟨⟨⟨⟨h1,h2⟩,h3⟩,h4⟩,h5⟩:=h
    refine ⟨by omega,?_,by omega⟩
    rcases h1 with h1 | h1
    ·omega
    ·have:=strmOk_iff.1 h1; omega
   ·cases h
theorem FrameWrite_ok (f:Fr) (S:List Blk):VCall Tryz.prog 155 [frV f] S fun r S'=>r=.str (if frameOk f then frW f else [])∧S'=S:=by
 refine VCall.en hD Tryz.func155 Tryz.ntmps155 Tryz.results155 ?_
 simp -implicitDefEqProofs (disch:=omega) only [push_cast,simprocAttr,↓gd]
 refine ((FrameOk_ok f _).as rfl).to ?_
 cases h:frameOk f
 ·simp -implicitDefEqProofs (disch:=omega) only [push_cast,simprocAttr,↓gd]
  exact fin1 (.str _) rfl
 ·obtain ⟨h1,h2,h3⟩:=frameOk_nat h
  simp -implicitDefEqProofs (disch:=omega) only [push_cast,simprocAttr,↓gd]
  refine ((bytes_ok f h1 h2 (by omega) _).as rfl).to ?_
  simp -implicitDefEqProofs (disch:=omega) only [push_cast,simprocAttr,↓gd]
  exact fin1 (.str _) rfl
end
end Go.Proofs.YtldogccmhncnoaaGreatDoor
