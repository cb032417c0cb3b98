/- A part of the proof: contracts of functions, or plain facts on which these lean. -/
import Derived.Test.YtldogccmhncnoaaGreatDoorMh16
import Derived.Test.YtldogccmhncnoaaGreatDoorMh18
namespace Go.Proofs.YtldogccmhncnoaaGreatDoor
open Go
set_option linter.unusedVariables false
set_option linter.unusedSimpArgs false
set_option maxRecDepth 100000
set_option maxHeartbeats 16000000

section
open Go
structure StB (s:St):Prop where
 head:FdsB s.head
 got:FdsB s.got
 say:s.say.length≤1100000
 text:s.text.length≤1100000
theorem headOk_b {h:List Fd} (hk:headOk h=true):FdsB h:=by
 obtain ⟨k1,k2⟩:=headOk_parts hk
 refine ⟨by omega,fun f hf=>?_⟩
 obtain ⟨_,_,_,q1,q2⟩:=fieldOk_parts (k1 f hf)
 exact ⟨by omega,by omega⟩
theorem tableOk_b {l:List Fd} {max:Int} (ht:tableOk l max=true):FdsB l:=by
 obtain ⟨t1,t2,t3,t4,t5⟩:=tableOk_parts ht
 refine ⟨by omega,fun f hf=>?_⟩
 obtain ⟨_,_,_,q1,q2⟩:=fieldOk_parts (t4 f hf).1
 exact ⟨by omega,by omega⟩
theorem stOk_b {s:St} (h:stOk s=true):StB s:=by
 obtain ⟨a1,a2,a3,a4,a5,a6,a7,a8⟩:=stOk_iff.1 h
 exact ⟨headOk_b a3,headOk_b a4,by have:=(wordOk_iff.1 a5).2; omega,by have:=(wordOk_iff.1 a6).2; omega⟩
theorem l21Stream_ok (s:St) (hs:StB s) (S:List Blk):VCall Tryz.prog 72 [stV s] S fun r S'=>r=.bool (stOk s)∧S'=S:=by
 obtain ⟨b1,b2,b3,b4⟩:=hs
 refine VCall.en hD Tryz.func72 Tryz.ntmps72 Tryz.results72 ?_
 simp -implicitDefEqProofs (disch:=omega) only [push_cast,simprocAttr,↓gd]
 refine (l12Stream_ok s.id _).to ?_
 cases h1:strmOk s.id
 ·simp -implicitDefEqProofs (disch:=omega) only [push_cast,simprocAttr,↓gd]
  exact fin1 (.bool _) (by simp [stOk,h1])
 simp -implicitDefEqProofs (disch:=omega) only [push_cast,simprocAttr,↓gd]
 refine (l6In_ok s.state 1 3 _).to ?_
 cases h2:(decide (1≤s.state) && decide (s.state≤3))
 ·simp -implicitDefEqProofs (disch:=omega) only [push_cast,simprocAttr,↓gd]
  exact fin1 (.bool _) (by simp [stOk,h2])
 simp -implicitDefEqProofs (disch:=omega) only [push_cast,simprocAttr,↓gd]
 refine (sHeadOk_ok s.head b1 _).to ?_
 cases h3:headOk s.head
 ·simp -implicitDefEqProofs (disch:=omega) only [push_cast,simprocAttr,↓gd]
  exact fin1 (.bool _) (by simp [stOk,h3])
 simp -implicitDefEqProofs (disch:=omega) only [push_cast,simprocAttr,↓gd]
 refine (sHeadOk_ok s.got b2 _).to ?_
 cases h4:headOk s.got
 ·simp -implicitDefEqProofs (disch:=omega) only [push_cast,simprocAttr,↓gd]
  exact fin1 (.bool _) (by simp [stOk,h4])
 simp -implicitDefEqProofs (disch:=omega) only [push_cast,simprocAttr,↓gd]
 refine (sWordOk_ok s.say (by omega) _).to ?_
 cases h5:wordOk s.say
 ·simp -implicitDefEqProofs (disch:=omega) only [push_cast,simprocAttr,↓gd]
  exact fin1 (.bool _) (by simp [stOk,h5])
 simp -implicitDefEqProofs (disch:=omega) only [push_cast,simprocAttr,↓gd]
 refine (sWordOk_ok s.text (by omega) _).to ?_
 cases h6:wordOk s.text
 ·simp -implicitDefEqProofs (disch:=omega) only [push_cast,simprocAttr,↓gd]
  exact fin1 (.bool _) (by simp [stOk,h6])
 simp -implicitDefEqProofs (disch:=omega) only [push_cast,simprocAttr,↓gd]
 refine (l6In_ok s.sent 0 s.say.length _).to ?_
 cases h7:(decide (0≤s.sent) && decide (s.sent≤(s.say.length:Int)))
 ·simp -implicitDefEqProofs (disch:=omega) only [push_cast,simprocAttr,↓gd]
  exact fin1 (.bool _) (by simp [stOk,h7])
 simp -implicitDefEqProofs (disch:=omega) only [push_cast,simprocAttr,↓gd]
 refine (sFlowOk_ok s.send s.room _).to ?_
 simp -implicitDefEqProofs (disch:=omega) only [push_cast,simprocAttr,↓gd]
 exact fin1 (.bool _) (by simp only [stOk,h1,h2,h3,h4,h5,h6,h7,Bool.true_and])
theorem streamOk_ok (s:St) (hs:StB s) (hid:strmOk s.id=true) (S:List Blk):VCall Tryz.prog 83 [stV s] S fun r S'=>r=.bool (stOk s)∧S'=S:=by
 obtain ⟨b1,b2,b3,b4⟩:=hs
 refine VCall.en hD Tryz.func83 Tryz.ntmps83 Tryz.results83 ?_
 simp -implicitDefEqProofs (disch:=omega) only [push_cast,simprocAttr,↓gd]
 refine (in_ok s.state 1 3 _).to ?_
 cases h2:(decide (1≤s.state) && decide (s.state≤3))
 ·simp -implicitDefEqProofs (disch:=omega) only [push_cast,simprocAttr,↓gd]
  exact fin1 (.bool _) (by simp [stOk,h2])
 simp -implicitDefEqProofs (disch:=omega) only [push_cast,simprocAttr,↓gd]
 refine (HeadOk_ok s.head b1 _).to ?_
 cases h3:headOk s.head
 ·simp -implicitDefEqProofs (disch:=omega) only [push_cast,simprocAttr,↓gd]
  exact fin1 (.bool _) (by simp [stOk,h3])
 simp -implicitDefEqProofs (disch:=omega) only [push_cast,simprocAttr,↓gd]
 refine (HeadOk_ok s.got b2 _).to ?_
 cases h4:headOk s.got
 ·simp -implicitDefEqProofs (disch:=omega) only [push_cast,simprocAttr,↓gd]
  exact fin1 (.bool _) (by simp [stOk,h4])
 simp -implicitDefEqProofs (disch:=omega) only [push_cast,simprocAttr,↓gd]
 refine (WordOk_ok s.say (by omega) _).to ?_
 cases h5:wordOk s.say
 ·simp -implicitDefEqProofs (disch:=omega) only [push_cast,simprocAttr,↓gd]
  exact fin1 (.bool _) (by simp [stOk,h5])
 simp -implicitDefEqProofs (disch:=omega) only [push_cast,simprocAttr,↓gd]
 refine (WordOk_ok s.text (by omega) _).to ?_
 cases h6:wordOk s.text
 ·simp -implicitDefEqProofs (disch:=omega) only [push_cast,simprocAttr,↓gd]
  exact fin1 (.bool _) (by simp [stOk,h6])
 simp -implicitDefEqProofs (disch:=omega) only [push_cast,simprocAttr,↓gd]
 refine (in_ok s.sent 0 s.say.length _).to ?_
 cases h7:(decide (0≤s.sent) && decide (s.sent≤(s.say.length:Int)))
 ·simp -implicitDefEqProofs (disch:=omega) only [push_cast,simprocAttr,↓gd]
  exact fin1 (.bool _) (by simp [stOk,h7])
 simp -implicitDefEqProofs (disch:=omega) only [push_cast,simprocAttr,↓gd]
 refine (FlowOk_ok s.send s.room _).to ?_
 simp -implicitDefEqProofs (disch:=omega) only [push_cast,simprocAttr,↓gd]
 exact fin1 (.bool _) (by simp only [stOk,hid,h2,h3,h4,h5,h6,h7,Bool.true_and])
end
section
open Go
theorem FrameOk_ok (f:Fr) (S:List Blk):VCall Tryz.prog 86 [frV f] S fun r S'=>r=.bool (frameOk f)∧S'=S:=by
 obtain ⟨k,l,s,b⟩:=f
 refine VCall.en hD Tryz.func86 Tryz.ntmps86 Tryz.results86 ?_
 by_cases k8:k=8
 ·subst k8
  have fin:∀X:List Blk,(s=0∨strmOk s=true)→l=false→b.length=1→∃r S2,Wk S (.bool (decide ((1:Int)≤((b.getD 0 0).toNat:Nat)) && decide (((b.getD 0 0).toNat:Int)≤31))) (S++X) r S2∧r=.bool (frameOk ⟨8,l,s,b⟩)∧S2=S:=by
   intro X h1 h2 h3
   refine fin1 (.bool _) ?_
   subst h2
   have e:(decide (s=0) || strmOk s)=true:=by simpa using h1
   have e2:frameOk ⟨8,false,s,b⟩=(decide (1≤(b.getD 0 0).toNat) && decide ((b.getD 0 0).toNat≤31)):=by
    simp only [frameOk]
    rw [if_neg (by decide),if_neg (by decide),if_pos trivial,e,h3]
    simp [byteAt]
   rw [e2]
   have e3:decide ((1:Int)≤((b.getD 0 0).toNat:Nat))=decide (1≤(b.getD 0 0).toNat):=decide_eq_decide.2 (by omega)
   have e4:decide (((b.getD 0 0).toNat:Int)≤31)=decide ((b.getD 0 0).toNat≤31):=decide_eq_decide.2 (by omega)
   rw [e3,e4]
  have hbt:=UInt8.toNat_lt (b.getD 0 0)
  by_cases hs0:s=0
  ·subst hs0
   cases l
   ·by_cases hb1:b.length=1
    ·simp -implicitDefEqProofs (disch:=omega) only [push_cast,simprocAttr,hb1,↓gd]
     refine (in_ok _ 1 31 _).to ?_
     simp -implicitDefEqProofs (disch:=omega) only [push_cast,simprocAttr,↓gd]
     exact fin _ (.inl rfl) rfl hb1
    ·have hb1':¬(b.length:Int)=1:=by omega
     simp -implicitDefEqProofs (disch:=omega) only [push_cast,simprocAttr,hb1',↓gd]
     exact fin1 (.bool _) (by simp [frameOk,hb1])
   ·simp -implicitDefEqProofs (disch:=omega) only [push_cast,simprocAttr,↓gd]
    exact fin1 (.bool _) (by simp [frameOk])
  ·simp -implicitDefEqProofs (disch:=omega) only [push_cast,simprocAttr,hs0,↓gd]
   refine (isStream_ok s _).to ?_
   cases hs:strmOk s
   ·simp -implicitDefEqProofs (disch:=omega) only [push_cast,simprocAttr,↓gd]
    exact fin1 (.bool _) (by simp [frameOk,hs,hs0])
   ·cases l
    ·by_cases hb1:b.length=1
     ·simp -implicitDefEqProofs (disch:=omega) only [push_cast,simprocAttr,hb1,↓gd]
      refine (in_ok _ 1 31 _).to ?_
      simp -implicitDefEqProofs (disch:=omega) only [push_cast,simprocAttr,↓gd]
      exact fin _ (.inr hs) rfl hb1
     ·have hb1':¬(b.length:Int)=1:=by omega
      simp -implicitDefEqProofs (disch:=omega) only [push_cast,simprocAttr,hb1',↓gd]
      exact fin1 (.bool _) (by simp [frameOk,hb1])
    ·simp -implicitDefEqProofs (disch:=omega) only [push_cast,simprocAttr,↓gd]
     exact fin1 (.bool _) (by simp [frameOk])
 simp -implicitDefEqProofs (disch:=omega) only [push_cast,simprocAttr,k8,↓gd]
 refine (isStream_ok s _).to ?_
 cases hs:strmOk s
 ·simp -implicitDefEqProofs (disch:=omega) only [push_cast,simprocAttr,↓gd]
  exact fin1 (.bool _) (by simp [frameOk,hs,k8])
 by_cases k0:k=0
 ·subst k0
  simp -implicitDefEqProofs (disch:=omega) only [push_cast,simprocAttr,↓gd]
  exact fin1 (.bool _) (by simp [frameOk,hs]; try omega)
 by_cases k1:k=1
 ·subst k1
  simp -implicitDefEqProofs (disch:=omega) only [push_cast,simprocAttr,↓gd]
  exact fin1 (.bool _) (by simp [frameOk,hs]; try omega)
 by_cases k3:k=3
 ·subst k3
  by_cases hb:b=[]
  ·subst hb
   simp -implicitDefEqProofs (disch:=omega) only [push_cast,simprocAttr,↓gd]
   exact fin1 (.bool _) (by simp [frameOk,hs])
  ·simp -implicitDefEqProofs (disch:=omega) only [push_cast,simprocAttr,hb,↓gd]
   exact fin1 (.bool _) (by simp [frameOk,hs,hb])
 ·simp -implicitDefEqProofs (disch:=omega) only [push_cast,simprocAttr,k0,k1,k3,↓gd]
  exact fin1 (.bool _) (by simp [frameOk,k0,k1,k3,k8])
theorem l12Read_ok (b:List UInt8) (hb:b.length≤1100000) (S:List Blk):VCall Tryz.prog 77 [.str b] S fun r S'=>r=.tup [frV (frR b).1,.int .i64 (frR b).2.1,.int .i64 (frR b).2.2]∧S'=S:=by
 have h0:=UInt8.toNat_lt (b.getD 0 0)
 have h1:=UInt8.toNat_lt (b.getD 1 0)
 have h2:=UInt8.toNat_lt (b.getD 2 0)
 have h3:=UInt8.toNat_lt (b.getD 3 0)
 have fin:∀(f:Fr) (n:Nat) (is:Int) (X:List Blk),(frR b)=(f,n,is)→∃r S2,Wk S (.tup [frV f,.int .i64 n,.int .i64 is]) (S++X) r S2∧r=.tup [frV (frR b).1,.int .i64 (frR b).2.1,.int .i64 (frR b).2.2]∧S2=S:=by
  intro f n is X he
  rw [he]
  refine fin1 ?_ rfl
  simp only [cl_tup,frV_eq,cl_agg]
  intro v hv
  simp only [List.mem_cons,List.not_mem_nil,or_false] at hv
  rcases hv with rfl | rfl | rfl
  ·refine .agg (fun v hv=>?_)
   simp only [List.mem_cons,List.not_mem_nil,or_false] at hv
   rcases hv with rfl | rfl | rfl | rfl
   ·exact .int _ _
   ·exact .bool _
   ·exact .int _ _
   ·exact .str _
  ·exact .int _ _
  ·exact .int _ _
 refine VCall.ex hD (fun _=>false) (fun id=>if id=8 then [15,15,15,15,15,15,15,15,15,15,15,15,15,15,15,16] else []) Tryz.func77 Tryz.ntmps77 Tryz.results77 ?_
 by_cases h4:b.length < 4
 ·have h4':(b.length:Int) < 4:=by omega
  simp -implicitDefEqProofs (disch:=omega) only [push_cast,simprocAttr,h4',↓gd]
  exact fin fr0 0 0 _ (by rw [frR,if_pos h4])
 have h4':¬(b.length:Int) < 4:=by omega
 by_cases hn:(b.getD 0 0).toNat > 200
 ·have hn':((b.getD 0 0).toNat:Int) > 200:=by omega
  simp -implicitDefEqProofs (disch:=omega) only [push_cast,simprocAttr,h4',hn',↓gd]
  exact ⟨by omega,fin fr0 0 (-1) _ (by rw [frR,if_neg h4,if_pos (.inl hn)])⟩
 have hn':¬((b.getD 0 0).toNat:Int) > 200:=by omega
 by_cases hl:(b.getD 2 0).toNat > 1
 ·have hl':((b.getD 2 0).toNat:Int) > 1:=by omega
  simp -implicitDefEqProofs (disch:=omega) only [push_cast,simprocAttr,h4',hn',hl',↓gd]
  exact ⟨by omega,by omega,fin fr0 0 (-1) _ (by rw [frR,if_neg h4,if_pos (.inr hl)])⟩
 have hl':¬((b.getD 2 0).toNat:Int) > 1:=by omega
 have hor:¬(byteAt b 0 > 200∨byteAt b 2 > 1):=fun q=>q.elim hn hl
 by_cases hk:b.length < 4+byteAt b 0
 ·have hk':(b.length:Int) < 4+((b.getD 0 0).toNat:Int):=by unfold byteAt at hk; omega
  simp -implicitDefEqProofs (disch:=omega) only [push_cast,simprocAttr,h4',hn',hl',hk',↓gd]
  exact ⟨by omega,by omega,fin fr0 0 0 _ (by rw [frR,if_neg h4,if_neg hor,if_pos hk])⟩
 have hk':¬(b.length:Int) < 4+((b.getD 0 0).toNat:Int):=by unfold byteAt at hk; omega
 have e1:List.drop 4 (List.take (4+((b.getD 0 0).toNat:Int)).toNat b)=(b.drop 4).take (byteAt b 0):=by
  rw [List.drop_take]
  congr 1
  unfold byteAt
  omega
 have e2:decide (((b.getD 2 0).toNat:Int)=1)=decide (byteAt b 2=1):=decide_eq_decide.2 (by unfold byteAt; omega)
 have hR:frR b=if frameOk ⟨byteAt b 1,decide (byteAt b 2=1),byteAt b 3,(b.drop 4).take (byteAt b 0)⟩ then (⟨byteAt b 1,decide (byteAt b 2=1),byteAt b 3,(b.drop 4).take (byteAt b 0)⟩,4+byteAt b 0,1) else (fr0,0,-1):=by
  rw [frR,if_neg h4,if_neg hor,if_neg hk]
 simp -implicitDefEqProofs (disch:=omega) only [push_cast,simprocAttr,h4',hn',hl',hk',e1,e2,↓gd]
 refine ⟨by omega,by omega,by omega,by omega,by omega,by omega,by omega,((sFrameOk_ok ⟨byteAt b 1,decide (byteAt b 2=1),byteAt b 3,(b.drop 4).take (byteAt b 0)⟩ _).as rfl).to ?_⟩
 cases hf:frameOk ⟨byteAt b 1,decide (byteAt b 2=1),byteAt b 3,(b.drop 4).take (byteAt b 0)⟩
 ·rw [hf,if_neg (by simp)] at hR
  simp -implicitDefEqProofs (disch:=omega) only [push_cast,simprocAttr,↓gd]
  exact fin _ _ _ _ hR
 ·rw [hf,if_pos rfl] at hR
  simp -implicitDefEqProofs (disch:=omega) only [push_cast,simprocAttr,↓gd]
  exact fin _ _ _ _ hR
end
section
open Go
theorem FrameRead_ok (b:List UInt8) (hb:b.length≤1100000) (S:List Blk):VCall Tryz.prog 43 [.str b] S fun r S'=>r=.tup [frV (frR b).1,.int .i64 (frR b).2.1,.int .i64 (frR b).2.2]∧S'=S:=by
 have h0:=UInt8.toNat_lt (b.getD 0 0)
 have h1:=UInt8.toNat_lt (b.getD 1 0)
 have h2:=UInt8.toNat_lt (b.getD 2 0)
 have h3:=UInt8.toNat_lt (b.getD 3 0)
 have fin:∀(f:Fr) (n:Nat) (is:Int) (X:List Blk),(frR b)=(f,n,is)→∃r S2,Wk S (.tup [frV f,.int .i64 n,.int .i64 is]) (S++X) r S2∧r=.tup [frV (frR b).1,.int .i64 (frR b).2.1,.int .i64 (frR b).2.2]∧S2=S:=by
  intro f n is X he
  rw [he]
  refine fin1 ?_ rfl
  simp only [cl_tup,frV_eq,cl_agg]
  intro v hv
  simp only [List.mem_cons,List.not_mem_nil,or_false] at hv
  rcases hv with rfl | rfl | rfl
  ·refine .agg (fun v hv=>?_)
   simp only [List.mem_cons,List.not_mem_nil,or_false] at hv
   rcases hv with rfl | rfl | rfl | rfl
   ·exact .int _ _
   ·exact .bool _
   ·exact .int _ _
   ·exact .str _
  ·exact .int _ _
  ·exact .int _ _
 refine VCall.ex hD (fun _=>false) (fun id=>if id=8 then [14,14,14,14,14,14,14,14,14,14,14,14,14,14,15] else []) Tryz.func43 Tryz.ntmps43 Tryz.results43 ?_
 by_cases h4:b.length < 4
 ·have h4':(b.length:Int) < 4:=by omega
  simp -implicitDefEqProofs (disch:=omega) only [push_cast,simprocAttr,h4',↓gd]
  exact fin fr0 0 0 _ (by rw [frR,if_pos h4])
 have h4':¬(b.length:Int) < 4:=by omega
 by_cases hn:(b.getD 0 0).toNat > 200
 ·have hn':((b.getD 0 0).toNat:Int) > 200:=by omega
  simp -implicitDefEqProofs (disch:=omega) only [push_cast,simprocAttr,h4',hn',↓gd]
  exact ⟨by omega,by omega,fin fr0 0 (-1) _ (by rw [frR,if_neg h4,if_pos (.inl hn)])⟩
 have hn':¬((b.getD 0 0).toNat:Int) > 200:=by omega
 by_cases hl:(b.getD 2 0).toNat > 1
 ·have hl':((b.getD 2 0).toNat:Int) > 1:=by omega
  simp -implicitDefEqProofs (disch:=omega) only [push_cast,simprocAttr,h4',hn',hl',↓gd]
  exact ⟨by omega,by omega,by omega,fin fr0 0 (-1) _ (by rw [frR,if_neg h4,if_pos (.inr hl)])⟩
 have hl':¬((b.getD 2 0).toNat:Int) > 1:=by omega
 have hor:¬(byteAt b 0 > 200∨byteAt b 2 > 1):=fun q=>q.elim hn hl
 by_cases hk:b.length < 4+byteAt b 0
 ·have hk':(b.length:Int) < 4+((b.getD 0 0).toNat:Int):=by unfold byteAt at hk; omega
  simp -implicitDefEqProofs (disch:=omega) only [push_cast,simprocAttr,h4',hn',hl',hk',↓gd]
  exact ⟨by omega,by omega,by omega,fin fr0 0 0 _ (by rw [frR,if_neg h4,if_neg hor,if_pos hk])⟩
 have hk':¬(b.length:Int) < 4+((b.getD 0 0).toNat:Int):=by unfold byteAt at hk; omega
 have e1:List.drop 4 (List.take (4+((b.getD 0 0).toNat:Int)).toNat b)=(b.drop 4).take (byteAt b 0):=by
  rw [List.drop_take]
  congr 1
  unfold byteAt
  omega
 have e2:decide (((b.getD 2 0).toNat:Int)=1)=decide (byteAt b 2=1):=decide_eq_decide.2 (by unfold byteAt; omega)
 have hR:frR b=if frameOk ⟨byteAt b 1,decide (byteAt b 2=1),byteAt b 3,(b.drop 4).take (byteAt b 0)⟩ then (⟨byteAt b 1,decide (byteAt b 2=1),byteAt b 3,(b.drop 4).take (byteAt b 0)⟩,4+byteAt b 0,1) else (fr0,0,-1):=by
  rw [frR,if_neg h4,if_neg hor,if_neg hk]
 simp -implicitDefEqProofs (disch:=omega) only [push_cast,simprocAttr,h4',hn',hl',hk',e1,e2,↓gd]
 refine ⟨by omega,by omega,by omega,by omega,by omega,by omega,by omega,by omega,((FrameOk_ok ⟨byteAt b 1,decide (byteAt b 2=1),byteAt b 3,(b.drop 4).take (byteAt b 0)⟩ _).as rfl).to ?_⟩
 cases hf:frameOk ⟨byteAt b 1,decide (byteAt b 2=1),byteAt b 3,(b.drop 4).take (byteAt b 0)⟩
 ·rw [hf,if_neg (by simp)] at hR
  simp -implicitDefEqProofs (disch:=omega) only [push_cast,simprocAttr,↓gd]
  exact fin _ _ _ _ hR
 ·rw [hf,if_pos rfl] at hR
  simp -implicitDefEqProofs (disch:=omega) only [push_cast,simprocAttr,↓gd]
  exact fin _ _ _ _ hR
theorem frameOk_nat {f:Fr} (h:frameOk f=true):0≤f.kind∧0≤f.stream∧f.body.length≤200:=by
 unfold frameOk at h
 split at h
 ·rename_i hk
  simp only [Bool.and_eq_true,decide_eq_true_eq] at h
  have:=strmOk_iff.1 h.1
  omega
 ·split at h
  ·rename_i hk
   simp only [Bool.and_eq_true,decide_eq_true_eq] at h
   have:=strmOk_iff.1 h.1.1
   rw [h.2]
   simp
   omega
  ·split at h
   ·simp only [Bool.and_eq_true,Bool.or_eq_true,decide_eq_true_eq] at h
    obtain ⟨⟨⟨⟨h1,h2⟩,h3⟩,h4⟩,h5⟩:=h
    refine ⟨by omega,?_,by omega⟩
    rcases h1 with h1 | h1
    ·omega
    ·have:=strmOk_iff.1 h1; omega
   ·cases h
end
section
open Go
def HSa (sz:Nat) (cs:List V) (n:Nat) (S:List Blk) (v:V):Prop:=(∃b,v=.heap b n∧S[b]?=some (.cells sz cs))∨(n=0∧cs=[]∧v=.rows none [])
theorem HSa.one {sz n:Nat} {cs:List V} {S:List Blk} {v:V} (h:HSa sz cs n S v):V.one v=true:=by
 rcases h with ⟨b,rfl,_⟩ | ⟨_,_,rfl⟩ <;> rfl
theorem HSa.len {sz n:Nat} {cs:List V} {S:List Blk} {v:V} (h:HSa sz cs n S v) {D:Nat→TD} {t e:Nat} (ht:(D t).k=.slc e) (k:V→Prop):evLen D t v k=k (.int .i64 n):=by
 rcases h with ⟨b,rfl,_⟩ | ⟨rfl,_,rfl⟩
 ·simp only [evLen,ht]; simp
 ·simp only [evLen,ht]; simp
theorem HSa.heap {sz n:Nat} {cs:List V} {S:List Blk} {v:V} (h:HSa sz cs n S v) (hn:0 < n):∃b,v=.heap b n∧S[b]?=some (.cells sz cs):=by
 rcases h with h | ⟨h,_⟩
 ·exact h
 ·omega
theorem strsC_get {l:List St} {i:Nat} (h:i < l.length) {c:Nat} (hc:c < 12):(strsC l)[i * 12+c]?=(strC (l.getD i st0))[c]?:=by
 rw [←strsC_at h,List.getElem?_take,if_pos hc,List.getElem?_drop]
theorem strsC_id {l:List St} {i:Nat} (h:i < l.length):(strsC l)[i * 12]?=some (.int .i64 (l.getD i st0).id):=strsC_get h (c:=0) (by decide)
structure EnB (e:En):Prop where
 sts:∀s ∈ e.strs,StB s
 len:e.strs.length≤1100000
 wait:e.wait.length≤1100000
 out:FdsB e.out
 inn:FdsB e.inn
 came:e.came.length≤1100000
theorem getD_memS {l:List St} {i:Nat} (h:i < l.length):l.getD i st0 ∈ l:=by rw [getD_lt st0 h]; exact List.getElem_mem h
theorem getD_memF {l:List Fr} {i:Nat} (h:i < l.length):l.getD i fr0 ∈ l:=by rw [getD_lt fr0 h]; exact List.getElem_mem h
theorem EnW.b {N:Nat} {e:En} (h:EnW N e) (hN:N≤1100000):EnB e:=by
 refine ⟨fun s hs=>?_,by have:=stsOk_len h.sts; omega,by have:=h.len; omega,tableOk_b h.out,tableOk_b h.inn,by have:=h.came; omega⟩
 obtain ⟨i,hi,rfl⟩:=List.getElem_of_mem hs
 have:=stsOk_at h.sts hi
 rw [getD_lt st0 hi] at this
 exact stOk_b this
theorem endOk_bad {e:En} {i:Nat} (hi:i < e.strs.length) (h:okAt e.ans e.strs i=false):endOk e=false:=by
 rw [Bool.eq_false_iff]
 intro q
 have:=(endOk_iff.1 q).sts
 rw [stsOk,List.all_eq_true] at this
 have:=this i (List.mem_range.2 hi)
 rw [h] at this
 cases this
theorem sEndOk_ok (e:En) (he:EnB e) (v w:V) (S:List Blk) (hv:HSa 12 (strsC e.strs) e.strs.length S v) (hw:HSa 4 (frmsC e.wait) e.wait.length S w) :
  VCall Tryz.prog 34 [enV v w e] S fun r S'=>r=.bool (endOk e)∧S'=S:=by
 have v1:=hv.one
 have w1:=hw.one
 have hvl:∀k,evLen D 35 v k=k (.int .i64 e.strs.length):=hv.len rfl
 have hwl:∀k,evLen D 37 w k=k (.int .i64 e.wait.length):=hw.len rfl
 have hel:=he.len
 have hwn:=he.wait
 refine VCall.ex hD (fun _=>false) (fun id=>if id=4 then [5,5,5,5,5,44,44,44,44,44,44,44,44,44,44,44,44,44,44,44,44,44,44,44,44,44,44,44,44,44,44,44,44,44,44,44,44,44,44,44,44,44,44,44] else []) Tryz.func34 Tryz.ntmps34 Tryz.results34 ?_
 simp -implicitDefEqProofs (maxSteps:=1000000) (disch:=omega) only [push_cast,simprocAttr,v1,w1,↓gd]
 refine wpV_loop (fun m t S'=>∃i:Nat,m=e.strs.length - i∧i≤e.strs.length∧(∀j,j < i→okAt e.ans e.strs j=true)∧t 1=.ptr S.length 0∧t 3=.int .i64 i∧S'=S++[.cells 0 (enC v w e)]) e.strs.length ⟨0,by omega,by omega,by omega,rfl,rfl,rfl⟩ ?_
 rintro m t S' ⟨i,rfl,hi,hok,h1,h3,rfl⟩
 refine wpV_of hD (fun _=>false) (fun id=>if id=4 then [5,5,5,5,5,44,44,44,44,44,44,44,44,44,44,44,44,44,44,44,44,44,44,44,44,44,44,44,44,44,44,44,44,44,44,44,44,44,44,44,44,44,44,44] else []) (by kernel_rfl) ?_
 simp -implicitDefEqProofs (maxSteps:=1000000) (disch:=omega) only [push_cast,simprocAttr,h1,h3,hvl,↓gd]
 refine ⟨fun h=>?_,fun h=>?_⟩
 ·have hil:i < e.strs.length:=by omega
  obtain ⟨b,rfl,hb⟩:=hv.heap (by omega)
  have hbl:=lt_of_some hb
  have hb2:∀X,(S++X)[b]?=some (.cells 12 (strsC e.strs)):=fun X=>by rw [List.getElem?_append_left hbl]; exact hb
  have hlen:=strsC_len e.strs
  have hat:=strsC_at hil
  have hid:=strsC_id hil
  have hsb:=he.sts _ (getD_memS hil)
  simp -implicitDefEqProofs (maxSteps:=1000000) (disch:=omega) only [push_cast,simprocAttr,h1,h3,hb2,hat,hid,↓gd]
  have bad:okAt e.ans e.strs i=false→endOk e=false:=fun q=>endOk_bad hil q
  have hx:okAt e.ans e.strs i=(stOk (e.strs.getD i st0) && (decide (i=0) || decide ((e.strs.getD (i - 1) st0).id < (e.strs.getD i st0).id)) && (e.ans || decide ((e.strs.getD i st0).id=2 * i+1))):=rfl
  have hid':∀_:0 < i,(strsC e.strs)[(i - 1) * 12]?=some (.int .i64 (e.strs.getD (i - 1) st0).id):=fun q=>strsC_id (l:=e.strs) (i:=i - 1) (by omega)
  generalize e.strs.getD i st0=s at hat hid hsb hx
  generalize e.strs.getD (i - 1) st0=p at hid' hx
  refine ⟨by omega,by omega,by omega,((l21Stream_ok s hsb _).as rfl).to ?_⟩
  cases hs:stOk s
  ·simp -implicitDefEqProofs (maxSteps:=1000000) (disch:=omega) only [push_cast,simprocAttr,↓gd]
   exact fin1 (.bool _) (by rw [bad (by rw [hx,hs]; rfl)])
  rw [hs,Bool.true_and] at hx
  have next:okAt e.ans e.strs i=true→∃m',m' < e.strs.length - i∧∃i':Nat,m'=e.strs.length - i'∧i'≤e.strs.length∧(∀j,j < i'→okAt e.ans e.strs j=true)∧V.int .i64 ((i:Int)+1)=.int .i64 (i':Nat):=fun q =>
   ⟨e.strs.length - (i+1),by omega,i+1,rfl,by omega,fun j hj=>by
    by_cases ej:j=i
    ·rw [ej]; exact q
    ·exact hok j (by omega),rfl⟩
  by_cases h0:i=0
  ·have hip:¬0 < (i:Int):=by omega
   cases ha:e.ans
   ·by_cases h1d:s.id=2 * (i:Int)+1
    ·have hd:=eq_true h1d
     simp -implicitDefEqProofs (maxSteps:=1000000) (disch:=omega) only [push_cast,simprocAttr,h1,h3,hb2,hat,hid,hip,hd,↓gd]
     exact ⟨by omega,by omega,ha ▸ next (by rw [hx,ha,decide_eq_true h1d,decide_eq_true h0]; rfl)⟩
    ·simp -implicitDefEqProofs (maxSteps:=1000000) (disch:=omega) only [push_cast,simprocAttr,h1,h3,hb2,hat,hid,hip,h1d,↓gd]
     exact ⟨by omega,by omega,fin1 (.bool _) (by rw [bad (by rw [hx,ha,decide_eq_false h1d]; simp)])⟩
   ·simp -implicitDefEqProofs (maxSteps:=1000000) (disch:=omega) only [push_cast,simprocAttr,h1,h3,hb2,hat,hid,hip,↓gd]
    exact ha ▸ next (by rw [hx,ha,h0]; rfl)
  ·have hip:0 < (i:Int):=by omega
   have hi0:((i:Int) - 1).toNat=i - 1:=by omega
   have hid':=hid' (by omega)
   by_cases hlt:s.id≤p.id
   ·simp -implicitDefEqProofs (maxSteps:=1000000) (disch:=omega) only [push_cast,simprocAttr,h1,h3,hb2,hat,hid,hip,hid',hi0,hlt,↓gd]
    exact ⟨by omega,by omega,by omega,by omega,fin1 (.bool _) (by rw [bad (by rw [hx,decide_eq_false h0,decide_eq_false (by omega:¬p.id < s.id)]; simp)])⟩
   ·cases ha:e.ans
    ·by_cases h1d:s.id=2 * (i:Int)+1
     ·have hd:=eq_true h1d
      simp -implicitDefEqProofs (maxSteps:=1000000) (disch:=omega) only [push_cast,simprocAttr,h1,h3,hb2,hat,hid,hid',hi0,hip,hlt,hd,↓gd]
      exact ⟨by omega,by omega,by omega,by omega,by omega,by omega,ha ▸ next (by rw [hx,ha,decide_eq_true h1d,decide_eq_true (by omega:p.id < s.id)]; simp)⟩
     ·simp -implicitDefEqProofs (maxSteps:=1000000) (disch:=omega) only [push_cast,simprocAttr,h1,h3,hb2,hat,hid,hid',hi0,hip,hlt,h1d,↓gd]
      exact ⟨by omega,by omega,by omega,by omega,by omega,by omega,fin1 (.bool _) (by rw [bad (by rw [hx,ha,decide_eq_false h1d]; simp)])⟩
    ·simp -implicitDefEqProofs (maxSteps:=1000000) (disch:=omega) only [push_cast,simprocAttr,h1,h3,hb2,hat,hid,hid',hi0,hip,hlt,↓gd]
     exact ⟨by omega,by omega,by omega,by omega,ha ▸ next (by rw [hx,ha,decide_eq_true (by omega:p.id < s.id)]; simp)⟩
 ·have:i=e.strs.length:=by omega
  subst this
  have hsts:stsOk e.ans e.strs=true:=by rw [stsOk,List.all_eq_true]; exact fun j hj=>hok j (List.mem_range.1 hj)
  refine wpV_loop (fun m t S'=>∃i:Nat,m=e.wait.length - i∧i≤e.wait.length∧(∀j,j < i→frameOk (e.wait.getD j fr0)=true)∧t 1=.ptr S.length 0∧t 4=.int .i64 i∧S'=S++[.cells 0 (enC v w e)]) e.wait.length ⟨0,by omega,by omega,by omega,h1,rfl,rfl⟩ ?_
  rintro m t S' ⟨i,rfl,hi,hwk,h1,h4,rfl⟩
  refine wpV_of0 hD ?_
  simp -implicitDefEqProofs (maxSteps:=1000000) (disch:=omega) only [push_cast,simprocAttr,h1,h4,hwl,↓gd]
  refine ⟨fun h=>?_,fun h=>?_⟩
  ·have hil:i < e.wait.length:=by omega
   obtain ⟨b,rfl,hb⟩:=hw.heap (by omega)
   have hbl:=lt_of_some hb
   have hb2:∀X,(S++X)[b]?=some (.cells 4 (frmsC e.wait)):=fun X=>by rw [List.getElem?_append_left hbl]; exact hb
   have hlen:=frmsC_len e.wait
   have hat:=frmsC_at hil
   simp -implicitDefEqProofs (maxSteps:=1000000) (disch:=omega) only [push_cast,simprocAttr,h1,h4,hb2,hat,↓gd]
   refine ⟨by omega,by omega,by omega,((sFrameOk_ok (e.wait.getD i fr0) _).as rfl).to ?_⟩
   cases hf:frameOk (e.wait.getD i fr0)
   ·simp -implicitDefEqProofs (maxSteps:=1000000) (disch:=omega) only [push_cast,simprocAttr,↓gd]
    refine fin1 (.bool _) ?_
    have:endOk e=false:=by
     rw [Bool.eq_false_iff]
     intro q
     have:=(endOk_iff.1 q).wait _ (getD_memF hil)
     rw [hf] at this; cases this
    rw [this]
   ·simp -implicitDefEqProofs (maxSteps:=1000000) (disch:=omega) only [push_cast,simprocAttr,h1,h4,↓gd]
    exact ⟨e.wait.length - (i+1),by omega,i+1,rfl,by omega,fun j hj=>by
     by_cases ej:j=i
     ·rw [ej]; exact hf
     ·exact hwk j (by omega),rfl⟩
  ·have:i=e.wait.length:=by omega
   subst this
   have hwa:e.wait.all frameOk=true:=by
    rw [List.all_eq_true]
    intro f hf
    obtain ⟨j,hj,rfl⟩:=List.getElem_of_mem hf
    have:=hwk j hj
    rwa [getD_lt fr0 hj] at this
   have hE:endOk e=(tableOk e.out e.outM && tableOk e.inn e.innM && flowOk e.send e.room && decide (e.came.length≤600) && decide (e.wait.length≤60)):=by
    simp only [endOk,hsts,hwa,Bool.true_and]
   refine ((sTableOk_ok e.out e.outM he.out _).as rfl).to ?_
   cases ht1:tableOk e.out e.outM
   ·simp -implicitDefEqProofs (maxSteps:=1000000) (disch:=omega) only [push_cast,simprocAttr,↓gd]
    exact fin1 (.bool _) (by rw [hE,ht1]; rfl)
   simp -implicitDefEqProofs (maxSteps:=1000000) (disch:=omega) only [push_cast,simprocAttr,h1,↓gd]
   refine ((sTableOk_ok e.inn e.innM he.inn _).as rfl).to ?_
   cases ht2:tableOk e.inn e.innM
   ·simp -implicitDefEqProofs (maxSteps:=1000000) (disch:=omega) only [push_cast,simprocAttr,↓gd]
    exact fin1 (.bool _) (by rw [hE,ht1,ht2]; rfl)
   simp -implicitDefEqProofs (maxSteps:=1000000) (disch:=omega) only [push_cast,simprocAttr,h1,↓gd]
   refine ((sFlowOk_ok e.send e.room _).as rfl).to ?_
   cases ht3:flowOk e.send e.room
   ·simp -implicitDefEqProofs (maxSteps:=1000000) (disch:=omega) only [push_cast,simprocAttr,↓gd]
    exact fin1 (.bool _) (by rw [hE,ht1,ht2,ht3]; rfl)
   by_cases hc:e.came.length≤600
   ·have hc':(e.came.length:Int)≤600:=by omega
    simp -implicitDefEqProofs (maxSteps:=1000000) (disch:=omega) only [push_cast,simprocAttr,h1,hc',hwl,↓gd]
    exact fin1 (.bool _) (by rw [hE,ht1,ht2,ht3]; simp [hc]; omega)
   ·have hc':¬(e.came.length:Int)≤600:=by omega
    simp -implicitDefEqProofs (maxSteps:=1000000) (disch:=omega) only [push_cast,simprocAttr,h1,hc',↓gd]
    exact fin1 (.bool _) (by rw [hE,ht1,ht2,ht3]; simp [hc])
end
end Go.Proofs.YtldogccmhncnoaaGreatDoor
