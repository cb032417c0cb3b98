/- Proved here, for every input of its row: fnExactWorldPlay_card. -/
import Derived.LaidMore
import Derived.OpenShut
import Derived.ProofKit
import Derived.SevenTiedAt
import Derived.Stop.Joined
import Derived.Test.YtldogccmhncnoaaGreatDoorCards
import Derived.Test.YtldogccmhncnoaaGreatDoorTie
import Derived.Test.YtldogccmhncnoaaGreatDoorMjCbA
import Derived.Test.YtldogccmhncnoaaGreatDoorMjLxL
import Derived.Test.YtldogccmhncnoaaGreatDoorMjLyA
namespace Go.Proofs.YtldogccmhncnoaaGreatDoor
open Go
set_option linter.unusedVariables false
set_option linter.unusedSimpArgs false
set_option maxRecDepth 100000
set_option maxHeartbeats 16000000

section
open Go Go.ChangeShapes Go.WideShapes Go.ChangeAt Go.RowKit
theorem doorMet (os:Os) (args:Array Value):laidMetH Tryz.prog Rows.fnExactWorldPlayRow.laid ((World.doorLaid Tryz.prog 24 os).forCall (fun _ _=>0) ⟨#[],args,[]⟩).memory :=
 laidMetH_of_parts3 (fuel:=8) (laidMet_of_run' 8 (by kernel_rfl) (by kernel_rfl)) (by kernel_rfl) (by kernel_rfl)
theorem fnExactWorldPlay_lifted (os:Os) (started:os.Started) (H:Type) (enc:TypeId × Value→H) :
  ReturnsInHanded {} Tryz.checked os 6 .any (fun w args=>(Rows.fnExactWorldPlaySpec.pre enc Tryz.prog Tryz.f6 [] false w args∧laidMetH Tryz.prog Rows.fnExactWorldPlayRow.laid w)∧sizedMet enc Tryz.prog Tryz.f6 (OpenSpec.ofChange Rows.fnExactWorldPlaySpec) false w args) (Rows.fnExactWorldPlaySpec.post enc Tryz.prog Tryz.f6 false true false false):=by
 refine returnsInHanded_of_change_and (C:=Tryz.checked) (X:=fun w _=>laidMetH Tryz.prog Rows.fnExactWorldPlayRow.laid w) (fun _ _ _ hh h=>h.of_heap hh) lawOwn started (by kernel_rfl) Tryz.func6
  (ChangeSpec.witness_shaped (enc:=enc) (C:=Tryz.checked) (os:=os) (X:=fun w _=>laidMetH Tryz.prog Rows.fnExactWorldPlayRow.laid w) false (World.doorLaid Tryz.prog 24 os) #[.slice none 0 0] 8 rfl (World.shaped_of_RefB (by kernel_rfl) (by kernel_rfl)) (by kernel_rfl) (by kernel_rfl) (by kernel_rfl) (doorMet os _)) ?_
 intro W base args ds gs before hval0 hW _ _ _ _
 have hval:∀(j:Nat) t v,Tryz.f6.params[j]?=some t→args[j]?=some v→Value.okWide Tryz.prog W .any base t v:=hval0
 have hW':=hW
 obtain ⟨p,q,hA0,hV,rfl,_,_⟩:=hW
 have hA:DataW.TrodAll enc Tryz.prog W 0 (fun _=>true) true Tryz.f6.params.toList args.toList ds p:=hA0
 rw [Tryz.params6] at hA hval
 obtain ⟨v0,d0,rfl,rfl,h0⟩:=trodAll_one hA
 obtain ⟨rfl,rfl⟩:=trodVars_none hV
 clear hA0 hval0
 simp only [List.append_nil] at hW'
 obtain ⟨m0,K0,hz0,hvr0⟩:=arg_cell (mv:=fun l:List Ev=>V.rows none (l.map evV)) rd_events (celS_slice Tryz.underlying62 (hval 0 62 v0 rfl rfl)) h0
 refine (law_callsR Tryz.func6 rfl rfl (FnExactWorldPlay_ok m0 hz0 []) (allR_one (hvr0 K0 (Nat.le_refl _)))).mono fun e W' ⟨he,hb⟩=>?_
 subst he
 have hlt:∀x ∈ p,x.block < W.heap.size:=fun x hx=>by simpa using hW'.lt x hx
 have harg0:=Below.trod lawLaid (by kernel_rfl) (of_decide_eq_true (by kernel_rfl)) h0 hb hlt
 refine ⟨_,rfl,_,_,_,[],_,[],hW',trodAll_mk1 (shut_bool Tryz.underlying4 _),trodAll_mk1 harg0,rfl,hb.frame _,fun h=>by cases h⟩
theorem fnExactWorldPlay_holds:Rows.FnExactWorldPlaySaid :=
 OpenClaim.holds_of_wide 6 Tryz.f6 rfl rfl rfl rfl rfl rfl rfl ⟨rfl,rfl,rfl,rfl,rfl⟩ rfl rfl rfl rfl rfl (by kernel_rfl) Tryz.func6 (by kernel_rfl)
  (of_decide_eq_true (by kernel_rfl)) (by unfold Func.isWrapper; first | (rw [if_pos (by decide +kernel)]; kernel_rfl) | (rw [if_neg (by decide +kernel)]; exact ⟨rfl,rfl⟩))
  (fun os started H enc _=>fnExactWorldPlay_lifted os started H enc)
theorem fnExactWorldPlay_card:Rows.FnExactWorldPlayCardSaid :=
 Claim7.holds_tied_plain_at .later [] [.data,.data,.data] true Rows.fnExactWorldPlayCard.stood.harness false
  fnExactWorldPlay_holds (fun _ h=>by cases h) (by kernel_rfl) (fun _ h=>by cases h) fnExactWorldPlay_row_tie rfl ⟨rfl,rfl⟩ (by kernel_rfl) rfl
  (fun f fn hf hfn=>by
   obtain rfl:f=6:=Option.some.inj ((show Tryz.prog.funcNamed Rows.fnExactWorldPlayRow.func=some 6 by kernel_rfl).symm.trans hf) |>.symm
   obtain rfl:fn=Tryz.f6:=(Option.some.inj (Tryz.func6.symm.trans hfn)).symm
   exact ⟨by kernel_rfl,fun j t ht=>by
    rw [Tryz.params6] at ht
    have hm:t ∈ [62]:=by
     have:=Array.mem_of_getElem? ht
     simp at this
     simp [this]
    have hall:([62].all fun u=>!Tryz.prog.wantsStandIn u)=true:=by kernel_rfl
    exact (show Tryz.prog.wantsStandIn t=false by simpa using List.all_eq_true.1 hall t hm)⟩)
  (by kernel_rfl)
#print axioms fnExactWorldPlay_card
end
end Go.Proofs.YtldogccmhncnoaaGreatDoor
