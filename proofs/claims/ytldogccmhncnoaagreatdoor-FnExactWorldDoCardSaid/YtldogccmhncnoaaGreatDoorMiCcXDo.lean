/- Proved here, for every input of its row: fnExactWorldDo_card. -/
import Derived.LaidMore
import Derived.OpenShut
import Derived.ProofKit
import Derived.SevenTiedAt
import Derived.Stop.Joined
import Derived.Test.YtldogccmhncnoaaGreatDoorCards
import Derived.Test.YtldogccmhncnoaaGreatDoorTie
import Derived.Test.YtldogccmhncnoaaGreatDoorMiCbA
import Derived.Test.YtldogccmhncnoaaGreatDoorMiLxK
import Derived.Test.YtldogccmhncnoaaGreatDoorMiLyA
namespace Go.Proofs.YtldogccmhncnoaaGreatDoor
open Go
set_option linter.unusedVariables false
set_option linter.unusedSimpArgs false
set_option maxRecDepth 100000
set_option maxHeartbeats 16000000

section
open Go Go.ChangeShapes Go.WideShapes Go.ChangeAt Go.RowKit
theorem doorMet (os:Os) (args:Array Value):laidMetH Tryz.prog Rows.fnExactWorldDoRow.laid ((World.doorLaid Tryz.prog 24 os).forCall (fun _ _=>0) ⟨#[],args,[]⟩).memory :=
 laidMetH_of_parts3 (fuel:=8) (laidMet_of_run' 8 (by kernel_rfl) (by kernel_rfl)) (by kernel_rfl) (by kernel_rfl)
theorem fnExactWorldDo_lifted (os:Os) (started:os.Started) (H:Type) (enc:TypeId × Value→H) :
  ReturnsInHanded {} Tryz.checked os 4 .any (fun w args=>(Rows.fnExactWorldDoSpec.pre enc Tryz.prog Tryz.f4 [] false w args∧laidMetH Tryz.prog Rows.fnExactWorldDoRow.laid w)∧sizedMet enc Tryz.prog Tryz.f4 (OpenSpec.ofChange Rows.fnExactWorldDoSpec) false w args) (Rows.fnExactWorldDoSpec.post enc Tryz.prog Tryz.f4 false true false false):=by
 refine returnsInHanded_of_change_and (C:=Tryz.checked) (X:=fun w _=>laidMetH Tryz.prog Rows.fnExactWorldDoRow.laid w) (fun _ _ _ hh h=>h.of_heap hh) lawOwn started (by kernel_rfl) Tryz.func4
  (ChangeSpec.witness_shaped (enc:=enc) (C:=Tryz.checked) (os:=os) (X:=fun w _=>laidMetH Tryz.prog Rows.fnExactWorldDoRow.laid w) false (World.doorLaid Tryz.prog 24 os) #[.agg #[.bool false,.slice none 0 0,.int .i64 0,.slice none 0 0,.int .i64 0,.string .empty,.slice none 0 0,.int .i64 0,.int .i64 0,.slice none 0 0,.bool false,.bool false,.slice none 0 0,.int .i64 0,.slice none 0 0,.int .i64 0,.string .empty,.slice none 0 0,.int .i64 0,.int .i64 0,.slice none 0 0,.bool false,.string .empty,.string .empty],.agg #[.int .i64 0,.int .i64 0,.int .i64 0,.string .empty,.string .empty]] 8 rfl (World.shaped_of_RefB (by kernel_rfl) (by kernel_rfl)) (by kernel_rfl) (by kernel_rfl) (by kernel_rfl) (doorMet os _)) ?_
 intro W base args ds gs before hval0 hW _ _ _ _
 have hval:∀(j:Nat) t v,Tryz.f4.params[j]?=some t→args[j]?=some v→Value.okWide Tryz.prog W .any base t v:=hval0
 have hW':=hW
 obtain ⟨p,q,hA0,hV,rfl,_,_⟩:=hW
 have hA:DataW.TrodAll enc Tryz.prog W 0 (fun _=>true) true Tryz.f4.params.toList args.toList ds p:=hA0
 rw [Tryz.params4] at hA hval
 obtain ⟨v0,v1,d0,d1,p0,p1,rfl,rfl,rfl,h0,h1⟩:=trodAll_two hA
 obtain ⟨rfl,rfl⟩:=trodVars_none hV
 clear hA0 hval0
 simp only [List.append_nil] at hW'
 obtain ⟨m0,K0,hz0,hvr0⟩:=arg_struct Tryz.underlying46 rd_world (hval 0 46 v0 rfl rfl) h0
 obtain ⟨m1,K1,hz1,hvr1⟩:=arg_struct Tryz.underlying48 rd_event (hval 1 48 v1 rfl rfl) h1
 refine (law_callsR Tryz.func4 rfl rfl (FnExactWorldDo_ok m0 m1 hz0 hz1 []) (allR_two (hvr0 (K0+K1) (Nat.le_add_right _ _)) (hvr1 (K0+K1) (Nat.le_add_left _ _)))).mono fun e W' ⟨he,hb⟩=>?_
 subst he
 have hlt:∀x ∈ p0++p1,x.block < W.heap.size:=fun x hx=>by simpa using hW'.lt x hx
 have harg0:=Below.trod lawLaid (by kernel_rfl) (of_decide_eq_true (by kernel_rfl)) h0 hb (fun x hx=>hlt x (List.mem_append.2 (.inl hx)))
 have harg1:=Below.trod lawLaid (by kernel_rfl) (of_decide_eq_true (by kernel_rfl)) h1 hb (fun x hx=>hlt x (List.mem_append.2 (.inr hx)))
 refine ⟨_,rfl,_,_,_,[],_,[],hW',trodAll_mk1 (shut_bool Tryz.underlying4 _),trodAll_mk2 harg0 harg1,rfl,hb.frame _,fun h=>by cases h⟩
theorem fnExactWorldDo_holds:Rows.FnExactWorldDoSaid :=
 OpenClaim.holds_of_wide 4 Tryz.f4 rfl rfl rfl rfl rfl rfl rfl ⟨rfl,rfl,rfl,rfl,rfl⟩ rfl rfl rfl rfl rfl (by kernel_rfl) Tryz.func4 (by kernel_rfl)
  (of_decide_eq_true (by kernel_rfl)) (by unfold Func.isWrapper; first | (rw [if_pos (by decide +kernel)]; kernel_rfl) | (rw [if_neg (by decide +kernel)]; exact ⟨rfl,rfl⟩))
  (fun os started H enc _=>fnExactWorldDo_lifted os started H enc)
theorem fnExactWorldDo_card:Rows.FnExactWorldDoCardSaid :=
 Claim7.holds_tied_plain_at .later [] [.data,.data,.data] true Rows.fnExactWorldDoCard.stood.harness false
  fnExactWorldDo_holds (fun _ h=>by cases h) (by kernel_rfl) (fun _ h=>by cases h) fnExactWorldDo_row_tie rfl ⟨rfl,rfl⟩ (by kernel_rfl) rfl
  (fun f fn hf hfn=>by
   obtain rfl:f=4:=Option.some.inj ((show Tryz.prog.funcNamed Rows.fnExactWorldDoRow.func=some 4 by kernel_rfl).symm.trans hf) |>.symm
   obtain rfl:fn=Tryz.f4:=(Option.some.inj (Tryz.func4.symm.trans hfn)).symm
   exact ⟨by kernel_rfl,fun j t ht=>by
    rw [Tryz.params4] at ht
    have hm:t ∈ [46,48]:=by
     have:=Array.mem_of_getElem? ht
     simp at this
     simp [this]
    have hall:([46,48].all fun u=>!Tryz.prog.wantsStandIn u)=true:=by kernel_rfl
    exact (show Tryz.prog.wantsStandIn t=false by simpa using List.all_eq_true.1 hall t hm)⟩)
  (by kernel_rfl)
#print axioms fnExactWorldDo_card
end
end Go.Proofs.YtldogccmhncnoaaGreatDoor
