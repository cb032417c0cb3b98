/- Proved here, for every input of its row: fnExactEndHear_card. -/
import Derived.LaidMore
import Derived.OpenShut
import Derived.ProofKit
import Derived.SevenTiedAt
import Derived.Stop.Joined
import Derived.Test.YtldogccmhncnoaaGreatDoorCards
import Derived.Test.YtldogccmhncnoaaGreatDoorTie
import Derived.Test.YtldogccmhncnoaaGreatDoorMhCbA
import Derived.Test.YtldogccmhncnoaaGreatDoorMhLxI
import Derived.Test.YtldogccmhncnoaaGreatDoorMhLyA
namespace Go.Proofs.YtldogccmhncnoaaGreatDoor
open Go
set_option linter.unusedVariables false
set_option linter.unusedSimpArgs false
set_option maxRecDepth 100000
set_option maxHeartbeats 16000000

section
open Go Go.ChangeShapes Go.WideShapes Go.ChangeAt Go.RowKit
theorem doorMet (os:Os) (args:Array Value):laidMetH Tryz.prog Rows.fnExactEndHearRow.laid ((World.doorLaid Tryz.prog 24 os).forCall (fun _ _=>0) ⟨#[],args,[]⟩).memory :=
 laidMetH_of_parts3 (fuel:=8) (laidMet_of_run' 8 (by kernel_rfl) (by kernel_rfl)) (by kernel_rfl) (by kernel_rfl)
theorem fnExactEndHear_lifted (os:Os) (started:os.Started) (H:Type) (enc:TypeId × Value→H) :
  ReturnsInHanded {} Tryz.checked os 3 .any (fun w args=>(Rows.fnExactEndHearSpec.pre enc Tryz.prog Tryz.f3 [] false w args∧laidMetH Tryz.prog Rows.fnExactEndHearRow.laid w)∧sizedMet enc Tryz.prog Tryz.f3 (OpenSpec.ofChange Rows.fnExactEndHearSpec) false w args) (Rows.fnExactEndHearSpec.post enc Tryz.prog Tryz.f3 false true false false):=by
 refine returnsInHanded_of_change_and (C:=Tryz.checked) (X:=fun w _=>laidMetH Tryz.prog Rows.fnExactEndHearRow.laid w) (fun _ _ _ hh h=>h.of_heap hh) lawOwn started (by kernel_rfl) Tryz.func3
  (ChangeSpec.witness_shaped (enc:=enc) (C:=Tryz.checked) (os:=os) (X:=fun w _=>laidMetH Tryz.prog Rows.fnExactEndHearRow.laid w) false (World.doorLaid Tryz.prog 24 os) #[.agg #[.bool false,.slice none 0 0,.int .i64 0,.slice none 0 0,.int .i64 0,.string .empty,.slice none 0 0,.int .i64 0,.int .i64 0,.slice none 0 0,.bool false],.string .empty] 8 rfl (World.shaped_of_RefB (by kernel_rfl) (by kernel_rfl)) (by kernel_rfl) (by kernel_rfl) (by kernel_rfl) (doorMet os _)) ?_
 intro W base args ds gs before hval0 hW _ _ _ _
 have hval:∀(j:Nat) t v,Tryz.f3.params[j]?=some t→args[j]?=some v→Value.okWide Tryz.prog W .any base t v:=hval0
 have hW':=hW
 obtain ⟨p,q,hA0,hV,rfl,_,_⟩:=hW
 have hA:DataW.TrodAll enc Tryz.prog W 0 (fun _=>true) true Tryz.f3.params.toList args.toList ds p:=hA0
 rw [Tryz.params3] at hA hval
 obtain ⟨v0,v1,d0,d1,p0,p1,rfl,rfl,rfl,h0,h1⟩:=trodAll_two hA
 obtain ⟨rfl,rfl⟩:=trodVars_none hV
 clear hA0 hval0
 simp only [List.append_nil] at hW'
 obtain ⟨m0,K0,hz0,hvr0⟩:=arg_struct Tryz.underlying30 rd_end (hval 0 30 v0 rfl rfl) h0
 obtain ⟨m1,K1,hz1,hvr1⟩:=arg_cell (mv:=fun s=>V.str s) rd_str (celS_str (hval 1 9 v1 rfl rfl)) h1
 refine (law_callsR Tryz.func3 rfl rfl (FnExactEndHear_ok m0 m1 hz0 hz1 []) (allR_two (hvr0 (K0+K1) (Nat.le_add_right _ _)) (hvr1 (K0+K1) (Nat.le_add_left _ _)))).mono fun e W' ⟨he,hb⟩=>?_
 subst he
 have hlt:∀x ∈ p0++p1,x.block < W.heap.size:=fun x hx=>by simpa using hW'.lt x hx
 have harg0:=Below.trod lawLaid (by kernel_rfl) (of_decide_eq_true (by kernel_rfl)) h0 hb (fun x hx=>hlt x (List.mem_append.2 (.inl hx)))
 have harg1:=Below.trod lawLaid (by kernel_rfl) (of_decide_eq_true (by kernel_rfl)) h1 hb (fun x hx=>hlt x (List.mem_append.2 (.inr hx)))
 refine ⟨_,rfl,_,_,_,[],_,[],hW',trodAll_mk1 (shut_bool Tryz.underlying4 _),trodAll_mk2 harg0 harg1,rfl,hb.frame _,fun h=>by cases h⟩
theorem fnExactEndHear_holds:Rows.FnExactEndHearSaid :=
 OpenClaim.holds_of_wide 3 Tryz.f3 rfl rfl rfl rfl rfl rfl rfl ⟨rfl,rfl,rfl,rfl,rfl⟩ rfl rfl rfl rfl rfl (by kernel_rfl) Tryz.func3 (by kernel_rfl)
  (of_decide_eq_true (by kernel_rfl)) (by unfold Func.isWrapper; first | (rw [if_pos (by decide +kernel)]; kernel_rfl) | (rw [if_neg (by decide +kernel)]; exact ⟨rfl,rfl⟩))
  (fun os started H enc _=>fnExactEndHear_lifted os started H enc)
theorem fnExactEndHear_card:Rows.FnExactEndHearCardSaid :=
 Claim7.holds_tied_plain_at .later [] [.data,.data,.data] true Rows.fnExactEndHearCard.stood.harness false
  fnExactEndHear_holds (fun _ h=>by cases h) (by kernel_rfl) (fun _ h=>by cases h) fnExactEndHear_row_tie rfl ⟨rfl,rfl⟩ (by kernel_rfl) rfl
  (fun f fn hf hfn=>by
   obtain rfl:f=3:=Option.some.inj ((show Tryz.prog.funcNamed Rows.fnExactEndHearRow.func=some 3 by kernel_rfl).symm.trans hf) |>.symm
   obtain rfl:fn=Tryz.f3:=(Option.some.inj (Tryz.func3.symm.trans hfn)).symm
   exact ⟨by kernel_rfl,fun j t ht=>by
    rw [Tryz.params3] at ht
    have hm:t ∈ [30,9]:=by
     have:=Array.mem_of_getElem? ht
     simp at this
     simp [this]
    have hall:([30,9].all fun u=>!Tryz.prog.wantsStandIn u)=true:=by kernel_rfl
    exact (show Tryz.prog.wantsStandIn t=false by simpa using List.all_eq_true.1 hall t hm)⟩)
  (by kernel_rfl)
#print axioms fnExactEndHear_card
end
end Go.Proofs.YtldogccmhncnoaaGreatDoor
