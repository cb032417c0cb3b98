/- Proved here, for every input of its row: fnExactHeadRead_holds. -/
import Derived.Test.YtldogccmhncnoaaMpCbA
import Derived.Test.YtldogccmhncnoaaMpHrC
import Derived.Test.YtldogccmhncnoaaMpLyA
namespace Go.Proofs.Ytldogccmhncnoaa
open Go
set_option linter.unusedVariables false
set_option linter.unusedSimpArgs false
set_option maxRecDepth 100000
set_option maxHeartbeats 16000000

section
open Go Go.ChangeShapes Go.WideShapes Go.ChangeAt Go.RowKit
theorem fnExactHeadRead_lifted (os:Os) (started:os.Started) (H:Type) (enc:TypeId × Value→H) :
  ReturnsInHanded {} Try.checked os 3 .any (Rows.fnExactHeadReadSpec.pre6 enc Try.prog Try.f3 Rows.fnExactHeadReadRow.domain false) (Rows.fnExactHeadReadSpec.post enc Try.prog Try.f3 false true false false):=by
 refine returnsInHanded_of_change (C:=Try.checked) lawOwn started (by kernel_rfl) Try.func3
  (ChangeSpec.witness6 (enc:=enc) (C:=Try.checked) false ⟨#[],#[.agg #[.slice none 0 0,.int .i64 0],.string .empty],[]⟩ 8 (by kernel_rfl) (by kernel_rfl) (by kernel_rfl) (by kernel_rfl)) ?_
 intro W base args ds gs before hval0 hW _ _
 have hval:∀(j:Nat) t v,Try.f3.params[j]?=some t→args[j]?=some v→Value.okWide Try.prog W .any base t v:=hval0
 have hW':=hW
 obtain ⟨p,q,hA0,hV,rfl,_,_⟩:=hW
 have hA:DataW.TrodAll enc Try.prog W 0 (fun _=>true) true Try.f3.params.toList args.toList ds p:=hA0
 rw [Try.params3] at hA hval
 obtain ⟨v0,v1,d0,d1,p0,p1,rfl,rfl,rfl,h0,h1⟩:=trodAll_two hA
 obtain ⟨rfl,rfl⟩:=trodVars_none hV
 clear hA0 hval0
 simp only [List.append_nil] at hW'
 obtain ⟨m0,K0,hz0,hvr0⟩:=arg_struct Try.underlying24 rd_table (hval 0 24 v0 rfl rfl) h0
 obtain ⟨m1,K1,hz1,hvr1⟩:=arg_cell (mv:=fun s=>V.str s) rd_str (celS_str (hval 1 9 v1 rfl rfl)) h1
 refine (law_callsR Try.func3 rfl rfl (FnExactHeadRead_ok m0 m1 hz0 hz1 []) (allR_two (hvr0 (K0+K1) (Nat.le_add_right _ _)) (hvr1 (K0+K1) (Nat.le_add_left _ _)))).mono fun e W' ⟨he,hb⟩=>?_
 subst he
 have hlt:∀x ∈ p0++p1,x.block < W.heap.size:=fun x hx=>by simpa using hW'.lt x hx
 have harg0:=Below.trod lawLaid (by kernel_rfl) (of_decide_eq_true (by kernel_rfl)) h0 hb (fun x hx=>hlt x (List.mem_append.2 (.inl hx)))
 have harg1:=Below.trod lawLaid (by kernel_rfl) (of_decide_eq_true (by kernel_rfl)) h1 hb (fun x hx=>hlt x (List.mem_append.2 (.inr hx)))
 refine ⟨_,rfl,_,_,_,[],_,[],hW',trodAll_mk1 (shut_bool Try.underlying4 _),trodAll_mk2 harg0 harg1,rfl,hb.frame _,fun h=>by cases h⟩
theorem fnExactHeadRead_holds:Rows.FnExactHeadReadSaid :=
 OpenClaim.holds_of_wide 3 Try.f3 rfl rfl rfl rfl rfl rfl rfl ⟨rfl,rfl,rfl,rfl,rfl⟩ rfl rfl rfl rfl rfl (by kernel_rfl) Try.func3 (by kernel_rfl)
  (of_decide_eq_true (by kernel_rfl)) (by unfold Func.isWrapper; first | (rw [if_pos (by decide +kernel)]; kernel_rfl) | (rw [if_neg (by decide +kernel)]; exact ⟨rfl,rfl⟩))
  (fun os started H enc _=>fnExactHeadRead_lifted os started H enc)
#print axioms fnExactHeadRead_holds
end
end Go.Proofs.Ytldogccmhncnoaa
