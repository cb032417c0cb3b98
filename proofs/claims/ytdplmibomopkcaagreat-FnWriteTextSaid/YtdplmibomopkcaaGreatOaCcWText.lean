/- Proved here, for every input of its row: fnWriteText_holds. -/
import Derived.Test.YtdplmibomopkcaaGreatOa17
import Derived.Test.YtdplmibomopkcaaGreatOaLzF
namespace Go.Proofs.YtdplmibomopkcaaGreat
open Go
set_option linter.unusedVariables false
set_option linter.unusedSimpArgs false
set_option maxRecDepth 100000
set_option maxHeartbeats 16000000

section
open Go Go.ChangeShapes Go.WideShapes Go.ChangeAt Go.RowKit
theorem fnWriteText_lifted (os:Os) (started:os.Started) (H:Type) (enc:TypeId × Value→H) :
  ReturnsInHanded {} Tryz.checked os 6 .any (Rows.fnWriteTextSpec.pre6 enc Tryz.prog Tryz.f6 Rows.fnWriteTextRow.domain false) (Rows.fnWriteTextSpec.post enc Tryz.prog Tryz.f6 false true false false):=by
 refine returnsInHanded_of_change (C:=Tryz.checked) lawOwn started (by kernel_rfl) Tryz.func6
  (ChangeSpec.witness6 (enc:=enc) (C:=Tryz.checked) false ⟨#[],#[.slice none 0 0],[]⟩ 8 (by kernel_rfl) (by kernel_rfl) (by kernel_rfl) (by kernel_rfl)) ?_
 intro W base args ds gs before hval0 hW _ _
 have hval:∀(j:Nat) t v,Tryz.f6.params[j]?=some t→args[j]?=some v→Value.okWide Tryz.prog W .any base t v:=hval0
 have hW':=hW
 obtain ⟨p,q,hA0,hV,rfl,_,_⟩:=hW
 have hA:DataW.TrodAll enc Tryz.prog W 0 (fun _=>true) true Tryz.f6.params.toList args.toList ds p:=hA0
 rw [Tryz.params6] at hA hval
 obtain ⟨v0,d0,rfl,rfl,h0⟩:=trodAll_one hA
 obtain ⟨rfl,rfl⟩:=trodVars_none hV
 clear hA0 hval0
 simp only [List.append_nil] at hW'
 obtain ⟨code,K,hvr⟩:=bytes_arg (hval 0 22 v0 rfl rfl) h0
 refine (law_callsR Tryz.func6 rfl rfl (FnWriteText_ok code []) (allR_one (hvr K (Nat.le_refl _)))).mono fun e W' ⟨he,hb⟩=>?_
 subst he
 have hlt:∀x ∈ p,x.block < W.heap.size:=fun x hx=>by simpa using hW'.lt x hx
 have harg0:=Below.trod lawLaid (by kernel_rfl) (of_decide_eq_true (by kernel_rfl)) h0 hb hlt
 refine ⟨_,rfl,_,_,_,[],_,[],hW',trodAll_mk1 (shut_bool Tryz.underlying4 _),trodAll_mk1 harg0,rfl,hb.frame _,fun h=>by cases h⟩
theorem fnWriteText_holds:Rows.FnWriteTextSaid :=
 OpenClaim.holds_of_wide 6 Tryz.f6 rfl rfl rfl rfl rfl rfl rfl ⟨rfl,rfl,rfl,rfl,rfl⟩ rfl rfl rfl rfl rfl (by kernel_rfl) Tryz.func6 (by kernel_rfl)
  (of_decide_eq_true (by kernel_rfl)) (by unfold Func.isWrapper; first | (rw [if_pos (by decide +kernel)]; kernel_rfl) | (rw [if_neg (by decide +kernel)]; exact ⟨rfl,rfl⟩))
  (fun os started H enc _=>fnWriteText_lifted os started H enc)
#print axioms fnWriteText_holds
end
end Go.Proofs.YtdplmibomopkcaaGreat
