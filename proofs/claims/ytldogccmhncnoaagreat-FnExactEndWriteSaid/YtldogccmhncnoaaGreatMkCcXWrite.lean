/- Proved here, for every input of its row: fnExactEndWrite_holds. -/
import Derived.Test.YtldogccmhncnoaaGreatMkCbA
import Derived.Test.YtldogccmhncnoaaGreatMkLxM
import Derived.Test.YtldogccmhncnoaaGreatMkLyA
namespace Go.Proofs.YtldogccmhncnoaaGreat
open Go
set_option linter.unusedVariables false
set_option linter.unusedSimpArgs false
set_option maxRecDepth 100000
set_option maxHeartbeats 16000000

section
open Go Go.ChangeShapes Go.WideShapes Go.ChangeAt Go.RowKit
theorem fnExactEndWrite_lifted (os:Os) (started:os.Started) (H:Type) (enc:TypeId × Value→H) :
  ReturnsInHanded {} Tryz.checked os 3 .any (Rows.fnExactEndWriteSpec.pre6 enc Tryz.prog Tryz.f3 Rows.fnExactEndWriteRow.domain false) (Rows.fnExactEndWriteSpec.post enc Tryz.prog Tryz.f3 false true false false):=by
 refine returnsInHanded_of_change (C:=Tryz.checked) lawOwn started (by kernel_rfl) Tryz.func3
  (ChangeSpec.witness6 (enc:=enc) (C:=Tryz.checked) false ⟨#[],#[.agg #[.bool false,.slice none 0 0,.int .i64 0,.slice none 0 0,.int .i64 0,.string .empty,.slice none 0 0,.int .i64 0,.int .i64 0,.slice none 0 0,.bool false]],[]⟩ 8 (by kernel_rfl) (by kernel_rfl) (by kernel_rfl) (by kernel_rfl)) ?_
 intro W base args ds gs before hval0 hW _ _
 have hval:∀(j:Nat) t v,Tryz.f3.params[j]?=some t→args[j]?=some v→Value.okWide Tryz.prog W .any base t v:=hval0
 have hW':=hW
 obtain ⟨p,q,hA0,hV,rfl,_,_⟩:=hW
 have hA:DataW.TrodAll enc Tryz.prog W 0 (fun _=>true) true Tryz.f3.params.toList args.toList ds p:=hA0
 rw [Tryz.params3] at hA hval
 obtain ⟨v0,d0,rfl,rfl,h0⟩:=trodAll_one hA
 obtain ⟨rfl,rfl⟩:=trodVars_none hV
 clear hA0 hval0
 simp only [List.append_nil] at hW'
 obtain ⟨m0,K0,hz0,hvr0⟩:=arg_struct Tryz.underlying30 rd_end (hval 0 30 v0 rfl rfl) h0
 refine (law_callsR Tryz.func3 rfl rfl (FnExactEndWrite_ok m0 hz0 []) (allR_one (hvr0 K0 (Nat.le_refl _)))).mono fun e W' ⟨he,hb⟩=>?_
 subst he
 have hlt:∀x ∈ p,x.block < W.heap.size:=fun x hx=>by simpa using hW'.lt x hx
 have harg0:=Below.trod lawLaid (by kernel_rfl) (of_decide_eq_true (by kernel_rfl)) h0 hb hlt
 refine ⟨_,rfl,_,_,_,[],_,[],hW',trodAll_mk1 (shut_bool Tryz.underlying4 _),trodAll_mk1 harg0,rfl,hb.frame _,fun h=>by cases h⟩
theorem fnExactEndWrite_holds:Rows.FnExactEndWriteSaid :=
 OpenClaim.holds_of_wide 3 Tryz.f3 rfl rfl rfl rfl rfl rfl rfl ⟨rfl,rfl,rfl,rfl,rfl⟩ rfl rfl rfl rfl rfl (by kernel_rfl) Tryz.func3 (by kernel_rfl)
  (of_decide_eq_true (by kernel_rfl)) (by unfold Func.isWrapper; first | (rw [if_pos (by decide +kernel)]; kernel_rfl) | (rw [if_neg (by decide +kernel)]; exact ⟨rfl,rfl⟩))
  (fun os started H enc _=>fnExactEndWrite_lifted os started H enc)
#print axioms fnExactEndWrite_holds
end
end Go.Proofs.YtldogccmhncnoaaGreat
