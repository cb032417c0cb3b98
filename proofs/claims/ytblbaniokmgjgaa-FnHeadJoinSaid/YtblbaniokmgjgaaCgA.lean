/- What is read is a head: the law as a value call. -/
import Derived.Test.YtblbaniokmgjgaaCfE
import Derived.Test.YtblbaniokmgjgaaMoF
namespace Go.Proofs.Ytblbaniokmgjgaa
open Go
set_option linter.unusedVariables false
set_option linter.unusedSimpArgs false

theorem lkFields_same (a : List Fd) (ha : a.length ≤ 2000000) (S : List Blk) : VCall Try.prog 18 [.rows none (a.map fV), .rows none (a.map fV)] S fun r S' => r = .bool true ∧ S' = S := by
  have h := lkFields_ok a a ha ha S
  rw [decide_eq_true rfl] at h
  exact h

set_option maxHeartbeats 4000000 in
theorem FnHeadRead_ok (code : List UInt8) (S : List Blk) : VCall Try.prog 5 [.rows none (code.map u8V)] S fun r S' => r = .bool true ∧ S' = S := by
  by_cases hc1 : code.length ≤ 1048576
  · have hc1' : ¬ (code.length : Int) > 1048576 := by omega
    refine VCall.of_ev hD (fun _ => false) (fun _ => []) (n := 78) Try.func5 rfl rfl Try.ntmps5 (by kernel_rfl) (by kernel_rfl) (congrArg Array.toList Try.results5) (by simp) ?_
    simp (implicitDefEqProofs := false) (disch := omega) only [push_cast, hc1', ↓guardK_tt, ↓guardK_ff, ↓guardK_tf, ↓guardK_ft, ↓condK_t, ↓condK_f, ↓reduceIte, Nat.reduceEqDiff, reduceCtorEq, Nat.reduceAdd, Nat.reduceSub, Nat.reduceMul, Nat.reduceLT, Nat.reduceLeDiff, Int.reduceToNat, Int.reduceLE, Int.reduceLT, Int.reduceEq, Int.reduceNe, Int.reduceAdd, Int.reduceSub, Nat.reduceBEq, Option.some.injEq]
    refine (DrawHeadRead_ok code (by omega) _).mono ?_
    rintro r S1 ⟨⟨l, b, max, hl1, hl2, hbl, hm1, hm2, rfl⟩, rfl⟩
    have hlb : FdsB l := ⟨by omega, fun f hf => (hl2 f hf).b⟩
    simp (implicitDefEqProofs := false) (disch := omega) only [push_cast, ↓guardK_tt, ↓guardK_ff, ↓guardK_tf, ↓guardK_ft, ↓condK_t, ↓condK_f, ↓reduceIte, Nat.reduceEqDiff, reduceCtorEq, Nat.reduceAdd, Nat.reduceSub, Nat.reduceMul, Nat.reduceLT, Nat.reduceLeDiff, Int.reduceToNat, Int.reduceLE, Int.reduceLT, Int.reduceEq, Int.reduceNe, Int.reduceAdd, Int.reduceSub, Nat.reduceBEq, Option.some.injEq]
    refine ((sHeadRead_ok l max b hlb (by omega) _).as rfl).to ?_
    cases hr : hrM l max b with
    | none =>
      simp (implicitDefEqProofs := false) (disch := omega) only [push_cast, hrV, ↓guardK_tt, ↓guardK_ff, ↓guardK_tf, ↓guardK_ft, ↓condK_t, ↓condK_f, ↓reduceIte, Nat.reduceEqDiff, reduceCtorEq, Nat.reduceAdd, Nat.reduceSub, Nat.reduceMul, Nat.reduceLT, Nat.reduceLeDiff, Int.reduceToNat, Int.reduceLE, Int.reduceLT, Int.reduceEq, Int.reduceNe, Int.reduceAdd, Int.reduceSub, Nat.reduceBEq, Option.some.injEq]
      refine ((HeadRead_ok l max b hlb (by omega) _).as rfl).to ?_
      rw [hr]
      simp (implicitDefEqProofs := false) (disch := omega) only [push_cast, hrV, ↓guardK_tt, ↓guardK_ff, ↓guardK_tf, ↓guardK_ft, ↓condK_t, ↓condK_f, ↓reduceIte, Nat.reduceEqDiff, reduceCtorEq, Nat.reduceAdd, Nat.reduceSub, Nat.reduceMul, Nat.reduceLT, Nat.reduceLeDiff, Int.reduceToNat, Int.reduceLE, Int.reduceLT, Int.reduceEq, Int.reduceNe, Int.reduceAdd, Int.reduceSub, Nat.reduceBEq, Option.some.injEq]
      refine ((lkFields_same [] (by simp) _).as rfl).to ?_
      simp (implicitDefEqProofs := false) (disch := omega) only [push_cast, ↓guardK_tt, ↓guardK_ff, ↓guardK_tf, ↓guardK_ft, ↓condK_t, ↓condK_f, ↓reduceIte, Nat.reduceEqDiff, reduceCtorEq, Nat.reduceAdd, Nat.reduceSub, Nat.reduceMul, Nat.reduceLT, Nat.reduceLeDiff, Int.reduceToNat, Int.reduceLE, Int.reduceLT, Int.reduceEq, Int.reduceNe, Int.reduceAdd, Int.reduceSub, Nat.reduceBEq, Option.some.injEq]
      refine ((lkTable_self [] 0 (by simp) _).as rfl).to ?_
      simp (implicitDefEqProofs := false) (disch := omega) only [push_cast, ↓guardK_tt, ↓guardK_ff, ↓guardK_tf, ↓guardK_ft, ↓condK_t, ↓condK_f, ↓reduceIte, Nat.reduceEqDiff, reduceCtorEq, Nat.reduceAdd, Nat.reduceSub, Nat.reduceMul, Nat.reduceLT, Nat.reduceLeDiff, Int.reduceToNat, Int.reduceLE, Int.reduceLT, Int.reduceEq, Int.reduceNe, Int.reduceAdd, Int.reduceSub, Nat.reduceBEq, Option.some.injEq]
      refine ((lkFields_same [] (by simp) _).as rfl).to ?_
      simp (implicitDefEqProofs := false) (disch := omega) only [push_cast, ↓guardK_tt, ↓guardK_ff, ↓guardK_tf, ↓guardK_ft, ↓condK_t, ↓condK_f, ↓reduceIte, Nat.reduceEqDiff, reduceCtorEq, Nat.reduceAdd, Nat.reduceSub, Nat.reduceMul, Nat.reduceLT, Nat.reduceLeDiff, Int.reduceToNat, Int.reduceLE, Int.reduceLT, Int.reduceEq, Int.reduceNe, Int.reduceAdd, Int.reduceSub, Nat.reduceBEq, Option.some.injEq]
      refine ((lkTable_self [] 0 (by simp) _).as rfl).to ?_
      simp (implicitDefEqProofs := false) (disch := omega) only [push_cast, ↓guardK_tt, ↓guardK_ff, ↓guardK_tf, ↓guardK_ft, ↓condK_t, ↓condK_f, ↓reduceIte, Nat.reduceEqDiff, reduceCtorEq, Nat.reduceAdd, Nat.reduceSub, Nat.reduceMul, Nat.reduceLT, Nat.reduceLeDiff, Int.reduceToNat, Int.reduceLE, Int.reduceLT, Int.reduceEq, Int.reduceNe, Int.reduceAdd, Int.reduceSub, Nat.reduceBEq, Option.some.injEq]
      exact fin1 (.bool _) rfl
    | some y =>
      obtain ⟨x, h⟩ := y
      obtain ⟨g1, g2, g3, g4⟩ := hrM_good hr
      obtain ⟨k1, k2⟩ := headOk_parts g4
      obtain ⟨t1, t2, t3, t4, t5⟩ := tableOk_parts g3
      have hxb : FdsB x := ⟨by omega, fun f hf => by
        obtain ⟨_, _, _, q1, q2⟩ := fieldOk_parts (t4 f hf).1
        exact ⟨by omega, by omega⟩⟩
      have hhb : FdsB h := ⟨by omega, fun f hf => by
        obtain ⟨_, _, _, q1, q2⟩ := fieldOk_parts (k1 f hf)
        exact ⟨by omega, by omega⟩⟩
      simp (implicitDefEqProofs := false) (disch := omega) only [push_cast, hrV, ↓guardK_tt, ↓guardK_ff, ↓guardK_tf, ↓guardK_ft, ↓condK_t, ↓condK_f, ↓reduceIte, Nat.reduceEqDiff, reduceCtorEq, Nat.reduceAdd, Nat.reduceSub, Nat.reduceMul, Nat.reduceLT, Nat.reduceLeDiff, Int.reduceToNat, Int.reduceLE, Int.reduceLT, Int.reduceEq, Int.reduceNe, Int.reduceAdd, Int.reduceSub, Nat.reduceBEq, Option.some.injEq]
      refine ((HeadRead_ok l max b hlb (by omega) _).as rfl).to ?_
      rw [hr]
      simp (implicitDefEqProofs := false) (disch := omega) only [push_cast, hrV, ↓guardK_tt, ↓guardK_ff, ↓guardK_tf, ↓guardK_ft, ↓condK_t, ↓condK_f, ↓reduceIte, Nat.reduceEqDiff, reduceCtorEq, Nat.reduceAdd, Nat.reduceSub, Nat.reduceMul, Nat.reduceLT, Nat.reduceLeDiff, Int.reduceToNat, Int.reduceLE, Int.reduceLT, Int.reduceEq, Int.reduceNe, Int.reduceAdd, Int.reduceSub, Nat.reduceBEq, Option.some.injEq]
      refine ((lkFields_same h (by omega) _).as rfl).to ?_
      simp (implicitDefEqProofs := false) (disch := omega) only [push_cast, ↓guardK_tt, ↓guardK_ff, ↓guardK_tf, ↓guardK_ft, ↓condK_t, ↓condK_f, ↓reduceIte, Nat.reduceEqDiff, reduceCtorEq, Nat.reduceAdd, Nat.reduceSub, Nat.reduceMul, Nat.reduceLT, Nat.reduceLeDiff, Int.reduceToNat, Int.reduceLE, Int.reduceLT, Int.reduceEq, Int.reduceNe, Int.reduceAdd, Int.reduceSub, Nat.reduceBEq, Option.some.injEq]
      refine ((lkTable_self x max (by omega) _).as rfl).to ?_
      simp (implicitDefEqProofs := false) (disch := omega) only [push_cast, ↓guardK_tt, ↓guardK_ff, ↓guardK_tf, ↓guardK_ft, ↓condK_t, ↓condK_f, ↓reduceIte, Nat.reduceEqDiff, reduceCtorEq, Nat.reduceAdd, Nat.reduceSub, Nat.reduceMul, Nat.reduceLT, Nat.reduceLeDiff, Int.reduceToNat, Int.reduceLE, Int.reduceLT, Int.reduceEq, Int.reduceNe, Int.reduceAdd, Int.reduceSub, Nat.reduceBEq, Option.some.injEq]
      refine ((HeadOk_ok h hhb _).as rfl).to ?_
      rw [g4]
      simp (implicitDefEqProofs := false) (disch := omega) only [push_cast, ↓guardK_tt, ↓guardK_ff, ↓guardK_tf, ↓guardK_ft, ↓condK_t, ↓condK_f, ↓reduceIte, Nat.reduceEqDiff, reduceCtorEq, Nat.reduceAdd, Nat.reduceSub, Nat.reduceMul, Nat.reduceLT, Nat.reduceLeDiff, Int.reduceToNat, Int.reduceLE, Int.reduceLT, Int.reduceEq, Int.reduceNe, Int.reduceAdd, Int.reduceSub, Nat.reduceBEq, Option.some.injEq]
      refine ((TableOk_ok x max hxb _).as rfl).to ?_
      rw [g3]
      simp (implicitDefEqProofs := false) (disch := omega) only [push_cast, ↓guardK_tt, ↓guardK_ff, ↓guardK_tf, ↓guardK_ft, ↓condK_t, ↓condK_f, ↓reduceIte, Nat.reduceEqDiff, reduceCtorEq, Nat.reduceAdd, Nat.reduceSub, Nat.reduceMul, Nat.reduceLT, Nat.reduceLeDiff, Int.reduceToNat, Int.reduceLE, Int.reduceLT, Int.reduceEq, Int.reduceNe, Int.reduceAdd, Int.reduceSub, Nat.reduceBEq, Option.some.injEq]
      exact fin1 (.bool _) rfl
  · have hc1' : (code.length : Int) > 1048576 := by omega
    refine VCall.of_ev hD (fun _ => false) (fun _ => []) (n := 78) Try.func5 rfl rfl Try.ntmps5 (by kernel_rfl) (by kernel_rfl) (congrArg Array.toList Try.results5) (by simp) ?_
    simp (implicitDefEqProofs := false) (disch := omega) only [push_cast, hc1', ↓guardK_tt, ↓guardK_ff, ↓guardK_tf, ↓guardK_ft, ↓condK_t, ↓condK_f, ↓reduceIte, Nat.reduceEqDiff, reduceCtorEq, Nat.reduceAdd, Nat.reduceSub, Nat.reduceMul, Nat.reduceLT, Nat.reduceLeDiff, Int.reduceToNat, Int.reduceLE, Int.reduceLT, Int.reduceEq, Int.reduceNe, Int.reduceAdd, Int.reduceSub, Nat.reduceBEq, Option.some.injEq]
    exact fin0 rfl

end Go.Proofs.Ytblbaniokmgjgaa
