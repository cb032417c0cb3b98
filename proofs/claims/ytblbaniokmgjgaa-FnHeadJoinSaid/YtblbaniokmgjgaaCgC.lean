/- Bytes of two heads are those of one: the law as a value call. -/
import Derived.Test.YtblbaniokmgjgaaCgA
namespace Go.Proofs.Ytblbaniokmgjgaa
open Go
set_option linter.unusedVariables false
set_option linter.unusedSimpArgs false

set_option maxHeartbeats 4000000 in
theorem FnHeadJoin_ok (code more : List UInt8) (S : List Blk) : VCall Try.prog 6 [.rows none (code.map u8V), .rows none (more.map u8V)] S fun r S' => r = .bool true ∧ S' = S := by
  by_cases hc1 : code.length ≤ 1048576
  · have hc1' : ¬ (code.length : Int) > 1048576 := by omega
    by_cases hc2 : more.length ≤ 1048576
    · have hc2' : ¬ (more.length : Int) > 1048576 := by omega
      refine VCall.of_ev hD (fun _ => false) (fun _ => []) (n := 133) Try.func6 rfl rfl Try.ntmps6 (by kernel_rfl) (by kernel_rfl) (congrArg Array.toList Try.results6) (by simp) ?_
      simp (implicitDefEqProofs := false) (disch := omega) only [push_cast, hc1', hc2', ↓guardK_tt, ↓guardK_ff, ↓guardK_tf, ↓guardK_ft, ↓condK_t, ↓condK_f, ↓reduceIte, Nat.reduceEqDiff, reduceCtorEq, Nat.reduceAdd, Nat.reduceSub, Nat.reduceMul, Nat.reduceLT, Nat.reduceLeDiff, Int.reduceToNat, Int.reduceLE, Int.reduceLT, Int.reduceEq, Int.reduceNe, Int.reduceAdd, Int.reduceSub, Nat.reduceBEq, Option.some.injEq]
      refine (DrawHeadRead_ok code (by omega) _).mono ?_
      rintro r S1 ⟨⟨l, b, max, hl1, hl2, hbl, hm1, hm2, rfl⟩, rfl⟩
      have hlb : FdsB l := ⟨by omega, fun f hf => (hl2 f hf).b⟩
      simp (implicitDefEqProofs := false) (disch := omega) only [push_cast, ↓guardK_tt, ↓guardK_ff, ↓guardK_tf, ↓guardK_ft, ↓condK_t, ↓condK_f, ↓reduceIte, Nat.reduceEqDiff, reduceCtorEq, Nat.reduceAdd, Nat.reduceSub, Nat.reduceMul, Nat.reduceLT, Nat.reduceLeDiff, Int.reduceToNat, Int.reduceLE, Int.reduceLT, Int.reduceEq, Int.reduceNe, Int.reduceAdd, Int.reduceSub, Nat.reduceBEq, Option.some.injEq]
      refine ((sHeadRead_ok l max b hlb (by omega) _).as rfl).to ?_
      cases hr : hrM l max b with
      | none =>
        simp (implicitDefEqProofs := false) (disch := omega) only [push_cast, hrV, ↓guardK_tt, ↓guardK_ff, ↓guardK_tf, ↓guardK_ft, ↓condK_t, ↓condK_f, ↓reduceIte, Nat.reduceEqDiff, reduceCtorEq, Nat.reduceAdd, Nat.reduceSub, Nat.reduceMul, Nat.reduceLT, Nat.reduceLeDiff, Int.reduceToNat, Int.reduceLE, Int.reduceLT, Int.reduceEq, Int.reduceNe, Int.reduceAdd, Int.reduceSub, Nat.reduceBEq, Option.some.injEq]
        refine ((HeadRead_ok l max b hlb (by omega) _).as rfl).to ?_
        rw [hr]
        simp (implicitDefEqProofs := false) (disch := omega) only [push_cast, hrV, ↓guardK_tt, ↓guardK_ff, ↓guardK_tf, ↓guardK_ft, ↓condK_t, ↓condK_f, ↓reduceIte, Nat.reduceEqDiff, reduceCtorEq, Nat.reduceAdd, Nat.reduceSub, Nat.reduceMul, Nat.reduceLT, Nat.reduceLeDiff, Int.reduceToNat, Int.reduceLE, Int.reduceLT, Int.reduceEq, Int.reduceNe, Int.reduceAdd, Int.reduceSub, Nat.reduceBEq, Option.some.injEq]
        refine ((lkFields_same [] (by simp) _).as rfl).to ?_
        simp (implicitDefEqProofs := false) (disch := omega) only [push_cast, ↓guardK_tt, ↓guardK_ff, ↓guardK_tf, ↓guardK_ft, ↓condK_t, ↓condK_f, ↓reduceIte, Nat.reduceEqDiff, reduceCtorEq, Nat.reduceAdd, Nat.reduceSub, Nat.reduceMul, Nat.reduceLT, Nat.reduceLeDiff, Int.reduceToNat, Int.reduceLE, Int.reduceLT, Int.reduceEq, Int.reduceNe, Int.reduceAdd, Int.reduceSub, Nat.reduceBEq, Option.some.injEq]
        refine ((lkTable_self [] 0 (by simp) _).as rfl).to ?_
        simp (implicitDefEqProofs := false) (disch := omega) only [push_cast, ↓guardK_tt, ↓guardK_ff, ↓guardK_tf, ↓guardK_ft, ↓condK_t, ↓condK_f, ↓reduceIte, Nat.reduceEqDiff, reduceCtorEq, Nat.reduceAdd, Nat.reduceSub, Nat.reduceMul, Nat.reduceLT, Nat.reduceLeDiff, Int.reduceToNat, Int.reduceLE, Int.reduceLT, Int.reduceEq, Int.reduceNe, Int.reduceAdd, Int.reduceSub, Nat.reduceBEq, Option.some.injEq]
        refine ((lkFields_same [] (by simp) _).as rfl).to ?_
        simp (implicitDefEqProofs := false) (disch := omega) only [push_cast, ↓guardK_tt, ↓guardK_ff, ↓guardK_tf, ↓guardK_ft, ↓condK_t, ↓condK_f, ↓reduceIte, Nat.reduceEqDiff, reduceCtorEq, Nat.reduceAdd, Nat.reduceSub, Nat.reduceMul, Nat.reduceLT, Nat.reduceLeDiff, Int.reduceToNat, Int.reduceLE, Int.reduceLT, Int.reduceEq, Int.reduceNe, Int.reduceAdd, Int.reduceSub, Nat.reduceBEq, Option.some.injEq]
        refine ((lkTable_self [] 0 (by simp) _).as rfl).to ?_
        simp (implicitDefEqProofs := false) (disch := omega) only [push_cast, ↓guardK_tt, ↓guardK_ff, ↓guardK_tf, ↓guardK_ft, ↓condK_t, ↓condK_f, ↓reduceIte, Nat.reduceEqDiff, reduceCtorEq, Nat.reduceAdd, Nat.reduceSub, Nat.reduceMul, Nat.reduceLT, Nat.reduceLeDiff, Int.reduceToNat, Int.reduceLE, Int.reduceLT, Int.reduceEq, Int.reduceNe, Int.reduceAdd, Int.reduceSub, Nat.reduceBEq, Option.some.injEq]
        exact fin1 (.bool _) rfl
      | some y =>
        obtain ⟨x, h⟩ := y
        obtain ⟨g1, g2, g3, g4⟩ := hrM_good hr
        obtain ⟨k1, k2⟩ := headOk_parts g4
        obtain ⟨t1, t2, t3, t4, t5⟩ := tableOk_parts g3
        have hxb : FdsB x := ⟨by omega, fun f hf => by
          obtain ⟨_, _, _, q1, q2⟩ := fieldOk_parts (t4 f hf).1
          exact ⟨by omega, by omega⟩⟩
        simp (implicitDefEqProofs := false) (disch := omega) only [push_cast, hrV, ↓guardK_tt, ↓guardK_ff, ↓guardK_tf, ↓guardK_ft, ↓condK_t, ↓condK_f, ↓reduceIte, Nat.reduceEqDiff, reduceCtorEq, Nat.reduceAdd, Nat.reduceSub, Nat.reduceMul, Nat.reduceLT, Nat.reduceLeDiff, Int.reduceToNat, Int.reduceLE, Int.reduceLT, Int.reduceEq, Int.reduceNe, Int.reduceAdd, Int.reduceSub, Nat.reduceBEq, Option.some.injEq]
        refine ((HeadRead_ok l max b hlb (by omega) _).as rfl).to ?_
        rw [hr]
        simp (implicitDefEqProofs := false) (disch := omega) only [push_cast, hrV, ↓guardK_tt, ↓guardK_ff, ↓guardK_tf, ↓guardK_ft, ↓condK_t, ↓condK_f, ↓reduceIte, Nat.reduceEqDiff, reduceCtorEq, Nat.reduceAdd, Nat.reduceSub, Nat.reduceMul, Nat.reduceLT, Nat.reduceLeDiff, Int.reduceToNat, Int.reduceLE, Int.reduceLT, Int.reduceEq, Int.reduceNe, Int.reduceAdd, Int.reduceSub, Nat.reduceBEq, Option.some.injEq]
        refine ((lkFields_same h (by omega) _).as rfl).to ?_
        simp (implicitDefEqProofs := false) (disch := omega) only [push_cast, ↓guardK_tt, ↓guardK_ff, ↓guardK_tf, ↓guardK_ft, ↓condK_t, ↓condK_f, ↓reduceIte, Nat.reduceEqDiff, reduceCtorEq, Nat.reduceAdd, Nat.reduceSub, Nat.reduceMul, Nat.reduceLT, Nat.reduceLeDiff, Int.reduceToNat, Int.reduceLE, Int.reduceLT, Int.reduceEq, Int.reduceNe, Int.reduceAdd, Int.reduceSub, Nat.reduceBEq, Option.some.injEq]
        refine ((lkTable_self x max (by omega) _).as rfl).to ?_
        simp (implicitDefEqProofs := false) (disch := omega) only [push_cast, ↓guardK_tt, ↓guardK_ff, ↓guardK_tf, ↓guardK_ft, ↓condK_t, ↓condK_f, ↓reduceIte, Nat.reduceEqDiff, reduceCtorEq, Nat.reduceAdd, Nat.reduceSub, Nat.reduceMul, Nat.reduceLT, Nat.reduceLeDiff, Int.reduceToNat, Int.reduceLE, Int.reduceLT, Int.reduceEq, Int.reduceNe, Int.reduceAdd, Int.reduceSub, Nat.reduceBEq, Option.some.injEq]
        refine (DrawHeadWrite_ok more (by omega) _).mono ?_
        rintro r S1 ⟨⟨l2, g, max2, hl12, hl22, hg1, hg2, hm12, hm22, rfl⟩, rfl⟩
        have hgb : FdsB g := ⟨by omega, fun f hf => (hg2 f hf).b⟩
        simp (implicitDefEqProofs := false) (disch := omega) only [push_cast, ↓guardK_tt, ↓guardK_ff, ↓guardK_tf, ↓guardK_ft, ↓condK_t, ↓condK_f, ↓reduceIte, Nat.reduceEqDiff, reduceCtorEq, Nat.reduceAdd, Nat.reduceSub, Nat.reduceMul, Nat.reduceLT, Nat.reduceLeDiff, Int.reduceToNat, Int.reduceLE, Int.reduceLT, Int.reduceEq, Int.reduceNe, Int.reduceAdd, Int.reduceSub, Nat.reduceBEq, Option.some.injEq]
        refine ((HeadWrite_ok x max g hxb hgb _).as rfl).to ?_
        simp (implicitDefEqProofs := false) (disch := omega) only [push_cast, ↓guardK_tt, ↓guardK_ff, ↓guardK_tf, ↓guardK_ft, ↓condK_t, ↓condK_f, ↓reduceIte, Nat.reduceEqDiff, reduceCtorEq, Nat.reduceAdd, Nat.reduceSub, Nat.reduceMul, Nat.reduceLT, Nat.reduceLeDiff, Int.reduceToNat, Int.reduceLE, Int.reduceLT, Int.reduceEq, Int.reduceNe, Int.reduceAdd, Int.reduceSub, Nat.reduceBEq, Option.some.injEq]
        refine ((HeadOk_ok g hgb _).as rfl).to ?_
        cases hkg : headOk g
        · simp (implicitDefEqProofs := false) (disch := omega) only [push_cast, ↓guardK_tt, ↓guardK_ff, ↓guardK_tf, ↓guardK_ft, ↓condK_t, ↓condK_f, ↓reduceIte, Nat.reduceEqDiff, reduceCtorEq, Nat.reduceAdd, Nat.reduceSub, Nat.reduceMul, Nat.reduceLT, Nat.reduceLeDiff, Int.reduceToNat, Int.reduceLE, Int.reduceLT, Int.reduceEq, Int.reduceNe, Int.reduceAdd, Int.reduceSub, Nat.reduceBEq, Option.some.injEq]
          exact fin1 (.bool _) rfl
        obtain ⟨kg1, kg2⟩ := headOk_parts hkg
        have f1 : hwTab x max g = (headW x max g).1 := by rw [hwTab, g3, hkg]; rfl
        have f2 : hwMax x max g = max := by rw [hwMax, g3, hkg]; rfl
        have f3 : hwBytes x max g = (headW x max g).2 := by rw [hwBytes, g3, hkg]; rfl
        have hcl := headW_len g x max kg1 (by omega)
        have hyl := (headW_sub g x max).1
        have hjoin := fun q1 q2 => head_join (g := g) hr kg1 q1 q2
        rw [f1, f2, f3]
        generalize (headW x max g).1 = y at hyl hjoin
        generalize (headW x max g).2 = c at hcl hjoin
        by_cases h6 : h.length + g.length ≤ 6
        · have h6' : ¬ (h.length : Int) + (g.length : Int) > 6 := by omega
          by_cases h250 : b.length + c.length ≤ 250
          · have h250' : ¬ (b.length : Int) + (c.length : Int) > 250 := by omega
            have hj := hjoin h6 h250
            have hR := fun S => HeadRead_ok l max (b ++ c) hlb (by simp; omega) S
            rw [hj] at hR
            simp (implicitDefEqProofs := false) (disch := omega) only [push_cast, h6', h250', ↓guardK_tt, ↓guardK_ff, ↓guardK_tf, ↓guardK_ft, ↓condK_t, ↓condK_f, ↓reduceIte, Nat.reduceEqDiff, reduceCtorEq, Nat.reduceAdd, Nat.reduceSub, Nat.reduceMul, Nat.reduceLT, Nat.reduceLeDiff, Int.reduceToNat, Int.reduceLE, Int.reduceLT, Int.reduceEq, Int.reduceNe, Int.reduceAdd, Int.reduceSub, Nat.reduceBEq, Option.some.injEq]
            refine ⟨by omega, ((hR _).as rfl).to ?_⟩
            simp (implicitDefEqProofs := false) (disch := omega) only [push_cast, hrV, ↓guardK_tt, ↓guardK_ff, ↓guardK_tf, ↓guardK_ft, ↓condK_t, ↓condK_f, ↓reduceIte, Nat.reduceEqDiff, reduceCtorEq, Nat.reduceAdd, Nat.reduceSub, Nat.reduceMul, Nat.reduceLT, Nat.reduceLeDiff, Int.reduceToNat, Int.reduceLE, Int.reduceLT, Int.reduceEq, Int.reduceNe, Int.reduceAdd, Int.reduceSub, Nat.reduceBEq, Option.some.injEq]
            refine ⟨by omega, by omega, by omega, ((lkFields_same (h ++ g) (by simp; omega) _).as (by rw [List.map_append])).to ?_⟩
            simp (implicitDefEqProofs := false) (disch := omega) only [push_cast, ↓guardK_tt, ↓guardK_ff, ↓guardK_tf, ↓guardK_ft, ↓condK_t, ↓condK_f, ↓reduceIte, Nat.reduceEqDiff, reduceCtorEq, Nat.reduceAdd, Nat.reduceSub, Nat.reduceMul, Nat.reduceLT, Nat.reduceLeDiff, Int.reduceToNat, Int.reduceLE, Int.reduceLT, Int.reduceEq, Int.reduceNe, Int.reduceAdd, Int.reduceSub, Nat.reduceBEq, Option.some.injEq]
            refine ((lkTable_self y max (by omega) _).as rfl).to ?_
            simp (implicitDefEqProofs := false) (disch := omega) only [push_cast, ↓guardK_tt, ↓guardK_ff, ↓guardK_tf, ↓guardK_ft, ↓condK_t, ↓condK_f, ↓reduceIte, Nat.reduceEqDiff, reduceCtorEq, Nat.reduceAdd, Nat.reduceSub, Nat.reduceMul, Nat.reduceLT, Nat.reduceLeDiff, Int.reduceToNat, Int.reduceLE, Int.reduceLT, Int.reduceEq, Int.reduceNe, Int.reduceAdd, Int.reduceSub, Nat.reduceBEq, Option.some.injEq]
            exact fin1 (.bool _) rfl
          · have h250' : (b.length : Int) + (c.length : Int) > 250 := by omega
            simp (implicitDefEqProofs := false) (disch := omega) only [push_cast, h6', h250', ↓guardK_tt, ↓guardK_ff, ↓guardK_tf, ↓guardK_ft, ↓condK_t, ↓condK_f, ↓reduceIte, Nat.reduceEqDiff, reduceCtorEq, Nat.reduceAdd, Nat.reduceSub, Nat.reduceMul, Nat.reduceLT, Nat.reduceLeDiff, Int.reduceToNat, Int.reduceLE, Int.reduceLT, Int.reduceEq, Int.reduceNe, Int.reduceAdd, Int.reduceSub, Nat.reduceBEq, Option.some.injEq]
            exact fin1 (.bool _) rfl
        · have h6' : (h.length : Int) + (g.length : Int) > 6 := by omega
          simp (implicitDefEqProofs := false) (disch := omega) only [push_cast, h6', ↓guardK_tt, ↓guardK_ff, ↓guardK_tf, ↓guardK_ft, ↓condK_t, ↓condK_f, ↓reduceIte, Nat.reduceEqDiff, reduceCtorEq, Nat.reduceAdd, Nat.reduceSub, Nat.reduceMul, Nat.reduceLT, Nat.reduceLeDiff, Int.reduceToNat, Int.reduceLE, Int.reduceLT, Int.reduceEq, Int.reduceNe, Int.reduceAdd, Int.reduceSub, Nat.reduceBEq, Option.some.injEq]
          exact fin1 (.bool _) rfl
    · have hc2' : (more.length : Int) > 1048576 := by omega
      refine VCall.of_ev hD (fun _ => false) (fun _ => []) (n := 133) Try.func6 rfl rfl Try.ntmps6 (by kernel_rfl) (by kernel_rfl) (congrArg Array.toList Try.results6) (by simp) ?_
      simp (implicitDefEqProofs := false) (disch := omega) only [push_cast, hc1', hc2', ↓guardK_tt, ↓guardK_ff, ↓guardK_tf, ↓guardK_ft, ↓condK_t, ↓condK_f, ↓reduceIte, Nat.reduceEqDiff, reduceCtorEq, Nat.reduceAdd, Nat.reduceSub, Nat.reduceMul, Nat.reduceLT, Nat.reduceLeDiff, Int.reduceToNat, Int.reduceLE, Int.reduceLT, Int.reduceEq, Int.reduceNe, Int.reduceAdd, Int.reduceSub, Nat.reduceBEq, Option.some.injEq]
      exact fin0 rfl
  · have hc1' : (code.length : Int) > 1048576 := by omega
    refine VCall.of_ev hD (fun _ => false) (fun _ => []) (n := 133) Try.func6 rfl rfl Try.ntmps6 (by kernel_rfl) (by kernel_rfl) (congrArg Array.toList Try.results6) (by simp) ?_
    simp (implicitDefEqProofs := false) (disch := omega) only [push_cast, hc1', ↓guardK_tt, ↓guardK_ff, ↓guardK_tf, ↓guardK_ft, ↓condK_t, ↓condK_f, ↓reduceIte, Nat.reduceEqDiff, reduceCtorEq, Nat.reduceAdd, Nat.reduceSub, Nat.reduceMul, Nat.reduceLT, Nat.reduceLeDiff, Int.reduceToNat, Int.reduceLE, Int.reduceLT, Int.reduceEq, Int.reduceNe, Int.reduceAdd, Int.reduceSub, Nat.reduceBEq, Option.some.injEq]
    exact fin0 rfl

end Go.Proofs.Ytblbaniokmgjgaa
