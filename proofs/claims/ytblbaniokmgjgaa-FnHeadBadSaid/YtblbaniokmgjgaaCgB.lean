/- What begins no field is none: the law as a value call. -/
import Derived.Test.YtblbaniokmgjgaaCgA
namespace Go.Proofs.Ytblbaniokmgjgaa
open Go
set_option linter.unusedVariables false
set_option linter.unusedSimpArgs false

theorem byteI {n : Nat} {z : Int} (h : z = n) (hn : n < 256) : UInt8.ofNat z.toNat = by8 n := by
  apply UInt8.toNat_inj.1
  rw [by8_toNat hn, h, Int.toNat_natCast]
  simp
  omega
theorem read_bad {l : List Fd} {max : Int} {c : List UInt8} {v : V} (hl : FdsB l) (hb : c.length ≤ 1000000000) (hv : .str c = v) (h : hrM l max c = none) (S : List Blk) :
    VCall Try.prog 10 [.agg [.rows none (l.map fV), .int .i64 max], v] S fun r S' => r = .tup [.agg [.rows none [], .int .i64 0], .rows none [], .bool false] ∧ S' = S := by
  subst hv
  have := HeadRead_ok l max c hl hb S
  rw [h] at this
  exact this

set_option maxHeartbeats 4000000 in
theorem FnHeadBad_ok (code more : List UInt8) (S : List Blk) : VCall Try.prog 4 [.rows none (code.map u8V), .rows none (more.map u8V)] S fun r S' => r = .bool true ∧ S' = S := by
  by_cases hc1 : code.length ≤ 1048576
  · have hc1' : ¬ (code.length : Int) > 1048576 := by omega
    by_cases hc2 : more.length ≤ 1048576
    · have hc2' : ¬ (more.length : Int) > 1048576 := by omega
      refine VCall.of_ev hD (fun _ => false) (fun _ => []) (n := 147) Try.func4 rfl rfl Try.ntmps4 (by kernel_rfl) (by kernel_rfl) (congrArg Array.toList Try.results4) (by simp) ?_
      simp (implicitDefEqProofs := false) (disch := omega) only [push_cast, hc1', hc2', ↓guardK_tt, ↓guardK_ff, ↓guardK_tf, ↓guardK_ft, ↓condK_t, ↓condK_f, ↓reduceIte, Nat.reduceEqDiff, reduceCtorEq, Nat.reduceAdd, Nat.reduceSub, Nat.reduceMul, Nat.reduceLT, Nat.reduceLeDiff, Int.reduceToNat, Int.reduceLE, Int.reduceLT, Int.reduceEq, Int.reduceNe, Int.reduceAdd, Int.reduceSub, Nat.reduceBEq, Option.some.injEq]
      refine (DrawHeadRead_ok code (by omega) _).mono ?_
      rintro r S1 ⟨⟨l, b, max, hl1, hl2, hbl, hm1, hm2, rfl⟩, rfl⟩
      have hlb : FdsB l := ⟨by omega, fun f hf => (hl2 f hf).b⟩
      simp (implicitDefEqProofs := false) (disch := omega) only [push_cast, ↓guardK_tt, ↓guardK_ff, ↓guardK_tf, ↓guardK_ft, ↓condK_t, ↓condK_f, ↓reduceIte, Nat.reduceEqDiff, reduceCtorEq, Nat.reduceAdd, Nat.reduceSub, Nat.reduceMul, Nat.reduceLT, Nat.reduceLeDiff, Int.reduceToNat, Int.reduceLE, Int.reduceLT, Int.reduceEq, Int.reduceNe, Int.reduceAdd, Int.reduceSub, Nat.reduceBEq, Option.some.injEq]
      refine ((sHeadRead_ok l max b hlb (by omega) _).as rfl).to ?_
      have hend : ∃ (x h : List Fd) (mx : Int) (ok : Bool), hrV max (hrM l max b) = .tup [tV x mx, .rows none (h.map fV), .bool ok] ∧ x.length ≤ 1000 ∧ h.length ≤ 1000 := by
        cases hr : hrM l max b with
        | none => exact ⟨[], [], 0, false, rfl, by simp, by simp⟩
        | some y =>
          obtain ⟨x, h⟩ := y
          obtain ⟨g1, g2, g3, g4⟩ := hrM_good hr
          exact ⟨x, h, max, true, rfl, by have := (tableOk_parts g3).1; omega, by have := (headOk_parts g4).2; omega⟩
      have hR := fun S => HeadRead_ok l max b hlb (by omega) S
      obtain ⟨x, h, mx, ok, he, hxl, hhl⟩ := hend
      rw [he] at hR ⊢
      simp (implicitDefEqProofs := false) (disch := omega) only [push_cast, ↓guardK_tt, ↓guardK_ff, ↓guardK_tf, ↓guardK_ft, ↓condK_t, ↓condK_f, ↓reduceIte, Nat.reduceEqDiff, reduceCtorEq, Nat.reduceAdd, Nat.reduceSub, Nat.reduceMul, Nat.reduceLT, Nat.reduceLeDiff, Int.reduceToNat, Int.reduceLE, Int.reduceLT, Int.reduceEq, Int.reduceNe, Int.reduceAdd, Int.reduceSub, Nat.reduceBEq, Option.some.injEq]
      refine ((hR _).as rfl).to ?_
      simp (implicitDefEqProofs := false) (disch := omega) only [push_cast, ↓guardK_tt, ↓guardK_ff, ↓guardK_tf, ↓guardK_ft, ↓condK_t, ↓condK_f, ↓reduceIte, Nat.reduceEqDiff, reduceCtorEq, Nat.reduceAdd, Nat.reduceSub, Nat.reduceMul, Nat.reduceLT, Nat.reduceLeDiff, Int.reduceToNat, Int.reduceLE, Int.reduceLT, Int.reduceEq, Int.reduceNe, Int.reduceAdd, Int.reduceSub, Nat.reduceBEq, Option.some.injEq]
      refine ((lkFields_same h (by omega) _).as rfl).to ?_
      simp (implicitDefEqProofs := false) (disch := omega) only [push_cast, ↓guardK_tt, ↓guardK_ff, ↓guardK_tf, ↓guardK_ft, ↓condK_t, ↓condK_f, ↓reduceIte, Nat.reduceEqDiff, reduceCtorEq, Nat.reduceAdd, Nat.reduceSub, Nat.reduceMul, Nat.reduceLT, Nat.reduceLeDiff, Int.reduceToNat, Int.reduceLE, Int.reduceLT, Int.reduceEq, Int.reduceNe, Int.reduceAdd, Int.reduceSub, Nat.reduceBEq, Option.some.injEq]
      refine ((lkTable_self x mx (by omega) _).as rfl).to ?_
      simp (implicitDefEqProofs := false) (disch := omega) only [push_cast, ↓guardK_tt, ↓guardK_ff, ↓guardK_tf, ↓guardK_ft, ↓condK_t, ↓condK_f, ↓reduceIte, Nat.reduceEqDiff, reduceCtorEq, Nat.reduceAdd, Nat.reduceSub, Nat.reduceMul, Nat.reduceLT, Nat.reduceLeDiff, Int.reduceToNat, Int.reduceLE, Int.reduceLT, Int.reduceEq, Int.reduceNe, Int.reduceAdd, Int.reduceSub, Nat.reduceBEq, Option.some.injEq]
      refine ((sTableOk_ok l max hlb _).as rfl).to ?_
      cases ht : tableOk l max
      · simp (implicitDefEqProofs := false) (disch := omega) only [push_cast, ↓guardK_tt, ↓guardK_ff, ↓guardK_tf, ↓guardK_ft, ↓condK_t, ↓condK_f, ↓reduceIte, Nat.reduceEqDiff, reduceCtorEq, Nat.reduceAdd, Nat.reduceSub, Nat.reduceMul, Nat.reduceLT, Nat.reduceLeDiff, Int.reduceToNat, Int.reduceLE, Int.reduceLT, Int.reduceEq, Int.reduceNe, Int.reduceAdd, Int.reduceSub, Nat.reduceBEq, Option.some.injEq]
        refine ((lkFields_same h (by omega) _).as rfl).to ?_
        simp (implicitDefEqProofs := false) (disch := omega) only [push_cast, ↓guardK_tt, ↓guardK_ff, ↓guardK_tf, ↓guardK_ft, ↓condK_t, ↓condK_f, ↓reduceIte, Nat.reduceEqDiff, reduceCtorEq, Nat.reduceAdd, Nat.reduceSub, Nat.reduceMul, Nat.reduceLT, Nat.reduceLeDiff, Int.reduceToNat, Int.reduceLE, Int.reduceLT, Int.reduceEq, Int.reduceNe, Int.reduceAdd, Int.reduceSub, Nat.reduceBEq, Option.some.injEq]
        refine ((lkTable_self x mx (by omega) _).as rfl).to ?_
        simp (implicitDefEqProofs := false) (disch := omega) only [push_cast, ↓guardK_tt, ↓guardK_ff, ↓guardK_tf, ↓guardK_ft, ↓condK_t, ↓condK_f, ↓reduceIte, Nat.reduceEqDiff, reduceCtorEq, Nat.reduceAdd, Nat.reduceSub, Nat.reduceMul, Nat.reduceLT, Nat.reduceLeDiff, Int.reduceToNat, Int.reduceLE, Int.reduceLT, Int.reduceEq, Int.reduceNe, Int.reduceAdd, Int.reduceSub, Nat.reduceBEq, Option.some.injEq]
        exact fin1 (.bool _) rfl
      obtain ⟨t1, t2, t3, t4, t5⟩ := tableOk_parts ht
      obtain ⟨j, hj, hj2⟩ : ∃ j : Nat, j < 32 ∧ (more.length : Int).tmod 32 = j := ⟨more.length % 32, by omega, by rw [Int.tmod_eq_emod_of_nonneg (by omega)]; omega⟩
      obtain ⟨k, hk, hk2⟩ : ∃ k : Nat, k < 16 ∧ (more.length : Int).tmod 16 = k := ⟨more.length % 16, by omega, by rw [Int.tmod_eq_emod_of_nonneg (by omega)]; omega⟩
      have e1 := byteI (n := 32 + j) (z := 32 + (j : Int)) (by omega) (by omega)
      have e2 := byteI (n := k) (z := (k : Int)) rfl (by omega)
      have e3 := byteI (n := 135 + l.length) (z := 135 + (l.length : Int)) (by omega) (by omega)
      simp (implicitDefEqProofs := false) (disch := omega) only [push_cast, hj2, hk2, e1, e2, e3, ↓guardK_tt, ↓guardK_ff, ↓guardK_tf, ↓guardK_ft, ↓condK_t, ↓condK_f, ↓reduceIte, Nat.reduceEqDiff, reduceCtorEq, Nat.reduceAdd, Nat.reduceSub, Nat.reduceMul, Nat.reduceLT, Nat.reduceLeDiff, Int.reduceToNat, Int.reduceLE, Int.reduceLT, Int.reduceEq, Int.reduceNe, Int.reduceAdd, Int.reduceSub, Nat.reduceBEq, Option.some.injEq]
      refine ⟨by omega, (read_bad (c := by8 (32 + j) :: b) hlb (by simp; omega) rfl (hrM_bad (by simp) (bad_first (.inl (by rw [by8_toNat (by omega)]; omega)))) _).to ?_⟩
      simp (implicitDefEqProofs := false) (disch := omega) only [push_cast, hj2, hk2, e1, e2, e3, ↓guardK_tt, ↓guardK_ff, ↓guardK_tf, ↓guardK_ft, ↓condK_t, ↓condK_f, ↓reduceIte, Nat.reduceEqDiff, reduceCtorEq, Nat.reduceAdd, Nat.reduceSub, Nat.reduceMul, Nat.reduceLT, Nat.reduceLeDiff, Int.reduceToNat, Int.reduceLE, Int.reduceLT, Int.reduceEq, Int.reduceNe, Int.reduceAdd, Int.reduceSub, Nat.reduceBEq, Option.some.injEq]
      refine ⟨by omega, (read_bad (c := by8 k :: b) hlb (by simp; omega) rfl (hrM_bad (by simp) (bad_first (.inr (by rw [by8_toNat (by omega)]; omega)))) _).to ?_⟩
      simp (implicitDefEqProofs := false) (disch := omega) only [push_cast, hj2, hk2, e1, e2, e3, ↓guardK_tt, ↓guardK_ff, ↓guardK_tf, ↓guardK_ft, ↓condK_t, ↓condK_f, ↓reduceIte, Nat.reduceEqDiff, reduceCtorEq, Nat.reduceAdd, Nat.reduceSub, Nat.reduceMul, Nat.reduceLT, Nat.reduceLeDiff, Int.reduceToNat, Int.reduceLE, Int.reduceLT, Int.reduceEq, Int.reduceNe, Int.reduceAdd, Int.reduceSub, Nat.reduceBEq, Option.some.injEq]
      refine (read_bad (c := [by8 (135 + l.length)]) hlb (by simp) rfl (hrM_bad (by simp) (bad_place (by rw [by8_toNat (by omega)]; omega) (by rw [by8_toNat (by omega)]; omega) (.inr (by rw [by8_toNat (by omega)]; omega)))) _).to ?_
      simp (implicitDefEqProofs := false) (disch := omega) only [push_cast, hj2, hk2, e1, e2, e3, ↓guardK_tt, ↓guardK_ff, ↓guardK_tf, ↓guardK_ft, ↓condK_t, ↓condK_f, ↓reduceIte, Nat.reduceEqDiff, reduceCtorEq, Nat.reduceAdd, Nat.reduceSub, Nat.reduceMul, Nat.reduceLT, Nat.reduceLeDiff, Int.reduceToNat, Int.reduceLE, Int.reduceLT, Int.reduceEq, Int.reduceNe, Int.reduceAdd, Int.reduceSub, Nat.reduceBEq, Option.some.injEq]
      refine (read_bad (c := [128]) hlb (by simp) rfl (hrM_bad (by simp) (bad_place (by decide) (by decide) (.inl (by decide)))) _).to ?_
      simp (implicitDefEqProofs := false) (disch := omega) only [push_cast, ↓guardK_tt, ↓guardK_ff, ↓guardK_tf, ↓guardK_ft, ↓condK_t, ↓condK_f, ↓reduceIte, Nat.reduceEqDiff, reduceCtorEq, Nat.reduceAdd, Nat.reduceSub, Nat.reduceMul, Nat.reduceLT, Nat.reduceLeDiff, Int.reduceToNat, Int.reduceLE, Int.reduceLT, Int.reduceEq, Int.reduceNe, Int.reduceAdd, Int.reduceSub, Nat.reduceBEq, Option.some.injEq]
      exact fin1 (.bool _) rfl
    · have hc2' : (more.length : Int) > 1048576 := by omega
      refine VCall.of_ev hD (fun _ => false) (fun _ => []) (n := 147) Try.func4 rfl rfl Try.ntmps4 (by kernel_rfl) (by kernel_rfl) (congrArg Array.toList Try.results4) (by simp) ?_
      simp (implicitDefEqProofs := false) (disch := omega) only [push_cast, hc1', hc2', ↓guardK_tt, ↓guardK_ff, ↓guardK_tf, ↓guardK_ft, ↓condK_t, ↓condK_f, ↓reduceIte, Nat.reduceEqDiff, reduceCtorEq, Nat.reduceAdd, Nat.reduceSub, Nat.reduceMul, Nat.reduceLT, Nat.reduceLeDiff, Int.reduceToNat, Int.reduceLE, Int.reduceLT, Int.reduceEq, Int.reduceNe, Int.reduceAdd, Int.reduceSub, Nat.reduceBEq, Option.some.injEq]
      exact fin0 rfl
  · have hc1' : (code.length : Int) > 1048576 := by omega
    refine VCall.of_ev hD (fun _ => false) (fun _ => []) (n := 147) Try.func4 rfl rfl Try.ntmps4 (by kernel_rfl) (by kernel_rfl) (congrArg Array.toList Try.results4) (by simp) ?_
    simp (implicitDefEqProofs := false) (disch := omega) only [push_cast, hc1', ↓guardK_tt, ↓guardK_ff, ↓guardK_tf, ↓guardK_ft, ↓condK_t, ↓condK_f, ↓reduceIte, Nat.reduceEqDiff, reduceCtorEq, Nat.reduceAdd, Nat.reduceSub, Nat.reduceMul, Nat.reduceLT, Nat.reduceLeDiff, Int.reduceToNat, Int.reduceLE, Int.reduceLT, Int.reduceEq, Int.reduceNe, Int.reduceAdd, Int.reduceSub, Nat.reduceBEq, Option.some.injEq]
    exact fin0 rfl

end Go.Proofs.Ytblbaniokmgjgaa
