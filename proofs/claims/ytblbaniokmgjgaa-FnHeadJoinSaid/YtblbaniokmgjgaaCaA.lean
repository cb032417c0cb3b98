/- Contracts: numbers. -/
import Derived.Test.YtblbaniokmgjgaaSd
import Derived.Test.YtblbaniokmgjgaaMo
namespace Go.Proofs.Ytblbaniokmgjgaa
open Go
set_option linter.unusedVariables false
set_option linter.unusedSimpArgs false

theorem l6In_ok (n a b : Int) (S : List Blk) : VCall Try.prog 42 [.int .i64 n, .int .i64 a, .int .i64 b] S fun r S' => r = .bool (decide (a ≤ n) && decide (n ≤ b)) ∧ S' = S := by
  refine VCall.of_ev hD (fun _ => false) (fun _ => []) (n := 15) Try.func42 rfl rfl Try.ntmps42 (by kernel_rfl) (by kernel_rfl) (congrArg Array.toList Try.results42) (by simp) ?_
  simp (implicitDefEqProofs := false) (disch := omega) only [push_cast, ↓guardK_tt, ↓guardK_ff, ↓guardK_tf, ↓guardK_ft, ↓condK_t, ↓condK_f, ↓reduceIte, Nat.reduceEqDiff, reduceCtorEq, Nat.reduceAdd, Nat.reduceSub, Nat.reduceMul, Nat.reduceLT, Nat.reduceLeDiff, Int.reduceToNat, Int.reduceLE, Int.reduceLT, Int.reduceEq, Int.reduceNe, Int.reduceAdd, Int.reduceSub, Nat.reduceBEq, Option.some.injEq]
  refine ⟨fun h => fin0 ?_, fun h => fin0 ?_⟩ <;> simp <;> omega

theorem in_ok (n a b : Int) (S : List Blk) : VCall Try.prog 47 [.int .i64 n, .int .i64 a, .int .i64 b] S fun r S' => r = .bool (decide (a ≤ n) && decide (n ≤ b)) ∧ S' = S := by
  refine VCall.of_ev hD (fun _ => false) (fun _ => []) (n := 15) Try.func47 rfl rfl Try.ntmps47 (by kernel_rfl) (by kernel_rfl) (congrArg Array.toList Try.results47) (by simp) ?_
  simp (implicitDefEqProofs := false) (disch := omega) only [push_cast, ↓guardK_tt, ↓guardK_ff, ↓guardK_tf, ↓guardK_ft, ↓condK_t, ↓condK_f, ↓reduceIte, Nat.reduceEqDiff, reduceCtorEq, Nat.reduceAdd, Nat.reduceSub, Nat.reduceMul, Nat.reduceLT, Nat.reduceLeDiff, Int.reduceToNat, Int.reduceLE, Int.reduceLT, Int.reduceEq, Int.reduceNe, Int.reduceAdd, Int.reduceSub, Nat.reduceBEq, Option.some.injEq]
  refine ⟨fun h => fin0 ?_, fun h => fin0 ?_⟩ <;> simp <;> omega

theorem l6In_t {n a b : Int} (h : a ≤ n ∧ n ≤ b) (S : List Blk) : VCall Try.prog 42 [.int .i64 n, .int .i64 a, .int .i64 b] S fun r S' => r = .bool true ∧ S' = S := by
  have := l6In_ok n a b S
  rwa [decide_eq_true h.1, decide_eq_true h.2] at this
theorem l6In_f {n a b : Int} (h : ¬ (a ≤ n ∧ n ≤ b)) (S : List Blk) : VCall Try.prog 42 [.int .i64 n, .int .i64 a, .int .i64 b] S fun r S' => r = .bool false ∧ S' = S := by
  have := l6In_ok n a b S
  rwa [show (decide (a ≤ n) && decide (n ≤ b)) = false by simp; omega] at this
theorem in_t {n a b : Int} (h : a ≤ n ∧ n ≤ b) (S : List Blk) : VCall Try.prog 47 [.int .i64 n, .int .i64 a, .int .i64 b] S fun r S' => r = .bool true ∧ S' = S := by
  have := in_ok n a b S
  rwa [decide_eq_true h.1, decide_eq_true h.2] at this
theorem in_f {n a b : Int} (h : ¬ (a ≤ n ∧ n ≤ b)) (S : List Blk) : VCall Try.prog 47 [.int .i64 n, .int .i64 a, .int .i64 b] S fun r S' => r = .bool false ∧ S' = S := by
  have := in_ok n a b S
  rwa [show (decide (a ≤ n) && decide (n ≤ b)) = false by simp; omega] at this

theorem l1Byte_ok (n : Nat) (S : List Blk) : VCall Try.prog 38 [.int .i64 n] S fun r S' => r = .str [by8 n] ∧ S' = S := by
  refine VCall.of_ev hD (fun _ => false) (fun _ => []) (n := 7) Try.func38 rfl rfl Try.ntmps38 (by kernel_rfl) (by kernel_rfl) (congrArg Array.toList Try.results38) (by simp) ?_
  simp (implicitDefEqProofs := false) (disch := omega) only [push_cast, ↓guardK_tt, ↓guardK_ff, ↓guardK_tf, ↓guardK_ft, ↓condK_t, ↓condK_f, ↓reduceIte, Nat.reduceEqDiff, reduceCtorEq, Nat.reduceAdd, Nat.reduceSub, Nat.reduceMul, Nat.reduceLT, Nat.reduceLeDiff, Int.reduceToNat, Int.reduceLE, Int.reduceLT, Int.reduceEq, Int.reduceNe, Int.reduceAdd, Int.reduceSub, Nat.reduceBEq, Option.some.injEq]
  exact fin1 (.str _) (by rw [byte_wrap, byInt])

theorem l1Top_ok (n : Nat) (hn : n ≤ 40) (S : List Blk) : VCall Try.prog 89 [.int .i64 n] S fun r S' => r = .int .i64 (2 ^ n : Nat) ∧ S' = S := by
  refine VCall.of_ev hD (fun _ => false) (fun _ => []) (n := 13) Try.func89 rfl rfl Try.ntmps89 (by kernel_rfl) (by kernel_rfl) (congrArg Array.toList Try.results89) (by simp) ?_
  simp (implicitDefEqProofs := false) (disch := omega) only [push_cast, ↓guardK_tt, ↓guardK_ff, ↓guardK_tf, ↓guardK_ft, ↓condK_t, ↓condK_f, ↓reduceIte, Nat.reduceEqDiff, reduceCtorEq, Nat.reduceAdd, Nat.reduceSub, Nat.reduceMul, Nat.reduceLT, Nat.reduceLeDiff, Int.reduceToNat, Int.reduceLE, Int.reduceLT, Int.reduceEq, Int.reduceNe, Int.reduceAdd, Int.reduceSub, Nat.reduceBEq, Option.some.injEq]
  refine wpV_loop (fun m t S' => ∃ i p : Nat, m = n - i ∧ i ≤ n ∧ p = 2 ^ i ∧ t 0 = .int .i64 n ∧ t 3 = .int .i64 p ∧ t 4 = .int .i64 i ∧ S' = S) n ⟨0, 1, by simp, by omega, rfl, rfl, rfl, rfl, rfl⟩ ?_
  rintro m t S' ⟨i, p, rfl, hi, hp, h0, h3, h4, rfl⟩
  refine wpV_of hD (fun _ => false) (fun _ => []) (by kernel_rfl) ?_
  have hp2 : p ≤ 2 ^ 40 := by rw [hp]; exact Nat.pow_le_pow_right (by omega) (by omega)
  simp (implicitDefEqProofs := false) (disch := omega) only [push_cast, h0, h3, h4, ↓guardK_tt, ↓guardK_ff, ↓guardK_tf, ↓guardK_ft, ↓condK_t, ↓condK_f, ↓reduceIte, Nat.reduceEqDiff, reduceCtorEq, Nat.reduceAdd, Nat.reduceSub, Nat.reduceMul, Nat.reduceLT, Nat.reduceLeDiff, Int.reduceToNat, Int.reduceLE, Int.reduceLT, Int.reduceEq, Int.reduceNe, Int.reduceAdd, Int.reduceSub, Nat.reduceBEq, Option.some.injEq]
  refine ⟨fun h => ⟨n - (i + 1), by omega, i + 1, 2 * p, rfl, by omega, by rw [hp, Nat.pow_succ, Nat.mul_comm], by simp, by simp⟩, fun h => fin0 ?_⟩
  have : i = n := by omega
  subst this
  simp [hp]

theorem l1Write_ok (n bits head : Nat) (hn : n ≤ 1000000) (hb : bits ≤ 8) (hh : head ≤ 256) (S : List Blk) :
    VCall Try.prog 84 [.int .i64 n, .int .i64 bits, .int .i64 head] S fun r S' => r = .str (numW n bits head) ∧ S' = S := by
  refine VCall.of_ev hD (fun _ => false) (fun _ => []) (n := 46) Try.func84 rfl rfl Try.ntmps84 (by kernel_rfl) (by kernel_rfl) (congrArg Array.toList Try.results84) (by simp) ?_
  simp (implicitDefEqProofs := false) (disch := omega) only [push_cast, ↓guardK_tt, ↓guardK_ff, ↓guardK_tf, ↓guardK_ft, ↓condK_t, ↓condK_f, ↓reduceIte, Nat.reduceEqDiff, reduceCtorEq, Nat.reduceAdd, Nat.reduceSub, Nat.reduceMul, Nat.reduceLT, Nat.reduceLeDiff, Int.reduceToNat, Int.reduceLE, Int.reduceLT, Int.reduceEq, Int.reduceNe, Int.reduceAdd, Int.reduceSub, Nat.reduceBEq, Option.some.injEq]
  refine (l1Top_ok bits (by omega) S).to ?_
  obtain ⟨p, hp⟩ : ∃ p, p = 2 ^ bits := ⟨_, rfl⟩
  have hp2 : p ≤ 2 ^ 8 := by rw [hp]; exact Nat.pow_le_pow_right (by omega) (by omega)
  have hp1 : 1 ≤ p := by rw [hp]; exact Nat.one_le_two_pow
  obtain ⟨q, hq⟩ : ∃ q, q = head * p := ⟨_, rfl⟩
  have hq2 : q ≤ 256 * 256 := by rw [hq]; exact Nat.mul_le_mul hh (by omega)
  have hq3 : (head : Int) * (p : Int) = q := by rw [hq]; simp
  rw [← hp]
  simp (implicitDefEqProofs := false) (disch := omega) only [push_cast, ↓guardK_tt, ↓guardK_ff, ↓guardK_tf, ↓guardK_ft, ↓condK_t, ↓condK_f, ↓reduceIte, Nat.reduceEqDiff, reduceCtorEq, Nat.reduceAdd, Nat.reduceSub, Nat.reduceMul, Nat.reduceLT, Nat.reduceLeDiff, Int.reduceToNat, Int.reduceLE, Int.reduceLT, Int.reduceEq, Int.reduceNe, Int.reduceAdd, Int.reduceSub, Nat.reduceBEq, Option.some.injEq]
  refine ⟨fun h => ?_, fun h => ?_⟩
  · simp (implicitDefEqProofs := false) (disch := omega) only [push_cast, Int.sub_add_cancel, hq3, ↓guardK_tt, ↓guardK_ff, ↓guardK_tf, ↓guardK_ft, ↓condK_t, ↓condK_f, ↓reduceIte, Nat.reduceEqDiff, reduceCtorEq, Nat.reduceAdd, Nat.reduceSub, Nat.reduceMul, Nat.reduceLT, Nat.reduceLeDiff, Int.reduceToNat, Int.reduceLE, Int.reduceLT, Int.reduceEq, Int.reduceNe, Int.reduceAdd, Int.reduceSub, Nat.reduceBEq, Option.some.injEq]
    refine (l1Byte_ok (q + n) S).to ?_
    simp (implicitDefEqProofs := false) (disch := omega) only [push_cast, ↓guardK_tt, ↓guardK_ff, ↓guardK_tf, ↓guardK_ft, ↓condK_t, ↓condK_f, ↓reduceIte, Nat.reduceEqDiff, reduceCtorEq, Nat.reduceAdd, Nat.reduceSub, Nat.reduceMul, Nat.reduceLT, Nat.reduceLeDiff, Int.reduceToNat, Int.reduceLE, Int.reduceLT, Int.reduceEq, Int.reduceNe, Int.reduceAdd, Int.reduceSub, Nat.reduceBEq, Option.some.injEq]
    refine fin0 ?_
    rw [numW, ← hp, if_pos (by omega), hq]
  · simp (implicitDefEqProofs := false) (disch := omega) only [push_cast, Int.sub_add_cancel, hq3, ↓guardK_tt, ↓guardK_ff, ↓guardK_tf, ↓guardK_ft, ↓condK_t, ↓condK_f, ↓reduceIte, Nat.reduceEqDiff, reduceCtorEq, Nat.reduceAdd, Nat.reduceSub, Nat.reduceMul, Nat.reduceLT, Nat.reduceLeDiff, Int.reduceToNat, Int.reduceLE, Int.reduceLT, Int.reduceEq, Int.reduceNe, Int.reduceAdd, Int.reduceSub, Nat.reduceBEq, Option.some.injEq]
    refine ((l1Byte_ok (q + (p - 1)) S).as (by simp; omega)).to ?_
    simp (implicitDefEqProofs := false) (disch := omega) only [push_cast, ↓guardK_tt, ↓guardK_ff, ↓guardK_tf, ↓guardK_ft, ↓condK_t, ↓condK_f, ↓reduceIte, Nat.reduceEqDiff, reduceCtorEq, Nat.reduceAdd, Nat.reduceSub, Nat.reduceMul, Nat.reduceLT, Nat.reduceLeDiff, Int.reduceToNat, Int.reduceLE, Int.reduceLT, Int.reduceEq, Int.reduceNe, Int.reduceAdd, Int.reduceSub, Nat.reduceBEq, Option.some.injEq]
    refine wpV_loop (fun x t S' => ∃ o : List UInt8, x ≤ 1000000 ∧ o.length ≤ 1000001 - x ∧ o ++ numTail x = numW n bits head ∧ t 0 = .int .i64 x ∧ t 8 = .str o ∧ S' = S) (n - (p - 1)) ⟨_, by omega, ?_, ?_, ?_, rfl, rfl⟩ ?_
    · simp; omega
    · rw [numW, ← hp, if_neg (by omega), hq]; rfl
    · show V.int .i64 _ = _
      congr 1; omega
    rintro x t S' ⟨o, hx, ho, hw, h0, h8, rfl⟩
    refine wpV_of hD (fun _ => false) (fun _ => []) (by kernel_rfl) ?_
    simp (implicitDefEqProofs := false) (disch := omega) only [push_cast, h0, h8, ↓guardK_tt, ↓guardK_ff, ↓guardK_tf, ↓guardK_ft, ↓condK_t, ↓condK_f, ↓reduceIte, Nat.reduceEqDiff, reduceCtorEq, Nat.reduceAdd, Nat.reduceSub, Nat.reduceMul, Nat.reduceLT, Nat.reduceLeDiff, Int.reduceToNat, Int.reduceLE, Int.reduceLT, Int.reduceEq, Int.reduceNe, Int.reduceAdd, Int.reduceSub, Nat.reduceBEq, Option.some.injEq]
    refine ⟨fun h => ?_, fun h => ?_⟩
    · have e : (Int.tmod (x : Int) 128) = ((x % 128 : Nat) : Int) := tmod_nat x 128
      have e2 : (Int.tdiv (x : Int) 128) = ((x / 128 : Nat) : Int) := tdiv_nat x 128
      simp (implicitDefEqProofs := false) (disch := omega) only [push_cast, e, e2, ↓guardK_tt, ↓guardK_ff, ↓guardK_tf, ↓guardK_ft, ↓condK_t, ↓condK_f, ↓reduceIte, Nat.reduceEqDiff, reduceCtorEq, Nat.reduceAdd, Nat.reduceSub, Nat.reduceMul, Nat.reduceLT, Nat.reduceLeDiff, Int.reduceToNat, Int.reduceLE, Int.reduceLT, Int.reduceEq, Int.reduceNe, Int.reduceAdd, Int.reduceSub, Nat.reduceBEq, Option.some.injEq]
      refine ((l1Byte_ok (x % 128 + 128) S').as (by simp)).to ?_
      simp (implicitDefEqProofs := false) (disch := omega) only [push_cast, h0, h8, e2, ↓guardK_tt, ↓guardK_ff, ↓guardK_tf, ↓guardK_ft, ↓condK_t, ↓condK_f, ↓reduceIte, Nat.reduceEqDiff, reduceCtorEq, Nat.reduceAdd, Nat.reduceSub, Nat.reduceMul, Nat.reduceLT, Nat.reduceLeDiff, Int.reduceToNat, Int.reduceLE, Int.reduceLT, Int.reduceEq, Int.reduceNe, Int.reduceAdd, Int.reduceSub, Nat.reduceBEq, Option.some.injEq]
      refine ⟨by omega, x / 128, by omega, _, by omega, ?_, ?_, rfl, rfl⟩
      · simp; omega
      · rw [← hw, numTail_ge (m := x) (by omega)]; simp
    · refine (l1Byte_ok x S').to ?_
      simp (implicitDefEqProofs := false) (disch := omega) only [push_cast, h0, h8, ↓guardK_tt, ↓guardK_ff, ↓guardK_tf, ↓guardK_ft, ↓condK_t, ↓condK_f, ↓reduceIte, Nat.reduceEqDiff, reduceCtorEq, Nat.reduceAdd, Nat.reduceSub, Nat.reduceMul, Nat.reduceLT, Nat.reduceLeDiff, Int.reduceToNat, Int.reduceLE, Int.reduceLT, Int.reduceEq, Int.reduceNe, Int.reduceAdd, Int.reduceSub, Nat.reduceBEq, Option.some.injEq]
      refine ⟨by omega, fin0 ?_⟩
      rw [← hw, numTail_lt (by omega)]

theorem NumWrite_ok (n : Int) (bits head : Nat) (hn : -1000000000 ≤ n ∧ n ≤ 1000000000) (hb : 3 ≤ bits ∧ bits ≤ 7) (hh : head ≤ 256) (S : List Blk) :
    VCall Try.prog 72 [.int .i64 n, .int .i64 bits, .int .i64 head] S fun r S' => r = .str (if 0 ≤ n ∧ n ≤ 9999 ∧ head < 2 ^ (8 - bits) then numW n.toNat bits head else []) ∧ S' = S := by
  obtain ⟨p, hp⟩ : ∃ p, p = 2 ^ bits := ⟨_, rfl⟩
  obtain ⟨p8, hp8⟩ : ∃ p8, p8 = 2 ^ (8 - bits) := ⟨_, rfl⟩
  have hp2 : p ≤ 2 ^ 7 := by rw [hp]; exact Nat.pow_le_pow_right (by omega) (by omega)
  have hp1 : 1 ≤ p := by rw [hp]; exact Nat.one_le_two_pow
  have hp4 : p8 ≤ 2 ^ 8 := by rw [hp8]; exact Nat.pow_le_pow_right (by omega) (by omega)
  have hp3 : 1 ≤ p8 := by rw [hp8]; exact Nat.one_le_two_pow
  have e1 : (2 : Int) ^ min ((8 : Int) - bits).toNat 64 = p8 := by rw [hp8, show min ((8 : Int) - bits).toNat 64 = 8 - bits by omega]; simp
  have e2 : (2 : Int) ^ min bits 64 = p := by rw [hp, show min bits 64 = bits by omega]; simp
  rw [← hp8]
  by_cases h1 : 0 ≤ n ∧ n ≤ 9999
  · obtain ⟨n, rfl⟩ : ∃ m : Nat, n = m := ⟨n.toNat, by omega⟩
    by_cases h2 : head < p8
    · have hq0 : head * p + p ≤ p8 * p := by rw [← Nat.succ_mul]; exact Nat.mul_le_mul_right _ h2
      have hq1 : p8 * p = 256 := by rw [hp, hp8, ← Nat.pow_add, show 8 - bits + bits = 8 by omega]
      obtain ⟨q, hq⟩ : ∃ q, q = head * p := ⟨_, rfl⟩
      have hq3 : (head : Int) * (p : Int) = q := by rw [hq]; simp
      rw [if_pos ⟨h1.1, h1.2, h2⟩, Int.toNat_natCast]
      refine VCall.of_ev hD (fun _ => false) (fun _ => []) (n := 67) Try.func72 rfl rfl Try.ntmps72 (by kernel_rfl) (by kernel_rfl) (congrArg Array.toList Try.results72) (by simp) ?_
      simp (implicitDefEqProofs := false) (disch := omega) only [push_cast, ↓guardK_tt, ↓guardK_ff, ↓guardK_tf, ↓guardK_ft, ↓condK_t, ↓condK_f, ↓reduceIte, Nat.reduceEqDiff, reduceCtorEq, Nat.reduceAdd, Nat.reduceSub, Nat.reduceMul, Nat.reduceLT, Nat.reduceLeDiff, Int.reduceToNat, Int.reduceLE, Int.reduceLT, Int.reduceEq, Int.reduceNe, Int.reduceAdd, Int.reduceSub, Nat.reduceBEq, Option.some.injEq]
      refine (in_t h1 _).to ?_
      simp (implicitDefEqProofs := false) (disch := omega) only [push_cast, ↓guardK_tt, ↓guardK_ff, ↓guardK_tf, ↓guardK_ft, ↓condK_t, ↓condK_f, ↓reduceIte, Nat.reduceEqDiff, reduceCtorEq, Nat.reduceAdd, Nat.reduceSub, Nat.reduceMul, Nat.reduceLT, Nat.reduceLeDiff, Int.reduceToNat, Int.reduceLE, Int.reduceLT, Int.reduceEq, Int.reduceNe, Int.reduceAdd, Int.reduceSub, Nat.reduceBEq, Option.some.injEq]
      refine (in_t (by omega) _).to ?_
      simp (implicitDefEqProofs := false) (disch := omega) only [push_cast, e1, ↓guardK_tt, ↓guardK_ff, ↓guardK_tf, ↓guardK_ft, ↓condK_t, ↓condK_f, ↓reduceIte, Nat.reduceEqDiff, reduceCtorEq, Nat.reduceAdd, Nat.reduceSub, Nat.reduceMul, Nat.reduceLT, Nat.reduceLeDiff, Int.reduceToNat, Int.reduceLE, Int.reduceLT, Int.reduceEq, Int.reduceNe, Int.reduceAdd, Int.reduceSub, Nat.reduceBEq, Option.some.injEq]
      refine ⟨by omega, (in_t (by omega) _).to ?_⟩
      simp (implicitDefEqProofs := false) (disch := omega) only [push_cast, e1, e2, hq3, ↓guardK_tt, ↓guardK_ff, ↓guardK_tf, ↓guardK_ft, ↓condK_t, ↓condK_f, ↓reduceIte, Nat.reduceEqDiff, reduceCtorEq, Nat.reduceAdd, Nat.reduceSub, Nat.reduceMul, Nat.reduceLT, Nat.reduceLeDiff, Int.reduceToNat, Int.reduceLE, Int.reduceLT, Int.reduceEq, Int.reduceNe, Int.reduceAdd, Int.reduceSub, Nat.reduceBEq, Option.some.injEq]
      refine ⟨by omega, fun h => ⟨by omega, fin1 (.str _) ?_⟩, fun h => ⟨by omega, ?_⟩⟩
      · rw [or_nat (by omega) (by omega), or_add hp hq (by omega), by8_wrap, numW, ← hp, if_pos (by omega), hq]
      have eb : intBits .or .i64 (q : Int) (1 * (p : Int) - 1) = ((q + (p - 1) : Nat) : Int) := by
        rw [show (1 * (p : Int) - 1) = ((p - 1 : Nat) : Int) by omega, or_nat (by omega) (by omega), or_add hp hq (by omega)]
      rw [eb]
      refine wpV_loop (fun x t S' => ∃ o : List UInt8, ∃ τ, x ≤ 10000 ∧ o.length ≤ 10001 - x ∧ o ++ numTail x = numW n bits head ∧ t 0 = .int .i64 x ∧ t 8 = .rows (some τ) (o.map u8V) ∧ Tok S S' τ 1) (n - (p - 1))
        ⟨[by8 (q + (p - 1))], S.length, by omega, ?_, ?_, ?_, ?_, Tok.new _ _⟩ ?_
      · simp; omega
      · rw [numW, ← hp, if_neg (by omega), hq]; rfl
      · show V.int .i64 _ = _
        congr 1; omega
      · show V.rows _ _ = _
        rw [u8V_of]; rfl
      rintro x t S' ⟨o, τ, hx, ho, hw, h0, h8, hT⟩
      have hat := hT.at
      refine wpV_of hD (fun _ => false) (fun _ => []) (by kernel_rfl) ?_
      simp (implicitDefEqProofs := false) (disch := omega) only [push_cast, h0, h8, hat, ↓guardK_tt, ↓guardK_ff, ↓guardK_tf, ↓guardK_ft, ↓condK_t, ↓condK_f, ↓reduceIte, Nat.reduceEqDiff, reduceCtorEq, Nat.reduceAdd, Nat.reduceSub, Nat.reduceMul, Nat.reduceLT, Nat.reduceLeDiff, Int.reduceToNat, Int.reduceLE, Int.reduceLT, Int.reduceEq, Int.reduceNe, Int.reduceAdd, Int.reduceSub, Nat.reduceBEq, Option.some.injEq]
      refine ⟨fun h => ⟨by omega, x / 128, by omega, o ++ [by8 (x % 128 + 128)], S'.length + 1, by omega, by simp; omega, ?_, ?_, ?_, hT.step1 _⟩, fun h => ⟨by omega, hT.step1 _ |>.fin (.str _) ?_⟩⟩
      · rw [← hw, numTail_ge (m := x) (by omega)]; simp
      · rw [shr7]
      · rw [and127 x (by omega), or128 _ (by omega), u8V_of, Nat.add_comm 128]; simp
      · rw [← hw, numTail_lt (by omega), by8_wrap]
    · rw [if_neg (by omega)]
      refine VCall.of_ev hD (fun _ => false) (fun _ => []) (n := 67) Try.func72 rfl rfl Try.ntmps72 (by kernel_rfl) (by kernel_rfl) (congrArg Array.toList Try.results72) (by simp) ?_
      simp (implicitDefEqProofs := false) (disch := omega) only [push_cast, ↓guardK_tt, ↓guardK_ff, ↓guardK_tf, ↓guardK_ft, ↓condK_t, ↓condK_f, ↓reduceIte, Nat.reduceEqDiff, reduceCtorEq, Nat.reduceAdd, Nat.reduceSub, Nat.reduceMul, Nat.reduceLT, Nat.reduceLeDiff, Int.reduceToNat, Int.reduceLE, Int.reduceLT, Int.reduceEq, Int.reduceNe, Int.reduceAdd, Int.reduceSub, Nat.reduceBEq, Option.some.injEq]
      refine (in_t h1 _).to ?_
      simp (implicitDefEqProofs := false) (disch := omega) only [push_cast, ↓guardK_tt, ↓guardK_ff, ↓guardK_tf, ↓guardK_ft, ↓condK_t, ↓condK_f, ↓reduceIte, Nat.reduceEqDiff, reduceCtorEq, Nat.reduceAdd, Nat.reduceSub, Nat.reduceMul, Nat.reduceLT, Nat.reduceLeDiff, Int.reduceToNat, Int.reduceLE, Int.reduceLT, Int.reduceEq, Int.reduceNe, Int.reduceAdd, Int.reduceSub, Nat.reduceBEq, Option.some.injEq]
      refine (in_t (by omega) _).to ?_
      simp (implicitDefEqProofs := false) (disch := omega) only [push_cast, e1, ↓guardK_tt, ↓guardK_ff, ↓guardK_tf, ↓guardK_ft, ↓condK_t, ↓condK_f, ↓reduceIte, Nat.reduceEqDiff, reduceCtorEq, Nat.reduceAdd, Nat.reduceSub, Nat.reduceMul, Nat.reduceLT, Nat.reduceLeDiff, Int.reduceToNat, Int.reduceLE, Int.reduceLT, Int.reduceEq, Int.reduceNe, Int.reduceAdd, Int.reduceSub, Nat.reduceBEq, Option.some.injEq]
      refine ⟨by omega, (in_f (by omega) _).to ?_⟩
      simp (implicitDefEqProofs := false) (disch := omega) only [push_cast, ↓guardK_tt, ↓guardK_ff, ↓guardK_tf, ↓guardK_ft, ↓condK_t, ↓condK_f, ↓reduceIte, Nat.reduceEqDiff, reduceCtorEq, Nat.reduceAdd, Nat.reduceSub, Nat.reduceMul, Nat.reduceLT, Nat.reduceLeDiff, Int.reduceToNat, Int.reduceLE, Int.reduceLT, Int.reduceEq, Int.reduceNe, Int.reduceAdd, Int.reduceSub, Nat.reduceBEq, Option.some.injEq]
      exact fin0 rfl
  · rw [if_neg (by omega)]
    refine VCall.of_ev hD (fun _ => false) (fun _ => []) (n := 67) Try.func72 rfl rfl Try.ntmps72 (by kernel_rfl) (by kernel_rfl) (congrArg Array.toList Try.results72) (by simp) ?_
    simp (implicitDefEqProofs := false) (disch := omega) only [push_cast, ↓guardK_tt, ↓guardK_ff, ↓guardK_tf, ↓guardK_ft, ↓condK_t, ↓condK_f, ↓reduceIte, Nat.reduceEqDiff, reduceCtorEq, Nat.reduceAdd, Nat.reduceSub, Nat.reduceMul, Nat.reduceLT, Nat.reduceLeDiff, Int.reduceToNat, Int.reduceLE, Int.reduceLT, Int.reduceEq, Int.reduceNe, Int.reduceAdd, Int.reduceSub, Nat.reduceBEq, Option.some.injEq]
    refine (in_f h1 _).to ?_
    simp (implicitDefEqProofs := false) (disch := omega) only [push_cast, ↓guardK_tt, ↓guardK_ff, ↓guardK_tf, ↓guardK_ft, ↓condK_t, ↓condK_f, ↓reduceIte, Nat.reduceEqDiff, reduceCtorEq, Nat.reduceAdd, Nat.reduceSub, Nat.reduceMul, Nat.reduceLT, Nat.reduceLeDiff, Int.reduceToNat, Int.reduceLE, Int.reduceLT, Int.reduceEq, Int.reduceNe, Int.reduceAdd, Int.reduceSub, Nat.reduceBEq, Option.some.injEq]
    exact fin0 rfl

end Go.Proofs.Ytblbaniokmgjgaa
