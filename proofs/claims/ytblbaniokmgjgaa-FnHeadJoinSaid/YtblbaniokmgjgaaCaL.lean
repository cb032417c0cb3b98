/- Contracts: tables are alike. -/
import Derived.Test.YtblbaniokmgjgaaCaK
namespace Go.Proofs.Ytblbaniokmgjgaa
open Go
set_option linter.unusedVariables false
set_option linter.unusedSimpArgs false

theorem fd_ext {a c : Fd} : (a.name = c.name ∧ a.val = c.val ∧ a.never = c.never) ↔ a = c := by
  cases a; cases c; simp
instance : DecidableEq Fd := fun _ _ => decidable_of_iff _ fd_ext

theorem lkFields_ok (a c : List Fd) (ha : a.length ≤ 2000000) (hc : c.length ≤ 2000000) (S : List Blk) : VCall Try.prog 18 [.rows none (a.map fV), .rows none (c.map fV)] S fun r S' => r = .bool (decide (a = c)) ∧ S' = S := by
  refine VCall.of_ev hD (fun _ => false) (fun id => if id = 6 then [9, 9, 9, 9, 9, 9, 9, 9, 9] else []) (n := 26) Try.func18 rfl rfl Try.ntmps18 (by kernel_rfl) (by kernel_rfl) (congrArg Array.toList Try.results18) (by simp) ?_
  simp (implicitDefEqProofs := false) (disch := omega) only [push_cast, ↓guardK_tt, ↓guardK_ff, ↓guardK_tf, ↓guardK_ft, ↓condK_t, ↓condK_f, ↓reduceIte, Nat.reduceEqDiff, reduceCtorEq, Nat.reduceAdd, Nat.reduceSub, Nat.reduceMul, Nat.reduceLT, Nat.reduceLeDiff, Int.reduceToNat, Int.reduceLE, Int.reduceLT, Int.reduceEq, Int.reduceNe, Int.reduceAdd, Int.reduceSub, Nat.reduceBEq, Option.some.injEq]
  refine ⟨fun h => ?_, fun h => ?_⟩
  · refine fin0 ?_
    rw [decide_eq_false (fun e => h (by rw [e]))]
  have hlen : a.length = c.length := by omega
  refine wpV_loop (fun m t S' => ∃ i : Nat, m = a.length - i ∧ i ≤ a.length ∧ a.take i = c.take i ∧ t 0 = .rows none (a.map fV) ∧ t 1 = .rows none (c.map fV) ∧ t 5 = .int .i64 i ∧ S' = S) a.length ⟨0, by omega, by omega, by simp, rfl, rfl, rfl, rfl⟩ ?_
  rintro m t S' ⟨i, rfl, hi, htk, h0, h1, h5, rfl⟩
  refine wpV_of hD (fun _ => false) (fun id => if id = 6 then [9, 9, 9, 9, 9, 9, 9, 9, 9] else []) (by kernel_rfl) ?_
  simp (implicitDefEqProofs := false) (disch := omega) only [push_cast, h0, h1, h5, ↓guardK_tt, ↓guardK_ff, ↓guardK_tf, ↓guardK_ft, ↓condK_t, ↓condK_f, ↓reduceIte, Nat.reduceEqDiff, reduceCtorEq, Nat.reduceAdd, Nat.reduceSub, Nat.reduceMul, Nat.reduceLT, Nat.reduceLeDiff, Int.reduceToNat, Int.reduceLE, Int.reduceLT, Int.reduceEq, Int.reduceNe, Int.reduceAdd, Int.reduceSub, Nat.reduceBEq, Option.some.injEq]
  refine ⟨fun h => ⟨by omega, by omega, ?_⟩, fun h => ?_⟩
  · have hil : i < a.length := by omega
    have hil2 : i < c.length := by omega
    have hg1 := getD_fV hil
    have hg2 := getD_fV hil2
    generalize hf : a.getD i fd0 = f at hg1
    generalize hg : c.getD i fd0 = g at hg2
    simp (implicitDefEqProofs := false) (disch := omega) only [push_cast, h0, h1, h5, hg1, hg2, ↓guardK_tt, ↓guardK_ff, ↓guardK_tf, ↓guardK_ft, ↓condK_t, ↓condK_f, ↓reduceIte, Nat.reduceEqDiff, reduceCtorEq, Nat.reduceAdd, Nat.reduceSub, Nat.reduceMul, Nat.reduceLT, Nat.reduceLeDiff, Int.reduceToNat, Int.reduceLE, Int.reduceLT, Int.reduceEq, Int.reduceNe, Int.reduceAdd, Int.reduceSub, Nat.reduceBEq, Option.some.injEq]
    refine ⟨by omega, by omega, fun he => fin0 ?_, fun he => ⟨a.length - (i + 1), by omega, i + 1, rfl, by omega, ?_, by simp⟩⟩
    · rw [decide_eq_false]
      intro e
      subst e
      rw [hf] at hg
      subst hg
      simp at he
    · rw [take_fd hil, take_fd hil2, htk, hf, hg]
      simp only [Bool.and_eq_true, decide_eq_true_eq, beq_iff_eq] at he
      rw [fd_ext.1 he]
  · have : i = a.length := by omega
    subst this
    rw [List.take_length, hlen, List.take_length] at htk
    exact fin0 (by rw [htk]; simp)

theorem lkTable_ok (a c : List Fd) (m n : Int) (ha : a.length ≤ 2000000) (hc : c.length ≤ 2000000) (S : List Blk) : VCall Try.prog 19 [tV a m, tV c n] S fun r S' => r = .bool (decide (m = n) && decide (a = c)) ∧ S' = S := by
  refine VCall.of_ev hD (fun _ => false) (fun _ => []) (n := 17) Try.func19 rfl rfl Try.ntmps19 (by kernel_rfl) (by kernel_rfl) (congrArg Array.toList Try.results19) (by simp) ?_
  by_cases h : m = n
  · simp (implicitDefEqProofs := false) (disch := omega) only [push_cast, h, ↓guardK_tt, ↓guardK_ff, ↓guardK_tf, ↓guardK_ft, ↓condK_t, ↓condK_f, ↓reduceIte, Nat.reduceEqDiff, reduceCtorEq, Nat.reduceAdd, Nat.reduceSub, Nat.reduceMul, Nat.reduceLT, Nat.reduceLeDiff, Int.reduceToNat, Int.reduceLE, Int.reduceLT, Int.reduceEq, Int.reduceNe, Int.reduceAdd, Int.reduceSub, Nat.reduceBEq, Option.some.injEq]
    refine (lkFields_ok a c ha hc _).to ?_
    simp (implicitDefEqProofs := false) (disch := omega) only [push_cast, h, ↓guardK_tt, ↓guardK_ff, ↓guardK_tf, ↓guardK_ft, ↓condK_t, ↓condK_f, ↓reduceIte, Nat.reduceEqDiff, reduceCtorEq, Nat.reduceAdd, Nat.reduceSub, Nat.reduceMul, Nat.reduceLT, Nat.reduceLeDiff, Int.reduceToNat, Int.reduceLE, Int.reduceLT, Int.reduceEq, Int.reduceNe, Int.reduceAdd, Int.reduceSub, Nat.reduceBEq, Option.some.injEq]
    exact fin1 (.bool _) (by simp)
  · simp (implicitDefEqProofs := false) (disch := omega) only [push_cast, h, ↓guardK_tt, ↓guardK_ff, ↓guardK_tf, ↓guardK_ft, ↓condK_t, ↓condK_f, ↓reduceIte, Nat.reduceEqDiff, reduceCtorEq, Nat.reduceAdd, Nat.reduceSub, Nat.reduceMul, Nat.reduceLT, Nat.reduceLeDiff, Int.reduceToNat, Int.reduceLE, Int.reduceLT, Int.reduceEq, Int.reduceNe, Int.reduceAdd, Int.reduceSub, Nat.reduceBEq, Option.some.injEq]
    exact fin1 (.bool _) (by simp [h])

theorem lkTable_self (a : List Fd) (m : Int) (ha : a.length ≤ 2000000) (S : List Blk) : VCall Try.prog 19 [tV a m, tV a m] S fun r S' => r = .bool true ∧ S' = S := by
  have h := lkTable_ok a a m m ha ha S
  rw [decide_eq_true rfl, decide_eq_true rfl] at h
  exact h

theorem tabW_len (l : List Fd) (max : Int) (f : Fd) : (tabW l max f).length ≤ l.length + 1 := by
  unfold tabW
  split
  · omega
  · split
    · omega
    · have := (fitL_sub (f :: l) max).2
      simpa using this
theorem tabW_mem {l : List Fd} {max : Int} {f g : Fd} (h : g ∈ tabW l max f) : g = f ∨ g ∈ l := by
  unfold tabW at h
  split at h
  · exact .inr h
  · split at h
    · exact .inr h
    · exact List.mem_cons.1 ((fitL_sub (f :: l) max).1 g h)
theorem headW_sub (h : List Fd) : ∀ (l : List Fd) (max : Int), (headW l max h).1.length ≤ l.length + h.length ∧ ∀ g ∈ (headW l max h).1, g ∈ h ∨ g ∈ l := by
  induction h with
  | nil => intro l max; exact ⟨by simp [headW], fun g hg => .inr hg⟩
  | cons f h ih =>
    intro l max
    obtain ⟨h1, h2⟩ := ih (tabW l max f) max
    have h3 := tabW_len l max f
    refine ⟨by simp only [headW, List.length_cons]; omega, fun g hg => ?_⟩
    rcases h2 g hg with h4 | h4
    · exact .inl (List.mem_cons_of_mem _ h4)
    · rcases tabW_mem h4 with rfl | h5
      · exact .inl List.mem_cons_self
      · exact .inr h5
theorem hwTab_sub (l : List Fd) (max : Int) (h : List Fd) : (hwTab l max h).length ≤ l.length + h.length ∧ ∀ g ∈ hwTab l max h, g ∈ h ∨ g ∈ l := by
  unfold hwTab
  split
  · exact headW_sub h l max
  · exact ⟨by simp, fun g hg => by cases hg⟩

theorem headW_nil (l : List Fd) (max : Int) : headW l max [] = (l, []) := rfl

end Go.Proofs.Ytblbaniokmgjgaa
