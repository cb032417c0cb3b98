/- Without a table a head is read back, too: the law as a value call. -/
import Derived.Test.YtdankbhcjefilaaMoE
namespace Go.Proofs.Ytdankbhcjefilaa
open Go
set_option linter.unusedVariables false
set_option linter.unusedSimpArgs false

theorem headW_zero : ∀ (h : List Fd), (headW [] 0 h).1 = []
  | [] => rfl
  | f :: h => by
    have e : tabW [] 0 f = [] := by
      have hz : fitL [f] 0 = [] := by
        have h4 : (0 : Int) < (fdsSize [f] : Nat) := by simp [fdsSize, fdSize]; omega
        rw [fitL]
        simp only [List.length_cons, List.length_nil, fitN]
        rw [if_pos h4]
        rfl
      unfold tabW
      split
      · rfl
      · split
        · rfl
        · exact hz
    show (headW (tabW [] 0 f) 0 h).1 = []
    rw [e]
    exact headW_zero h

theorem lkFields_self (a : List Fd) (ha : a.length ≤ 2000000) (S : List Blk) : VCall Try.prog 14 [.rows none (a.map fV), .rows none (a.map fV)] S fun r S' => r = .bool true ∧ S' = S := by
  have h := lkFields_ok a a ha ha S
  rw [decide_eq_true rfl] at h
  exact h

set_option maxHeartbeats 2000000 in
theorem FnHeadSmall_ok (code : List UInt8) (S : List Blk) : VCall Try.prog 5 [.rows none (code.map u8V)] S fun r S' => r = .bool true ∧ S' = S := by
  refine VCall.of_ev hD (fun _ => false) (fun _ => []) (n := 89) Try.func5 rfl rfl Try.ntmps5 (by kernel_rfl) (by kernel_rfl) (congrArg Array.toList Try.results5) (by simp) ?_
  simp (implicitDefEqProofs := false) (disch := omega) only [push_cast, ↓guardK_tt, ↓guardK_ff, ↓guardK_tf, ↓guardK_ft, ↓condK_t, ↓condK_f, ↓reduceIte, Nat.reduceEqDiff, reduceCtorEq, Nat.reduceAdd, Nat.reduceSub, Nat.reduceMul, Nat.reduceLT, Nat.reduceLeDiff, Int.reduceToNat, Int.reduceLE, Int.reduceLT, Int.reduceEq, Int.reduceNe, Int.reduceAdd, Int.reduceSub, Nat.reduceBEq, Option.some.injEq]
  refine ⟨fun h => fin0 rfl, fun h => ?_⟩
  have hc : code.length ≤ 1073741824 := by omega
  refine (DrawHeadWrite_ok code hc _).mono ?_
  rintro r S1 ⟨⟨l, h, max, hl1, hl2, hh1, hh2, hm1, hm2, rfl⟩, rfl⟩
  have hlb : FdsB l := ⟨by omega, fun f hf => (hl2 f hf).b⟩
  have hhb : FdsB h := ⟨by omega, fun f hf => (hh2 f hf).b⟩
  simp (implicitDefEqProofs := false) (disch := omega) only [push_cast, ↓guardK_tt, ↓guardK_ff, ↓guardK_tf, ↓guardK_ft, ↓condK_t, ↓condK_f, ↓reduceIte, Nat.reduceEqDiff, reduceCtorEq, Nat.reduceAdd, Nat.reduceSub, Nat.reduceMul, Nat.reduceLT, Nat.reduceLeDiff, Int.reduceToNat, Int.reduceLE, Int.reduceLT, Int.reduceEq, Int.reduceNe, Int.reduceAdd, Int.reduceSub, Nat.reduceBEq, Option.some.injEq]
  refine ((sHeadWrite_ok l max h hlb hhb _).as rfl).to ?_
  simp (implicitDefEqProofs := false) (disch := omega) only [push_cast, ↓guardK_tt, ↓guardK_ff, ↓guardK_tf, ↓guardK_ft, ↓condK_t, ↓condK_f, ↓reduceIte, Nat.reduceEqDiff, reduceCtorEq, Nat.reduceAdd, Nat.reduceSub, Nat.reduceMul, Nat.reduceLT, Nat.reduceLeDiff, Int.reduceToNat, Int.reduceLE, Int.reduceLT, Int.reduceEq, Int.reduceNe, Int.reduceAdd, Int.reduceSub, Nat.reduceBEq, Option.some.injEq]
  refine ((HeadWrite_ok l max h hlb hhb _).as rfl).to ?_
  have hwl : (hwTab l max h).length ≤ 2000000 := by have := (hwTab_sub l max h).1; omega
  simp (implicitDefEqProofs := false) (disch := omega) only [push_cast, ↓guardK_tt, ↓guardK_ff, ↓guardK_tf, ↓guardK_ft, ↓condK_t, ↓condK_f, ↓reduceIte, Nat.reduceEqDiff, reduceCtorEq, Nat.reduceAdd, Nat.reduceSub, Nat.reduceMul, Nat.reduceLT, Nat.reduceLeDiff, Int.reduceToNat, Int.reduceLE, Int.reduceLT, Int.reduceEq, Int.reduceNe, Int.reduceAdd, Int.reduceSub, Nat.reduceBEq, Option.some.injEq]
  refine ((lkTable_self (hwTab l max h) (hwMax l max h) hwl _).as rfl).to ?_
  simp (implicitDefEqProofs := false) (disch := omega) only [push_cast, ↓guardK_tt, ↓guardK_ff, ↓guardK_tf, ↓guardK_ft, ↓condK_t, ↓condK_f, ↓reduceIte, Nat.reduceEqDiff, reduceCtorEq, Nat.reduceAdd, Nat.reduceSub, Nat.reduceMul, Nat.reduceLT, Nat.reduceLeDiff, Int.reduceToNat, Int.reduceLE, Int.reduceLT, Int.reduceEq, Int.reduceNe, Int.reduceAdd, Int.reduceSub, Nat.reduceBEq, Option.some.injEq]
  refine ((sHeadOk_ok h hhb _).as rfl).to ?_
  cases hk : headOk h
  · simp (implicitDefEqProofs := false) (disch := omega) only [push_cast, ↓guardK_tt, ↓guardK_ff, ↓guardK_tf, ↓guardK_ft, ↓condK_t, ↓condK_f, ↓reduceIte, Nat.reduceEqDiff, reduceCtorEq, Nat.reduceAdd, Nat.reduceSub, Nat.reduceMul, Nat.reduceLT, Nat.reduceLeDiff, Int.reduceToNat, Int.reduceLE, Int.reduceLT, Int.reduceEq, Int.reduceNe, Int.reduceAdd, Int.reduceSub, Nat.reduceBEq, Option.some.injEq]
    refine ((lkTable_self (hwTab l max h) (hwMax l max h) hwl _).as rfl).to ?_
    simp (implicitDefEqProofs := false) (disch := omega) only [push_cast, ↓guardK_tt, ↓guardK_ff, ↓guardK_tf, ↓guardK_ft, ↓condK_t, ↓condK_f, ↓reduceIte, Nat.reduceEqDiff, reduceCtorEq, Nat.reduceAdd, Nat.reduceSub, Nat.reduceMul, Nat.reduceLT, Nat.reduceLeDiff, Int.reduceToNat, Int.reduceLE, Int.reduceLT, Int.reduceEq, Int.reduceNe, Int.reduceAdd, Int.reduceSub, Nat.reduceBEq, Option.some.injEq]
    exact fin1 (.bool _) rfl
  · have ht0 : tableOk [] 0 = true := by decide
    obtain ⟨k1, k2⟩ := headOk_parts hk
    have e1 : hwTab [] 0 h = [] := by rw [hwTab, ht0, hk]; exact headW_zero h
    have e2 : hwMax [] 0 h = 0 := by rw [hwMax, ht0, hk]; rfl
    have e3 : hwBytes [] 0 h = (headW [] 0 h).2 := by rw [hwBytes, ht0, hk]; rfl
    have e4 := head_back ht0 hk
    have hcl := headW_len h [] 0 k1 (by simp; omega)
    rw [headW_zero] at e4
    simp (implicitDefEqProofs := false) (disch := omega) only [push_cast, ↓guardK_tt, ↓guardK_ff, ↓guardK_tf, ↓guardK_ft, ↓condK_t, ↓condK_f, ↓reduceIte, Nat.reduceEqDiff, reduceCtorEq, Nat.reduceAdd, Nat.reduceSub, Nat.reduceMul, Nat.reduceLT, Nat.reduceLeDiff, Int.reduceToNat, Int.reduceLE, Int.reduceLT, Int.reduceEq, Int.reduceNe, Int.reduceAdd, Int.reduceSub, Nat.reduceBEq, Option.some.injEq]
    refine ((HeadWrite_ok [] 0 h ⟨by simp, by simp⟩ hhb _).as rfl).to ?_
    rw [e1, e2, e3]
    simp (implicitDefEqProofs := false) (disch := omega) only [push_cast, ↓guardK_tt, ↓guardK_ff, ↓guardK_tf, ↓guardK_ft, ↓condK_t, ↓condK_f, ↓reduceIte, Nat.reduceEqDiff, reduceCtorEq, Nat.reduceAdd, Nat.reduceSub, Nat.reduceMul, Nat.reduceLT, Nat.reduceLeDiff, Int.reduceToNat, Int.reduceLE, Int.reduceLT, Int.reduceEq, Int.reduceNe, Int.reduceAdd, Int.reduceSub, Nat.reduceBEq, Option.some.injEq]
    refine ((HeadRead_ok [] 0 (headW [] 0 h).2 ⟨by simp, by simp⟩ (by omega) _).as rfl).to ?_
    rw [e4]
    simp (implicitDefEqProofs := false) (disch := omega) only [push_cast, hrV, ↓guardK_tt, ↓guardK_ff, ↓guardK_tf, ↓guardK_ft, ↓condK_t, ↓condK_f, ↓reduceIte, Nat.reduceEqDiff, reduceCtorEq, Nat.reduceAdd, Nat.reduceSub, Nat.reduceMul, Nat.reduceLT, Nat.reduceLeDiff, Int.reduceToNat, Int.reduceLE, Int.reduceLT, Int.reduceEq, Int.reduceNe, Int.reduceAdd, Int.reduceSub, Nat.reduceBEq, Option.some.injEq]
    refine ((lkFields_self h (by omega) _).as rfl).to ?_
    simp (implicitDefEqProofs := false) (disch := omega) only [push_cast, ↓guardK_tt, ↓guardK_ff, ↓guardK_tf, ↓guardK_ft, ↓condK_t, ↓condK_f, ↓reduceIte, Nat.reduceEqDiff, reduceCtorEq, Nat.reduceAdd, Nat.reduceSub, Nat.reduceMul, Nat.reduceLT, Nat.reduceLeDiff, Int.reduceToNat, Int.reduceLE, Int.reduceLT, Int.reduceEq, Int.reduceNe, Int.reduceAdd, Int.reduceSub, Nat.reduceBEq, Option.some.injEq]
    exact fin1 (.bool _) rfl

end Go.Proofs.Ytdankbhcjefilaa
