/- Heads, one behind the other, keep both tables one: the law as a value call. -/
import Derived.Test.YtdankbhcjefilaaCeA
namespace Go.Proofs.Ytdankbhcjefilaa
open Go
set_option linter.unusedVariables false
set_option linter.unusedSimpArgs false

theorem fitN_size : ∀ (n : Nat) (l : List Fd) (max : Int), 0 ≤ max → l.length ≤ n → ((fdsSize (fitN l max n) : Nat) : Int) ≤ max
  | 0, l, max, hm, hl => by
    have : l = [] := List.length_eq_zero_iff.1 (by omega)
    subst this
    simpa [fitN, fdsSize] using hm
  | n + 1, l, max, hm, hl => by
    rw [fitN]
    split
    · exact fitN_size n l.dropLast max hm (by simp; omega)
    · omega
theorem tableOk_of {l : List Fd} {max : Int} (h1 : ∀ f ∈ l, fieldOk f = true ∧ f.never = false) (h2 : 0 ≤ max ∧ max ≤ 64) (h3 : ((fdsSize l : Nat) : Int) ≤ max) : tableOk l max = true := by
  simp only [tableOk, Bool.and_eq_true, List.all_eq_true, decide_eq_true_eq, Bool.not_eq_true']
  exact ⟨⟨h1, h2⟩, h3⟩
theorem tableOk_tabW {l : List Fd} {max : Int} {f : Fd} (ht : tableOk l max = true) (hf : fieldOk f = true) : tableOk (tabW l max f) max = true := by
  obtain ⟨t1, t2, t3, t4, t5⟩ := tableOk_parts ht
  unfold tabW
  split
  · exact ht
  · rename_i hn
    split
    · exact ht
    · refine tableOk_of (fun g hg => ?_) ⟨t2, t3⟩ (fitN_size _ _ _ t2 (Nat.le_refl _))
      rcases List.mem_cons.1 ((fitL_sub (f :: l) max).1 g hg) with rfl | h'
      · exact ⟨hf, by simpa using hn⟩
      · exact t4 g h'
theorem tableOk_headW : ∀ (h : List Fd) (l : List Fd) (max : Int), tableOk l max = true → (∀ f ∈ h, fieldOk f = true) → tableOk (headW l max h).1 max = true
  | [], l, max, ht, _ => ht
  | f :: h, l, max, ht, hh => tableOk_headW h (tabW l max f) max (tableOk_tabW ht (hh f (by simp))) (fun g hg => hh g (by simp [hg]))

set_option maxHeartbeats 4000000 in
theorem FnHeadTwo_ok (code more : List UInt8) (S : List Blk) : VCall Try.prog 6 [.rows none (code.map u8V), .rows none (more.map u8V)] S fun r S' => r = .bool true ∧ S' = S := by
  by_cases hc1 : code.length ≤ 1048576
  · have hc1' : ¬ (code.length : Int) > 1048576 := by omega
    by_cases hc2 : more.length ≤ 1048576
    · have hc2' : ¬ (more.length : Int) > 1048576 := by omega
      refine VCall.of_ev hD (fun _ => false) (fun _ => []) (n := 122) Try.func6 rfl rfl Try.ntmps6 (by kernel_rfl) (by kernel_rfl) (congrArg Array.toList Try.results6) (by simp) ?_
      simp (implicitDefEqProofs := false) (disch := omega) only [push_cast, hc1', hc2', ↓guardK_tt, ↓guardK_ff, ↓guardK_tf, ↓guardK_ft, ↓condK_t, ↓condK_f, ↓reduceIte, Nat.reduceEqDiff, reduceCtorEq, Nat.reduceAdd, Nat.reduceSub, Nat.reduceMul, Nat.reduceLT, Nat.reduceLeDiff, Int.reduceToNat, Int.reduceLE, Int.reduceLT, Int.reduceEq, Int.reduceNe, Int.reduceAdd, Int.reduceSub, Nat.reduceBEq, Option.some.injEq]
      refine (DrawHeadWrite_ok code (by omega) _).mono ?_
      rintro r S1 ⟨⟨l, h, max, hl1, hl2, hh1, hh2, hm1, hm2, rfl⟩, rfl⟩
      have hlb : FdsB l := ⟨by omega, fun f hf => (hl2 f hf).b⟩
      have hhb : FdsB h := ⟨by omega, fun f hf => (hh2 f hf).b⟩
      simp (implicitDefEqProofs := false) (disch := omega) only [push_cast, ↓guardK_tt, ↓guardK_ff, ↓guardK_tf, ↓guardK_ft, ↓condK_t, ↓condK_f, ↓reduceIte, Nat.reduceEqDiff, reduceCtorEq, Nat.reduceAdd, Nat.reduceSub, Nat.reduceMul, Nat.reduceLT, Nat.reduceLeDiff, Int.reduceToNat, Int.reduceLE, Int.reduceLT, Int.reduceEq, Int.reduceNe, Int.reduceAdd, Int.reduceSub, Nat.reduceBEq, Option.some.injEq]
      refine (DrawHeadWrite_ok more (by omega) _).mono ?_
      rintro r S1 ⟨⟨l2, g, max2, hl12, hl22, hg1, hg2, hm12, hm22, rfl⟩, rfl⟩
      have hgb : FdsB g := ⟨by omega, fun f hf => (hg2 f hf).b⟩
      simp (implicitDefEqProofs := false) (disch := omega) only [push_cast, ↓guardK_tt, ↓guardK_ff, ↓guardK_tf, ↓guardK_ft, ↓condK_t, ↓condK_f, ↓reduceIte, Nat.reduceEqDiff, reduceCtorEq, Nat.reduceAdd, Nat.reduceSub, Nat.reduceMul, Nat.reduceLT, Nat.reduceLeDiff, Int.reduceToNat, Int.reduceLE, Int.reduceLT, Int.reduceEq, Int.reduceNe, Int.reduceAdd, Int.reduceSub, Nat.reduceBEq, Option.some.injEq]
      refine ((sHeadWrite_ok l max h hlb hhb _).as rfl).to ?_
      simp (implicitDefEqProofs := false) (disch := omega) only [push_cast, ↓guardK_tt, ↓guardK_ff, ↓guardK_tf, ↓guardK_ft, ↓condK_t, ↓condK_f, ↓reduceIte, Nat.reduceEqDiff, reduceCtorEq, Nat.reduceAdd, Nat.reduceSub, Nat.reduceMul, Nat.reduceLT, Nat.reduceLeDiff, Int.reduceToNat, Int.reduceLE, Int.reduceLT, Int.reduceEq, Int.reduceNe, Int.reduceAdd, Int.reduceSub, Nat.reduceBEq, Option.some.injEq]
      refine ((HeadWrite_ok l max h hlb hhb _).as rfl).to ?_
      have hwl : (hwTab l max h).length ≤ 2000000 := by have := (hwTab_sub l max h).1; omega
      simp (implicitDefEqProofs := false) (disch := omega) only [push_cast, ↓guardK_tt, ↓guardK_ff, ↓guardK_tf, ↓guardK_ft, ↓condK_t, ↓condK_f, ↓reduceIte, Nat.reduceEqDiff, reduceCtorEq, Nat.reduceAdd, Nat.reduceSub, Nat.reduceMul, Nat.reduceLT, Nat.reduceLeDiff, Int.reduceToNat, Int.reduceLE, Int.reduceLT, Int.reduceEq, Int.reduceNe, Int.reduceAdd, Int.reduceSub, Nat.reduceBEq, Option.some.injEq]
      refine ((lkTable_self (hwTab l max h) (hwMax l max h) hwl _).as rfl).to ?_
      simp (implicitDefEqProofs := false) (disch := omega) only [push_cast, ↓guardK_tt, ↓guardK_ff, ↓guardK_tf, ↓guardK_ft, ↓condK_t, ↓condK_f, ↓reduceIte, Nat.reduceEqDiff, reduceCtorEq, Nat.reduceAdd, Nat.reduceSub, Nat.reduceMul, Nat.reduceLT, Nat.reduceLeDiff, Int.reduceToNat, Int.reduceLE, Int.reduceLT, Int.reduceEq, Int.reduceNe, Int.reduceAdd, Int.reduceSub, Nat.reduceBEq, Option.some.injEq]
      refine ((sTableOk_ok l max hlb _).as rfl).to ?_
      cases ht : tableOk l max
      · simp (implicitDefEqProofs := false) (disch := omega) only [push_cast, ↓guardK_tt, ↓guardK_ff, ↓guardK_tf, ↓guardK_ft, ↓condK_t, ↓condK_f, ↓reduceIte, Nat.reduceEqDiff, reduceCtorEq, Nat.reduceAdd, Nat.reduceSub, Nat.reduceMul, Nat.reduceLT, Nat.reduceLeDiff, Int.reduceToNat, Int.reduceLE, Int.reduceLT, Int.reduceEq, Int.reduceNe, Int.reduceAdd, Int.reduceSub, Nat.reduceBEq, Option.some.injEq]
        refine ((lkTable_self (hwTab l max h) (hwMax l max h) hwl _).as rfl).to ?_
        simp (implicitDefEqProofs := false) (disch := omega) only [push_cast, ↓guardK_tt, ↓guardK_ff, ↓guardK_tf, ↓guardK_ft, ↓condK_t, ↓condK_f, ↓reduceIte, Nat.reduceEqDiff, reduceCtorEq, Nat.reduceAdd, Nat.reduceSub, Nat.reduceMul, Nat.reduceLT, Nat.reduceLeDiff, Int.reduceToNat, Int.reduceLE, Int.reduceLT, Int.reduceEq, Int.reduceNe, Int.reduceAdd, Int.reduceSub, Nat.reduceBEq, Option.some.injEq]
        exact fin1 (.bool _) rfl
      simp (implicitDefEqProofs := false) (disch := omega) only [push_cast, ↓guardK_tt, ↓guardK_ff, ↓guardK_tf, ↓guardK_ft, ↓condK_t, ↓condK_f, ↓reduceIte, Nat.reduceEqDiff, reduceCtorEq, Nat.reduceAdd, Nat.reduceSub, Nat.reduceMul, Nat.reduceLT, Nat.reduceLeDiff, Int.reduceToNat, Int.reduceLE, Int.reduceLT, Int.reduceEq, Int.reduceNe, Int.reduceAdd, Int.reduceSub, Nat.reduceBEq, Option.some.injEq]
      refine ((sHeadOk_ok h hhb _).as rfl).to ?_
      cases hk : headOk h
      · simp (implicitDefEqProofs := false) (disch := omega) only [push_cast, ↓guardK_tt, ↓guardK_ff, ↓guardK_tf, ↓guardK_ft, ↓condK_t, ↓condK_f, ↓reduceIte, Nat.reduceEqDiff, reduceCtorEq, Nat.reduceAdd, Nat.reduceSub, Nat.reduceMul, Nat.reduceLT, Nat.reduceLeDiff, Int.reduceToNat, Int.reduceLE, Int.reduceLT, Int.reduceEq, Int.reduceNe, Int.reduceAdd, Int.reduceSub, Nat.reduceBEq, Option.some.injEq]
        refine ((lkTable_self (hwTab l max h) (hwMax l max h) hwl _).as rfl).to ?_
        simp (implicitDefEqProofs := false) (disch := omega) only [push_cast, ↓guardK_tt, ↓guardK_ff, ↓guardK_tf, ↓guardK_ft, ↓condK_t, ↓condK_f, ↓reduceIte, Nat.reduceEqDiff, reduceCtorEq, Nat.reduceAdd, Nat.reduceSub, Nat.reduceMul, Nat.reduceLT, Nat.reduceLeDiff, Int.reduceToNat, Int.reduceLE, Int.reduceLT, Int.reduceEq, Int.reduceNe, Int.reduceAdd, Int.reduceSub, Nat.reduceBEq, Option.some.injEq]
        exact fin1 (.bool _) rfl
      simp (implicitDefEqProofs := false) (disch := omega) only [push_cast, ↓guardK_tt, ↓guardK_ff, ↓guardK_tf, ↓guardK_ft, ↓condK_t, ↓condK_f, ↓reduceIte, Nat.reduceEqDiff, reduceCtorEq, Nat.reduceAdd, Nat.reduceSub, Nat.reduceMul, Nat.reduceLT, Nat.reduceLeDiff, Int.reduceToNat, Int.reduceLE, Int.reduceLT, Int.reduceEq, Int.reduceNe, Int.reduceAdd, Int.reduceSub, Nat.reduceBEq, Option.some.injEq]
      refine ((sHeadOk_ok g hgb _).as rfl).to ?_
      cases hkg : headOk g
      · simp (implicitDefEqProofs := false) (disch := omega) only [push_cast, ↓guardK_tt, ↓guardK_ff, ↓guardK_tf, ↓guardK_ft, ↓condK_t, ↓condK_f, ↓reduceIte, Nat.reduceEqDiff, reduceCtorEq, Nat.reduceAdd, Nat.reduceSub, Nat.reduceMul, Nat.reduceLT, Nat.reduceLeDiff, Int.reduceToNat, Int.reduceLE, Int.reduceLT, Int.reduceEq, Int.reduceNe, Int.reduceAdd, Int.reduceSub, Nat.reduceBEq, Option.some.injEq]
        refine ((lkTable_self (hwTab l max h) (hwMax l max h) hwl _).as rfl).to ?_
        simp (implicitDefEqProofs := false) (disch := omega) only [push_cast, ↓guardK_tt, ↓guardK_ff, ↓guardK_tf, ↓guardK_ft, ↓condK_t, ↓condK_f, ↓reduceIte, Nat.reduceEqDiff, reduceCtorEq, Nat.reduceAdd, Nat.reduceSub, Nat.reduceMul, Nat.reduceLT, Nat.reduceLeDiff, Int.reduceToNat, Int.reduceLE, Int.reduceLT, Int.reduceEq, Int.reduceNe, Int.reduceAdd, Int.reduceSub, Nat.reduceBEq, Option.some.injEq]
        exact fin1 (.bool _) rfl
      obtain ⟨k1, k2⟩ := headOk_parts hk
      obtain ⟨kg1, kg2⟩ := headOk_parts hkg
      have e1 : hwTab l max h = (headW l max h).1 := by rw [hwTab, ht, hk]; rfl
      have e2 : hwMax l max h = max := by rw [hwMax, ht, hk]; rfl
      have e3 : hwBytes l max h = (headW l max h).2 := by rw [hwBytes, ht, hk]; rfl
      have hback := head_back ht hk
      have hxs := hwTab_sub l max h
      rw [e1] at hwl hxs
      have hbl := headW_len h l max k1 (by omega)
      have htx := tableOk_headW h l max ht k1
      rw [e1, e2, e3]
      have hxb : FdsB (headW l max h).1 := ⟨by omega, fun f hf => (hxs.2 f hf).elim (hhb.2 f) (hlb.2 f)⟩
      generalize (headW l max h).1 = x at htx hwl hxs hback hxb
      generalize (headW l max h).2 = b at hback hbl
      have f1 : hwTab x max g = (headW x max g).1 := by rw [hwTab, htx, hkg]; rfl
      have f2 : hwMax x max g = max := by rw [hwMax, htx, hkg]; rfl
      have f3 : hwBytes x max g = (headW x max g).2 := by rw [hwBytes, htx, hkg]; rfl
      have hback2 := head_back htx hkg
      have hbl2 := headW_len g x max kg1 (by omega)
      have hyl := (headW_sub g x max).1
      simp (implicitDefEqProofs := false) (disch := omega) only [push_cast, ↓guardK_tt, ↓guardK_ff, ↓guardK_tf, ↓guardK_ft, ↓condK_t, ↓condK_f, ↓reduceIte, Nat.reduceEqDiff, reduceCtorEq, Nat.reduceAdd, Nat.reduceSub, Nat.reduceMul, Nat.reduceLT, Nat.reduceLeDiff, Int.reduceToNat, Int.reduceLE, Int.reduceLT, Int.reduceEq, Int.reduceNe, Int.reduceAdd, Int.reduceSub, Nat.reduceBEq, Option.some.injEq]
      refine ((HeadWrite_ok x max g hxb hgb _).as rfl).to ?_
      rw [f1, f2, f3]
      simp (implicitDefEqProofs := false) (disch := omega) only [push_cast, ↓guardK_tt, ↓guardK_ff, ↓guardK_tf, ↓guardK_ft, ↓condK_t, ↓condK_f, ↓reduceIte, Nat.reduceEqDiff, reduceCtorEq, Nat.reduceAdd, Nat.reduceSub, Nat.reduceMul, Nat.reduceLT, Nat.reduceLeDiff, Int.reduceToNat, Int.reduceLE, Int.reduceLT, Int.reduceEq, Int.reduceNe, Int.reduceAdd, Int.reduceSub, Nat.reduceBEq, Option.some.injEq]
      refine ((HeadRead_ok l max b hlb (by omega) _).as rfl).to ?_
      rw [hback]
      simp (implicitDefEqProofs := false) (disch := omega) only [push_cast, hrV, ↓guardK_tt, ↓guardK_ff, ↓guardK_tf, ↓guardK_ft, ↓condK_t, ↓condK_f, ↓reduceIte, Nat.reduceEqDiff, reduceCtorEq, Nat.reduceAdd, Nat.reduceSub, Nat.reduceMul, Nat.reduceLT, Nat.reduceLeDiff, Int.reduceToNat, Int.reduceLE, Int.reduceLT, Int.reduceEq, Int.reduceNe, Int.reduceAdd, Int.reduceSub, Nat.reduceBEq, Option.some.injEq]
      refine ((HeadRead_ok x max (headW x max g).2 hxb (by omega) _).as rfl).to ?_
      rw [hback2]
      simp (implicitDefEqProofs := false) (disch := omega) only [push_cast, hrV, ↓guardK_tt, ↓guardK_ff, ↓guardK_tf, ↓guardK_ft, ↓condK_t, ↓condK_f, ↓reduceIte, Nat.reduceEqDiff, reduceCtorEq, Nat.reduceAdd, Nat.reduceSub, Nat.reduceMul, Nat.reduceLT, Nat.reduceLeDiff, Int.reduceToNat, Int.reduceLE, Int.reduceLT, Int.reduceEq, Int.reduceNe, Int.reduceAdd, Int.reduceSub, Nat.reduceBEq, Option.some.injEq]
      refine ((lkFields_self h (by omega) _).as rfl).to ?_
      simp (implicitDefEqProofs := false) (disch := omega) only [push_cast, ↓guardK_tt, ↓guardK_ff, ↓guardK_tf, ↓guardK_ft, ↓condK_t, ↓condK_f, ↓reduceIte, Nat.reduceEqDiff, reduceCtorEq, Nat.reduceAdd, Nat.reduceSub, Nat.reduceMul, Nat.reduceLT, Nat.reduceLeDiff, Int.reduceToNat, Int.reduceLE, Int.reduceLT, Int.reduceEq, Int.reduceNe, Int.reduceAdd, Int.reduceSub, Nat.reduceBEq, Option.some.injEq]
      refine ((lkFields_self g (by omega) _).as rfl).to ?_
      simp (implicitDefEqProofs := false) (disch := omega) only [push_cast, ↓guardK_tt, ↓guardK_ff, ↓guardK_tf, ↓guardK_ft, ↓condK_t, ↓condK_f, ↓reduceIte, Nat.reduceEqDiff, reduceCtorEq, Nat.reduceAdd, Nat.reduceSub, Nat.reduceMul, Nat.reduceLT, Nat.reduceLeDiff, Int.reduceToNat, Int.reduceLE, Int.reduceLT, Int.reduceEq, Int.reduceNe, Int.reduceAdd, Int.reduceSub, Nat.reduceBEq, Option.some.injEq]
      refine ((lkTable_self (headW x max g).1 max (by omega) _).as rfl).to ?_
      simp (implicitDefEqProofs := false) (disch := omega) only [push_cast, ↓guardK_tt, ↓guardK_ff, ↓guardK_tf, ↓guardK_ft, ↓condK_t, ↓condK_f, ↓reduceIte, Nat.reduceEqDiff, reduceCtorEq, Nat.reduceAdd, Nat.reduceSub, Nat.reduceMul, Nat.reduceLT, Nat.reduceLeDiff, Int.reduceToNat, Int.reduceLE, Int.reduceLT, Int.reduceEq, Int.reduceNe, Int.reduceAdd, Int.reduceSub, Nat.reduceBEq, Option.some.injEq]
      exact fin1 (.bool _) rfl
    · have hc2' : (more.length : Int) > 1048576 := by omega
      refine VCall.of_ev hD (fun _ => false) (fun _ => []) (n := 122) Try.func6 rfl rfl Try.ntmps6 (by kernel_rfl) (by kernel_rfl) (congrArg Array.toList Try.results6) (by simp) ?_
      simp (implicitDefEqProofs := false) (disch := omega) only [push_cast, hc1', hc2', ↓guardK_tt, ↓guardK_ff, ↓guardK_tf, ↓guardK_ft, ↓condK_t, ↓condK_f, ↓reduceIte, Nat.reduceEqDiff, reduceCtorEq, Nat.reduceAdd, Nat.reduceSub, Nat.reduceMul, Nat.reduceLT, Nat.reduceLeDiff, Int.reduceToNat, Int.reduceLE, Int.reduceLT, Int.reduceEq, Int.reduceNe, Int.reduceAdd, Int.reduceSub, Nat.reduceBEq, Option.some.injEq]
      exact fin0 rfl
  · have hc1' : (code.length : Int) > 1048576 := by omega
    refine VCall.of_ev hD (fun _ => false) (fun _ => []) (n := 122) Try.func6 rfl rfl Try.ntmps6 (by kernel_rfl) (by kernel_rfl) (congrArg Array.toList Try.results6) (by simp) ?_
    simp (implicitDefEqProofs := false) (disch := omega) only [push_cast, hc1', ↓guardK_tt, ↓guardK_ff, ↓guardK_tf, ↓guardK_ft, ↓condK_t, ↓condK_f, ↓reduceIte, Nat.reduceEqDiff, reduceCtorEq, Nat.reduceAdd, Nat.reduceSub, Nat.reduceMul, Nat.reduceLT, Nat.reduceLeDiff, Int.reduceToNat, Int.reduceLE, Int.reduceLT, Int.reduceEq, Int.reduceNe, Int.reduceAdd, Int.reduceSub, Nat.reduceBEq, Option.some.injEq]
    exact fin0 rfl

end Go.Proofs.Ytdankbhcjefilaa
