/- What no table may keep none keeps: the law as a value call. -/
import Derived.Test.YtdankbhcjefilaaCeA
namespace Go.Proofs.Ytdankbhcjefilaa
open Go
set_option linter.unusedVariables false
set_option linter.unusedSimpArgs false

def nev (f : Fd) : Fd := ⟨f.name, f.val, true⟩
theorem headW_nev : ∀ (h : List Fd) (l : List Fd) (max : Int), (headW l max (h.map nev)).1 = l
  | [], l, max => rfl
  | f :: h, l, max => by
    have e : tabW l max (nev f) = l := by rw [tabW, nev]; rfl
    show (headW (tabW l max (nev f)) max (h.map nev)).1 = l
    rw [e]
    exact headW_nev h l max
theorem headOk_nev {h : List Fd} (hk : headOk h = true) : headOk (h.map nev) = true := by
  obtain ⟨k1, k2⟩ := headOk_parts hk
  simp only [headOk, Bool.and_eq_true, List.all_eq_true, decide_eq_true_eq, List.length_map]
  refine ⟨fun f hf => ?_, k2⟩
  obtain ⟨g, hg, rfl⟩ := List.mem_map.1 hf
  exact k1 g hg

set_option maxHeartbeats 4000000 in
theorem FnHeadNever_ok (code : List UInt8) (S : List Blk) : VCall Try.prog 3 [.rows none (code.map u8V)] S fun r S' => r = .bool true ∧ S' = S := by
  refine VCall.of_ev hD (fun _ => false) (fun _ => []) (n := 109) Try.func3 rfl rfl Try.ntmps3 (by kernel_rfl) (by kernel_rfl) (congrArg Array.toList Try.results3) (by simp) ?_
  simp (implicitDefEqProofs := false) (disch := omega) only [push_cast, ↓guardK_tt, ↓guardK_ff, ↓guardK_tf, ↓guardK_ft, ↓condK_t, ↓condK_f, ↓reduceIte, Nat.reduceEqDiff, reduceCtorEq, Nat.reduceAdd, Nat.reduceSub, Nat.reduceMul, Nat.reduceLT, Nat.reduceLeDiff, Int.reduceToNat, Int.reduceLE, Int.reduceLT, Int.reduceEq, Int.reduceNe, Int.reduceAdd, Int.reduceSub, Nat.reduceBEq, Option.some.injEq]
  refine ⟨fun h => fin0 rfl, fun h => ?_⟩
  have hc : code.length ≤ 1073741824 := by omega
  refine (DrawHeadWrite_ok code hc _).mono ?_
  rintro r S1 ⟨⟨l, h, max, hl1, hl2, hh1, hh2, hm1, hm2, rfl⟩, rfl⟩
  have hlb : FdsB l := ⟨by omega, fun f hf => (hl2 f hf).b⟩
  have hhb : FdsB h := ⟨by omega, fun f hf => (hh2 f hf).b⟩
  simp (implicitDefEqProofs := false) (disch := omega) only [push_cast, ↓guardK_tt, ↓guardK_ff, ↓guardK_tf, ↓guardK_ft, ↓condK_t, ↓condK_f, ↓reduceIte, Nat.reduceEqDiff, reduceCtorEq, Nat.reduceAdd, Nat.reduceSub, Nat.reduceMul, Nat.reduceLT, Nat.reduceLeDiff, Int.reduceToNat, Int.reduceLE, Int.reduceLT, Int.reduceEq, Int.reduceNe, Int.reduceAdd, Int.reduceSub, Nat.reduceBEq, Option.some.injEq]
  refine ((sHeadWrite_ok l max h hlb hhb _).as rfl).to ?_
  simp (implicitDefEqProofs := false) (disch := omega) only [push_cast, ↓guardK_tt, ↓guardK_ff, ↓guardK_tf, ↓guardK_ft, ↓condK_t, ↓condK_f, ↓reduceIte, Nat.reduceEqDiff, reduceCtorEq, Nat.reduceAdd, Nat.reduceSub, Nat.reduceMul, Nat.reduceLT, Nat.reduceLeDiff, Int.reduceToNat, Int.reduceLE, Int.reduceLT, Int.reduceEq, Int.reduceNe, Int.reduceAdd, Int.reduceSub, Nat.reduceBEq, Option.some.injEq]
  refine ((HeadWrite_ok l max h hlb hhb _).as rfl).to ?_
  have hwl : (hwTab l max h).length ≤ 2000000 := by have := (hwTab_sub l max h).1; omega
  simp (implicitDefEqProofs := false) (disch := omega) only [push_cast, ↓guardK_tt, ↓guardK_ff, ↓guardK_tf, ↓guardK_ft, ↓condK_t, ↓condK_f, ↓reduceIte, Nat.reduceEqDiff, reduceCtorEq, Nat.reduceAdd, Nat.reduceSub, Nat.reduceMul, Nat.reduceLT, Nat.reduceLeDiff, Int.reduceToNat, Int.reduceLE, Int.reduceLT, Int.reduceEq, Int.reduceNe, Int.reduceAdd, Int.reduceSub, Nat.reduceBEq, Option.some.injEq]
  refine ((lkTable_self (hwTab l max h) (hwMax l max h) hwl _).as rfl).to ?_
  simp (implicitDefEqProofs := false) (disch := omega) only [push_cast, ↓guardK_tt, ↓guardK_ff, ↓guardK_tf, ↓guardK_ft, ↓condK_t, ↓condK_f, ↓reduceIte, Nat.reduceEqDiff, reduceCtorEq, Nat.reduceAdd, Nat.reduceSub, Nat.reduceMul, Nat.reduceLT, Nat.reduceLeDiff, Int.reduceToNat, Int.reduceLE, Int.reduceLT, Int.reduceEq, Int.reduceNe, Int.reduceAdd, Int.reduceSub, Nat.reduceBEq, Option.some.injEq]
  refine ((sTableOk_ok l max hlb _).as rfl).to ?_
  cases ht : tableOk l max
  · simp (implicitDefEqProofs := false) (disch := omega) only [push_cast, ↓guardK_tt, ↓guardK_ff, ↓guardK_tf, ↓guardK_ft, ↓condK_t, ↓condK_f, ↓reduceIte, Nat.reduceEqDiff, reduceCtorEq, Nat.reduceAdd, Nat.reduceSub, Nat.reduceMul, Nat.reduceLT, Nat.reduceLeDiff, Int.reduceToNat, Int.reduceLE, Int.reduceLT, Int.reduceEq, Int.reduceNe, Int.reduceAdd, Int.reduceSub, Nat.reduceBEq, Option.some.injEq]
    refine ((lkTable_self (hwTab l max h) (hwMax l max h) hwl _).as rfl).to ?_
    simp (implicitDefEqProofs := false) (disch := omega) only [push_cast, ↓guardK_tt, ↓guardK_ff, ↓guardK_tf, ↓guardK_ft, ↓condK_t, ↓condK_f, ↓reduceIte, Nat.reduceEqDiff, reduceCtorEq, Nat.reduceAdd, Nat.reduceSub, Nat.reduceMul, Nat.reduceLT, Nat.reduceLeDiff, Int.reduceToNat, Int.reduceLE, Int.reduceLT, Int.reduceEq, Int.reduceNe, Int.reduceAdd, Int.reduceSub, Nat.reduceBEq, Option.some.injEq]
    exact fin1 (.bool _) rfl
  simp (implicitDefEqProofs := false) (disch := omega) only [push_cast, ↓guardK_tt, ↓guardK_ff, ↓guardK_tf, ↓guardK_ft, ↓condK_t, ↓condK_f, ↓reduceIte, Nat.reduceEqDiff, reduceCtorEq, Nat.reduceAdd, Nat.reduceSub, Nat.reduceMul, Nat.reduceLT, Nat.reduceLeDiff, Int.reduceToNat, Int.reduceLE, Int.reduceLT, Int.reduceEq, Int.reduceNe, Int.reduceAdd, Int.reduceSub, Nat.reduceBEq, Option.some.injEq]
  refine ((sHeadOk_ok h hhb _).as rfl).to ?_
  cases hk : headOk h
  · simp (implicitDefEqProofs := false) (disch := omega) only [push_cast, ↓guardK_tt, ↓guardK_ff, ↓guardK_tf, ↓guardK_ft, ↓condK_t, ↓condK_f, ↓reduceIte, Nat.reduceEqDiff, reduceCtorEq, Nat.reduceAdd, Nat.reduceSub, Nat.reduceMul, Nat.reduceLT, Nat.reduceLeDiff, Int.reduceToNat, Int.reduceLE, Int.reduceLT, Int.reduceEq, Int.reduceNe, Int.reduceAdd, Int.reduceSub, Nat.reduceBEq, Option.some.injEq]
    refine ((lkTable_self (hwTab l max h) (hwMax l max h) hwl _).as rfl).to ?_
    simp (implicitDefEqProofs := false) (disch := omega) only [push_cast, ↓guardK_tt, ↓guardK_ff, ↓guardK_tf, ↓guardK_ft, ↓condK_t, ↓condK_f, ↓reduceIte, Nat.reduceEqDiff, reduceCtorEq, Nat.reduceAdd, Nat.reduceSub, Nat.reduceMul, Nat.reduceLT, Nat.reduceLeDiff, Int.reduceToNat, Int.reduceLE, Int.reduceLT, Int.reduceEq, Int.reduceNe, Int.reduceAdd, Int.reduceSub, Nat.reduceBEq, Option.some.injEq]
    exact fin1 (.bool _) rfl
  obtain ⟨k1, k2⟩ := headOk_parts hk
  have hkn := headOk_nev hk
  simp (implicitDefEqProofs := false) (disch := omega) only [push_cast, ↓guardK_tt, ↓guardK_ff, ↓guardK_tf, ↓guardK_ft, ↓condK_t, ↓condK_f, ↓reduceIte, Nat.reduceEqDiff, reduceCtorEq, Nat.reduceAdd, Nat.reduceSub, Nat.reduceMul, Nat.reduceLT, Nat.reduceLeDiff, Int.reduceToNat, Int.reduceLE, Int.reduceLT, Int.reduceEq, Int.reduceNe, Int.reduceAdd, Int.reduceSub, Nat.reduceBEq, Option.some.injEq]
  refine wpV_loop (fun m t S' => ∃ (i τ : Nat) (X : List Blk), m = h.length - i ∧ i ≤ h.length ∧ t 3 = .ptr S1.length 0 ∧ t 4 = .rows none (h.map fV) ∧ t 9 = .rows (some (S1.length + (τ + 3))) (((h.take i).map nev).map fV) ∧ t 10 = .int .i64 i ∧ X[τ]? = some (.right 3) ∧
      S' = S1 ++ (Blk.cells 0 [.rows none (l.map fV), .int .i64 max] :: Blk.cells 0 [.rows none ((hwTab l max h).map fV), .int .i64 (hwMax l max h)] :: Blk.cells 0 [.rows none ((hwTab l max h).map fV), .int .i64 (hwMax l max h)] :: X)) h.length
    ⟨0, 0, [.right 3], by omega, by omega, rfl, rfl, rfl, rfl, rfl, rfl⟩ ?_
  rintro m t S' ⟨i, τ, X, rfl, hi, h3, h4, h9, h10, hX, rfl⟩
  have hX2 : ∀ Y, (X ++ Y)[τ]? = some (.right 3) := fun Y => by rw [List.getElem?_append_left (rd_lt hX)]; exact hX
  refine wpV_of hD (fun _ => false) (fun _ => []) (by kernel_rfl) ?_
  by_cases hil : i < h.length
  · have hil' : (i : Int) < h.length := by omega
    have hgd := getD_fV hil
    generalize hf : h.getD i fd0 = f at hgd
    simp (implicitDefEqProofs := false) (disch := omega) only [push_cast, h3, h4, h9, h10, hil', hgd, hX2, ↓guardK_tt, ↓guardK_ff, ↓guardK_tf, ↓guardK_ft, ↓condK_t, ↓condK_f, ↓reduceIte, Nat.reduceEqDiff, reduceCtorEq, Nat.reduceAdd, Nat.reduceSub, Nat.reduceMul, Nat.reduceLT, Nat.reduceLeDiff, Int.reduceToNat, Int.reduceLE, Int.reduceLT, Int.reduceEq, Int.reduceNe, Int.reduceAdd, Int.reduceSub, Nat.reduceBEq, Option.some.injEq]
    refine ⟨by omega, by simp; omega, h.length - (i + 1), by omega, i + 1, X.length + 2, _, rfl, by omega, ?_, by simp, ?_, rfl⟩
    · rw [take_fd hil, hf, List.map_append, List.map_append]; rfl
    · rw [List.getElem?_append_right (by simp)]; simp
  · have hil' : ¬ (i : Int) < h.length := by omega
    have : i = h.length := by omega
    subst this
    rw [List.take_length] at h9
    have hnb : FdsB (h.map nev) := ⟨by simp; omega, fun f hf => by obtain ⟨g, hg, rfl⟩ := List.mem_map.1 hf; exact hhb.2 g hg⟩
    have e0 := headW_nev h l max
    have e1 : hwTab l max (h.map nev) = l := by rw [hwTab, ht, hkn]; exact e0
    have e2 : hwMax l max (h.map nev) = max := by rw [hwMax, ht, hkn]; rfl
    have e3 : hwBytes l max (h.map nev) = (headW l max (h.map nev)).2 := by rw [hwBytes, ht, hkn]; rfl
    have hback := head_back ht hkn
    have hbl := headW_len (h.map nev) l max (headOk_parts hkn).1 (by simp; omega)
    rw [e0] at hback
    simp only [List.length_map] at hbl
    simp (implicitDefEqProofs := false) (disch := omega) only [push_cast, h3, h4, h9, h10, hil', ↓guardK_tt, ↓guardK_ff, ↓guardK_tf, ↓guardK_ft, ↓condK_t, ↓condK_f, ↓reduceIte, Nat.reduceEqDiff, reduceCtorEq, Nat.reduceAdd, Nat.reduceSub, Nat.reduceMul, Nat.reduceLT, Nat.reduceLeDiff, Int.reduceToNat, Int.reduceLE, Int.reduceLT, Int.reduceEq, Int.reduceNe, Int.reduceAdd, Int.reduceSub, Nat.reduceBEq, Option.some.injEq]
    refine ((HeadWrite_ok l max (h.map nev) hlb hnb _).as rfl).to ?_
    rw [e1, e2, e3]
    simp (implicitDefEqProofs := false) (disch := omega) only [push_cast, h3, h4, h9, h10, ↓guardK_tt, ↓guardK_ff, ↓guardK_tf, ↓guardK_ft, ↓condK_t, ↓condK_f, ↓reduceIte, Nat.reduceEqDiff, reduceCtorEq, Nat.reduceAdd, Nat.reduceSub, Nat.reduceMul, Nat.reduceLT, Nat.reduceLeDiff, Int.reduceToNat, Int.reduceLE, Int.reduceLT, Int.reduceEq, Int.reduceNe, Int.reduceAdd, Int.reduceSub, Nat.reduceBEq, Option.some.injEq]
    refine ((HeadRead_ok l max (headW l max (h.map nev)).2 hlb (by omega) _).as rfl).to ?_
    rw [hback]
    simp (implicitDefEqProofs := false) (disch := omega) only [push_cast, hrV, h3, h4, h9, h10, ↓guardK_tt, ↓guardK_ff, ↓guardK_tf, ↓guardK_ft, ↓condK_t, ↓condK_f, ↓reduceIte, Nat.reduceEqDiff, reduceCtorEq, Nat.reduceAdd, Nat.reduceSub, Nat.reduceMul, Nat.reduceLT, Nat.reduceLeDiff, Int.reduceToNat, Int.reduceLE, Int.reduceLT, Int.reduceEq, Int.reduceNe, Int.reduceAdd, Int.reduceSub, Nat.reduceBEq, Option.some.injEq]
    refine ((lkTable_self l max (by omega) _).as rfl).to ?_
    simp (implicitDefEqProofs := false) (disch := omega) only [push_cast, h3, h4, h9, h10, ↓guardK_tt, ↓guardK_ff, ↓guardK_tf, ↓guardK_ft, ↓condK_t, ↓condK_f, ↓reduceIte, Nat.reduceEqDiff, reduceCtorEq, Nat.reduceAdd, Nat.reduceSub, Nat.reduceMul, Nat.reduceLT, Nat.reduceLeDiff, Int.reduceToNat, Int.reduceLE, Int.reduceLT, Int.reduceEq, Int.reduceNe, Int.reduceAdd, Int.reduceSub, Nat.reduceBEq, Option.some.injEq]
    refine ((lkFields_self (h.map nev) (by simp; omega) _).as rfl).to ?_
    simp (implicitDefEqProofs := false) (disch := omega) only [push_cast, h3, h4, h9, h10, ↓guardK_tt, ↓guardK_ff, ↓guardK_tf, ↓guardK_ft, ↓condK_t, ↓condK_f, ↓reduceIte, Nat.reduceEqDiff, reduceCtorEq, Nat.reduceAdd, Nat.reduceSub, Nat.reduceMul, Nat.reduceLT, Nat.reduceLeDiff, Int.reduceToNat, Int.reduceLE, Int.reduceLT, Int.reduceEq, Int.reduceNe, Int.reduceAdd, Int.reduceSub, Nat.reduceBEq, Option.some.injEq]
    refine ((lkTable_self l max (by omega) _).as rfl).to ?_
    simp (implicitDefEqProofs := false) (disch := omega) only [push_cast, h3, h4, h9, h10, ↓guardK_tt, ↓guardK_ff, ↓guardK_tf, ↓guardK_ft, ↓condK_t, ↓condK_f, ↓reduceIte, Nat.reduceEqDiff, reduceCtorEq, Nat.reduceAdd, Nat.reduceSub, Nat.reduceMul, Nat.reduceLT, Nat.reduceLeDiff, Int.reduceToNat, Int.reduceLE, Int.reduceLT, Int.reduceEq, Int.reduceNe, Int.reduceAdd, Int.reduceSub, Nat.reduceBEq, Option.some.injEq]
    exact fin1 (.bool _) rfl

end Go.Proofs.Ytdankbhcjefilaa
