/- Contracts: tables, and how large they are. -/
import Derived.Test.YtblbaniokmgjgaaCaD
namespace Go.Proofs.Ytblbaniokmgjgaa
open Go
set_option linter.unusedVariables false
set_option linter.unusedSimpArgs false

def fixedFds : List Fd := [⟨[58, 112, 97, 116, 104], [], false⟩, ⟨[58, 115, 116, 97, 116, 117, 115], [48], false⟩, ⟨[58, 115, 116, 97, 116, 117, 115], [49, 50], false⟩, ⟨[107, 105, 110, 100], [116, 101, 120, 116], false⟩, ⟨[115, 105, 122, 101], [], false⟩, ⟨[116, 101], [116, 114, 97, 105, 108, 101, 114, 115], false⟩]

theorem sTableFixed_ok (S : List Blk) : VCall Try.prog 101 [] S fun r S' => r = .rows (some S.length) (fixedFds.map fV) ∧ S' = S ++ [.right 3] := by
  refine VCall.of_ev hD (fun _ => false) (fun _ => []) (n := 8) Try.func101 rfl rfl Try.ntmps101 (by kernel_rfl) (by kernel_rfl) (congrArg Array.toList Try.results101) (by simp) ?_
  simp (implicitDefEqProofs := false) (disch := omega) only [push_cast, ↓guardK_tt, ↓guardK_ff, ↓guardK_tf, ↓guardK_ft, ↓condK_t, ↓condK_f, ↓reduceIte, Nat.reduceEqDiff, reduceCtorEq, Nat.reduceAdd, Nat.reduceSub, Nat.reduceMul, Nat.reduceLT, Nat.reduceLeDiff, Int.reduceToNat, Int.reduceLE, Int.reduceLT, Int.reduceEq, Int.reduceNe, Int.reduceAdd, Int.reduceSub, Nat.reduceBEq, Option.some.injEq]
  exact ⟨_, _, Wk.refl _ _ _, rfl, rfl⟩
theorem TableFixed_ok (S : List Blk) : VCall Try.prog 92 [] S fun r S' => r = .rows (some S.length) (fixedFds.map fV) ∧ S' = S ++ [.right 3] := by
  refine VCall.of_ev hD (fun _ => false) (fun _ => []) (n := 8) Try.func92 rfl rfl Try.ntmps92 (by kernel_rfl) (by kernel_rfl) (congrArg Array.toList Try.results92) (by simp) ?_
  simp (implicitDefEqProofs := false) (disch := omega) only [push_cast, ↓guardK_tt, ↓guardK_ff, ↓guardK_tf, ↓guardK_ft, ↓condK_t, ↓condK_f, ↓reduceIte, Nat.reduceEqDiff, reduceCtorEq, Nat.reduceAdd, Nat.reduceSub, Nat.reduceMul, Nat.reduceLT, Nat.reduceLeDiff, Int.reduceToNat, Int.reduceLE, Int.reduceLT, Int.reduceEq, Int.reduceNe, Int.reduceAdd, Int.reduceSub, Nat.reduceBEq, Option.some.injEq]
  exact ⟨_, _, Wk.refl _ _ _, rfl, rfl⟩

def fdSize (f : Fd) : Nat := f.name.length + f.val.length + 4
def fdsSize (l : List Fd) : Nat := (l.map fdSize).sum
theorem fdsSize_append (l : List Fd) (f : Fd) : fdsSize (l ++ [f]) = fdsSize l + fdSize f := by simp [fdsSize]
theorem take_fd {l : List Fd} {i : Nat} (h : i < l.length) : l.take (i + 1) = l.take i ++ [l.getD i fd0] := by
  rw [List.take_succ_eq_append_getElem h, List.getD, List.getElem?_eq_getElem h]; rfl
theorem fdsSize_le (l : List Fd) (h : ∀ f ∈ l, FdB f) : fdsSize l ≤ l.length * 4000004 := by
  induction l with
  | nil => simp [fdsSize]
  | cons f l ih =>
    obtain ⟨h1, h2⟩ := h f (by simp)
    have := ih (fun g hg => h g (by simp [hg]))
    simp only [fdsSize, List.map_cons, List.sum_cons, List.length_cons, fdSize] at this ⊢
    omega
theorem getD_fd_mem {l : List Fd} {i : Nat} (h : i < l.length) : l.getD i fd0 ∈ l := by
  rw [List.getD, List.getElem?_eq_getElem h]; exact List.getElem_mem h

theorem l3One_ok (f : Fd) (hf : FdB f) (S : List Blk) : VCall Try.prog 67 [fV f] S fun r S' => r = .int .i64 (fdSize f) ∧ S' = S := by
  obtain ⟨h1, h2⟩ := hf
  refine VCall.of_ev hD (fun _ => false) (fun _ => []) (n := 11) Try.func67 rfl rfl Try.ntmps67 (by kernel_rfl) (by kernel_rfl) (congrArg Array.toList Try.results67) (by simp) ?_
  simp (implicitDefEqProofs := false) (disch := omega) only [push_cast, ↓guardK_tt, ↓guardK_ff, ↓guardK_tf, ↓guardK_ft, ↓condK_t, ↓condK_f, ↓reduceIte, Nat.reduceEqDiff, reduceCtorEq, Nat.reduceAdd, Nat.reduceSub, Nat.reduceMul, Nat.reduceLT, Nat.reduceLeDiff, Int.reduceToNat, Int.reduceLE, Int.reduceLT, Int.reduceEq, Int.reduceNe, Int.reduceAdd, Int.reduceSub, Nat.reduceBEq, Option.some.injEq]
  exact fin1 (.int _ _) (by simp [fdSize])

theorem l3Size_ok (l : List Fd) (hl : FdsB l) (S : List Blk) : VCall Try.prog 43 [.rows none (l.map fV)] S fun r S' => r = .int .i64 (fdsSize l) ∧ S' = S := by
  obtain ⟨hlen, hb⟩ := hl
  refine VCall.of_ev hD (fun _ => false) (fun _ => []) (n := 19) Try.func43 rfl rfl Try.ntmps43 (by kernel_rfl) (by kernel_rfl) (congrArg Array.toList Try.results43) (by simp) ?_
  simp (implicitDefEqProofs := false) (disch := omega) only [push_cast, ↓guardK_tt, ↓guardK_ff, ↓guardK_tf, ↓guardK_ft, ↓condK_t, ↓condK_f, ↓reduceIte, Nat.reduceEqDiff, reduceCtorEq, Nat.reduceAdd, Nat.reduceSub, Nat.reduceMul, Nat.reduceLT, Nat.reduceLeDiff, Int.reduceToNat, Int.reduceLE, Int.reduceLT, Int.reduceEq, Int.reduceNe, Int.reduceAdd, Int.reduceSub, Nat.reduceBEq, Option.some.injEq]
  refine wpV_loop (fun m t S' => ∃ i : Nat, m = l.length - i ∧ i ≤ l.length ∧ t 0 = .rows none (l.map fV) ∧ t 3 = .int .i64 (fdsSize (l.take i)) ∧ t 4 = .int .i64 i ∧ S' = S) l.length ⟨0, by omega, by omega, rfl, rfl, rfl, rfl⟩ ?_
  rintro m t S' ⟨i, rfl, hi, h0, h3, h4, rfl⟩
  refine wpV_of hD (fun _ => false) (fun _ => []) (by kernel_rfl) ?_
  have hsz := fdsSize_le (l.take i) (fun f hf => hb f (List.mem_of_mem_take hf))
  have hti : (l.take i).length ≤ 2000000 := by simp; omega
  simp (implicitDefEqProofs := false) (disch := omega) only [push_cast, h0, h3, h4, ↓guardK_tt, ↓guardK_ff, ↓guardK_tf, ↓guardK_ft, ↓condK_t, ↓condK_f, ↓reduceIte, Nat.reduceEqDiff, reduceCtorEq, Nat.reduceAdd, Nat.reduceSub, Nat.reduceMul, Nat.reduceLT, Nat.reduceLeDiff, Int.reduceToNat, Int.reduceLE, Int.reduceLT, Int.reduceEq, Int.reduceNe, Int.reduceAdd, Int.reduceSub, Nat.reduceBEq, Option.some.injEq]
  refine ⟨fun h => ⟨by omega, by omega, ?_⟩, fun h => fin0 ?_⟩
  · have hil : i < l.length := by omega
    have hfb := hb _ (getD_fd_mem hil)
    rw [getD_fV hil]
    simp (implicitDefEqProofs := false) (disch := omega) only [push_cast, h0, h3, h4, ↓guardK_tt, ↓guardK_ff, ↓guardK_tf, ↓guardK_ft, ↓condK_t, ↓condK_f, ↓reduceIte, Nat.reduceEqDiff, reduceCtorEq, Nat.reduceAdd, Nat.reduceSub, Nat.reduceMul, Nat.reduceLT, Nat.reduceLeDiff, Int.reduceToNat, Int.reduceLE, Int.reduceLT, Int.reduceEq, Int.reduceNe, Int.reduceAdd, Int.reduceSub, Nat.reduceBEq, Option.some.injEq]
    refine (l3One_ok (l.getD i fd0) hfb S').to ?_
    have hone : fdSize (l.getD i fd0) ≤ 4000004 := by obtain ⟨a, b⟩ := hfb; unfold fdSize; omega
    simp (implicitDefEqProofs := false) (disch := omega) only [push_cast, h0, h3, h4, ↓guardK_tt, ↓guardK_ff, ↓guardK_tf, ↓guardK_ft, ↓condK_t, ↓condK_f, ↓reduceIte, Nat.reduceEqDiff, reduceCtorEq, Nat.reduceAdd, Nat.reduceSub, Nat.reduceMul, Nat.reduceLT, Nat.reduceLeDiff, Int.reduceToNat, Int.reduceLE, Int.reduceLT, Int.reduceEq, Int.reduceNe, Int.reduceAdd, Int.reduceSub, Nat.reduceBEq, Option.some.injEq]
    refine ⟨l.length - (i + 1), by omega, i + 1, rfl, by omega, ?_, by simp⟩
    rw [take_fd hil, fdsSize_append]
    simp
  · have : i = l.length := by omega
    subst this
    rw [List.take_length]

theorem size_ok (l : List Fd) (max : Int) (hl : FdsB l) (S : List Blk) : VCall Try.prog 49 [.agg [.rows none (l.map fV), .int .i64 max]] S fun r S' => r = .int .i64 (fdsSize l) ∧ S' = S := by
  obtain ⟨hlen, hb⟩ := hl
  refine VCall.of_ev hD (fun _ => false) (fun _ => []) (n := 25) Try.func49 rfl rfl Try.ntmps49 (by kernel_rfl) (by kernel_rfl) (congrArg Array.toList Try.results49) (by simp) ?_
  simp (implicitDefEqProofs := false) (disch := omega) only [push_cast, ↓guardK_tt, ↓guardK_ff, ↓guardK_tf, ↓guardK_ft, ↓condK_t, ↓condK_f, ↓reduceIte, Nat.reduceEqDiff, reduceCtorEq, Nat.reduceAdd, Nat.reduceSub, Nat.reduceMul, Nat.reduceLT, Nat.reduceLeDiff, Int.reduceToNat, Int.reduceLE, Int.reduceLT, Int.reduceEq, Int.reduceNe, Int.reduceAdd, Int.reduceSub, Nat.reduceBEq, Option.some.injEq]
  refine wpV_loop (fun m t S' => ∃ i : Nat, m = l.length - i ∧ i ≤ l.length ∧ t 7 = .rows none (l.map fV) ∧ t 3 = .int .i64 (fdsSize (l.take i)) ∧ t 8 = .int .i64 l.length ∧ t 9 = .int .i64 i ∧ ∃ X, S' = S ++ X) l.length ⟨0, by omega, by omega, rfl, rfl, rfl, rfl, _, rfl⟩ ?_
  rintro m t S' ⟨i, rfl, hi, h7, h3, h8, h9, X, rfl⟩
  refine wpV_of hD (fun _ => false) (fun _ => []) (by kernel_rfl) ?_
  have hsz := fdsSize_le (l.take i) (fun f hf => hb f (List.mem_of_mem_take hf))
  have hti : (l.take i).length ≤ 2000000 := by simp; omega
  simp (implicitDefEqProofs := false) (disch := omega) only [push_cast, h7, h3, h8, h9, ↓guardK_tt, ↓guardK_ff, ↓guardK_tf, ↓guardK_ft, ↓condK_t, ↓condK_f, ↓reduceIte, Nat.reduceEqDiff, reduceCtorEq, Nat.reduceAdd, Nat.reduceSub, Nat.reduceMul, Nat.reduceLT, Nat.reduceLeDiff, Int.reduceToNat, Int.reduceLE, Int.reduceLT, Int.reduceEq, Int.reduceNe, Int.reduceAdd, Int.reduceSub, Nat.reduceBEq, Option.some.injEq]
  refine ⟨fun h => ?_, fun h => fin1 (.int _ _) ?_⟩
  · have hil : i < l.length := by omega
    have hfb := hb _ (getD_fd_mem hil)
    have hone : fdSize (l.getD i fd0) ≤ 4000004 := by obtain ⟨a, b⟩ := hfb; unfold fdSize; omega
    obtain ⟨hna, hva⟩ := hfb
    rw [getD_fV hil]
    simp (implicitDefEqProofs := false) (disch := omega) only [push_cast, h7, h3, h8, h9, ↓guardK_tt, ↓guardK_ff, ↓guardK_tf, ↓guardK_ft, ↓condK_t, ↓condK_f, ↓reduceIte, Nat.reduceEqDiff, reduceCtorEq, Nat.reduceAdd, Nat.reduceSub, Nat.reduceMul, Nat.reduceLT, Nat.reduceLeDiff, Int.reduceToNat, Int.reduceLE, Int.reduceLT, Int.reduceEq, Int.reduceNe, Int.reduceAdd, Int.reduceSub, Nat.reduceBEq, Option.some.injEq]
    refine ⟨by omega, by omega, l.length - (i + 1), by omega, i + 1, rfl, by omega, ?_, by simp, _, rfl⟩
    rw [take_fd hil, fdsSize_append]
    simp [fdSize]
  · have : i = l.length := by omega
    subst this
    rw [List.take_length]

def tableOk (l : List Fd) (max : Int) : Bool := l.all (fun f => fieldOk f && !f.never) && (decide (0 ≤ max) && decide (max ≤ 64)) && decide ((fdsSize l : Int) ≤ max)

theorem all_fd_bad {p : Fd → Bool} {w : List Fd} {i : Nat} (h : i < w.length) (hb : p (w.getD i fd0) = false) : w.all p = false := by
  rw [Bool.eq_false_iff]
  intro ha
  have := List.all_eq_true.1 ha _ (getD_fd_mem h)
  rw [hb] at this; cases this
theorem all_fd_succ {p : Fd → Bool} {w : List Fd} {i : Nat} (h : i < w.length) (h1 : (w.take i).all p = true) (h2 : p (w.getD i fd0) = true) : (w.take (i + 1)).all p = true := by
  rw [take_fd h, List.all_append, h1]
  simpa using h2

theorem sTableOk_ok (l : List Fd) (max : Int) (hl : FdsB l) (S : List Blk) : VCall Try.prog 20 [.agg [.rows none (l.map fV), .int .i64 max]] S fun r S' => r = .bool (tableOk l max) ∧ S' = S := by
  have hl' := hl
  obtain ⟨hlen, hb⟩ := hl
  refine VCall.of_ev hD (fun _ => false) (fun id => if id = 6 then [2, 2, 6, 6, 6, 6, 12, 12, 12, 12, 12, 12] else []) (n := 37) Try.func20 rfl rfl Try.ntmps20 (by kernel_rfl) (by kernel_rfl) (congrArg Array.toList Try.results20) (by simp) ?_
  simp (implicitDefEqProofs := false) (disch := omega) only [push_cast, ↓guardK_tt, ↓guardK_ff, ↓guardK_tf, ↓guardK_ft, ↓condK_t, ↓condK_f, ↓reduceIte, Nat.reduceEqDiff, reduceCtorEq, Nat.reduceAdd, Nat.reduceSub, Nat.reduceMul, Nat.reduceLT, Nat.reduceLeDiff, Int.reduceToNat, Int.reduceLE, Int.reduceLT, Int.reduceEq, Int.reduceNe, Int.reduceAdd, Int.reduceSub, Nat.reduceBEq, Option.some.injEq]
  refine wpV_loop (fun m t S' => ∃ i : Nat, m = l.length - i ∧ i ≤ l.length ∧ (l.take i).all (fun f => fieldOk f && !f.never) = true ∧ t 1 = .ptr S.length 0 ∧ t 3 = .int .i64 i ∧ S' = S ++ [.cells 0 [.rows none (l.map fV), .int .i64 max]]) l.length ⟨0, by omega, by omega, by simp, rfl, rfl, rfl⟩ ?_
  rintro m t S' ⟨i, rfl, hi, hno, h1, h3, rfl⟩
  refine wpV_of hD (fun _ => false) (fun id => if id = 6 then [2, 2, 6, 6, 6, 6, 12, 12, 12, 12, 12, 12] else []) (by kernel_rfl) ?_
  simp (implicitDefEqProofs := false) (disch := omega) only [push_cast, h1, h3, ↓guardK_tt, ↓guardK_ff, ↓guardK_tf, ↓guardK_ft, ↓condK_t, ↓condK_f, ↓reduceIte, Nat.reduceEqDiff, reduceCtorEq, Nat.reduceAdd, Nat.reduceSub, Nat.reduceMul, Nat.reduceLT, Nat.reduceLeDiff, Int.reduceToNat, Int.reduceLE, Int.reduceLT, Int.reduceEq, Int.reduceNe, Int.reduceAdd, Int.reduceSub, Nat.reduceBEq, Option.some.injEq]
  refine ⟨fun h => ⟨by omega, by omega, ?_⟩, fun h => ?_⟩
  · have hil : i < l.length := by omega
    have hfb := hb _ (getD_fd_mem hil)
    have hgd := getD_fV hil
    generalize hf : l.getD i fd0 = f at hfb hgd
    simp (implicitDefEqProofs := false) (disch := omega) only [push_cast, h1, h3, hgd, ↓guardK_tt, ↓guardK_ff, ↓guardK_tf, ↓guardK_ft, ↓condK_t, ↓condK_f, ↓reduceIte, Nat.reduceEqDiff, reduceCtorEq, Nat.reduceAdd, Nat.reduceSub, Nat.reduceMul, Nat.reduceLT, Nat.reduceLeDiff, Int.reduceToNat, Int.reduceLE, Int.reduceLT, Int.reduceEq, Int.reduceNe, Int.reduceAdd, Int.reduceSub, Nat.reduceBEq, Option.some.injEq]
    refine (sFieldOk_ok f hfb _).to ?_
    cases hok : fieldOk f
    · simp (implicitDefEqProofs := false) (disch := omega) only [push_cast, h1, h3, ↓guardK_tt, ↓guardK_ff, ↓guardK_tf, ↓guardK_ft, ↓condK_t, ↓condK_f, ↓reduceIte, Nat.reduceEqDiff, reduceCtorEq, Nat.reduceAdd, Nat.reduceSub, Nat.reduceMul, Nat.reduceLT, Nat.reduceLeDiff, Int.reduceToNat, Int.reduceLE, Int.reduceLT, Int.reduceEq, Int.reduceNe, Int.reduceAdd, Int.reduceSub, Nat.reduceBEq, Option.some.injEq]
      exact fin1 (.bool _) (by rw [tableOk, all_fd_bad hil (by rw [hf, hok]; rfl)]; rfl)
    · cases hne : f.never
      · simp (implicitDefEqProofs := false) (disch := omega) only [push_cast, h1, h3, hgd, hne, ↓guardK_tt, ↓guardK_ff, ↓guardK_tf, ↓guardK_ft, ↓condK_t, ↓condK_f, ↓reduceIte, Nat.reduceEqDiff, reduceCtorEq, Nat.reduceAdd, Nat.reduceSub, Nat.reduceMul, Nat.reduceLT, Nat.reduceLeDiff, Int.reduceToNat, Int.reduceLE, Int.reduceLT, Int.reduceEq, Int.reduceNe, Int.reduceAdd, Int.reduceSub, Nat.reduceBEq, Option.some.injEq]
        exact ⟨by omega, by omega, l.length - (i + 1), by omega, i + 1, rfl, by omega, all_fd_succ hil hno (by rw [hf, hok, hne]; rfl), by simp⟩
      · simp (implicitDefEqProofs := false) (disch := omega) only [push_cast, h1, h3, hgd, hne, ↓guardK_tt, ↓guardK_ff, ↓guardK_tf, ↓guardK_ft, ↓condK_t, ↓condK_f, ↓reduceIte, Nat.reduceEqDiff, reduceCtorEq, Nat.reduceAdd, Nat.reduceSub, Nat.reduceMul, Nat.reduceLT, Nat.reduceLeDiff, Int.reduceToNat, Int.reduceLE, Int.reduceLT, Int.reduceEq, Int.reduceNe, Int.reduceAdd, Int.reduceSub, Nat.reduceBEq, Option.some.injEq]
        exact ⟨by omega, by omega, fin1 (.bool _) (by rw [tableOk, all_fd_bad hil (by rw [hf, hok, hne]; rfl)]; rfl)⟩
  · have : i = l.length := by omega
    subst this
    rw [List.take_length] at hno
    refine (l6In_ok max 0 64 _).to ?_
    cases hin : (decide ((0 : Int) ≤ max) && decide (max ≤ 64))
    · simp (implicitDefEqProofs := false) (disch := omega) only [push_cast, h1, h3, ↓guardK_tt, ↓guardK_ff, ↓guardK_tf, ↓guardK_ft, ↓condK_t, ↓condK_f, ↓reduceIte, Nat.reduceEqDiff, reduceCtorEq, Nat.reduceAdd, Nat.reduceSub, Nat.reduceMul, Nat.reduceLT, Nat.reduceLeDiff, Int.reduceToNat, Int.reduceLE, Int.reduceLT, Int.reduceEq, Int.reduceNe, Int.reduceAdd, Int.reduceSub, Nat.reduceBEq, Option.some.injEq]
      exact fin1 (.bool _) (by rw [tableOk, hin]; simp)
    · simp (implicitDefEqProofs := false) (disch := omega) only [push_cast, h1, h3, ↓guardK_tt, ↓guardK_ff, ↓guardK_tf, ↓guardK_ft, ↓condK_t, ↓condK_f, ↓reduceIte, Nat.reduceEqDiff, reduceCtorEq, Nat.reduceAdd, Nat.reduceSub, Nat.reduceMul, Nat.reduceLT, Nat.reduceLeDiff, Int.reduceToNat, Int.reduceLE, Int.reduceLT, Int.reduceEq, Int.reduceNe, Int.reduceAdd, Int.reduceSub, Nat.reduceBEq, Option.some.injEq]
      refine (l3Size_ok l hl' _).to ?_
      simp (implicitDefEqProofs := false) (disch := omega) only [push_cast, h1, h3, ↓guardK_tt, ↓guardK_ff, ↓guardK_tf, ↓guardK_ft, ↓condK_t, ↓condK_f, ↓reduceIte, Nat.reduceEqDiff, reduceCtorEq, Nat.reduceAdd, Nat.reduceSub, Nat.reduceMul, Nat.reduceLT, Nat.reduceLeDiff, Int.reduceToNat, Int.reduceLE, Int.reduceLT, Int.reduceEq, Int.reduceNe, Int.reduceAdd, Int.reduceSub, Nat.reduceBEq, Option.some.injEq]
      exact fin1 (.bool _) (by rw [tableOk, hin, hno]; simp)

theorem any_at {p : Fd → Bool} {l : List Fd} {i : Nat} (h : i < l.length) (h1 : (l.take i).any p = false) (h2 : p (l.getD i fd0) = true) : l.any p = true :=
  List.any_eq_true.2 ⟨_, getD_fd_mem h, h2⟩
theorem findIdx_at {p : Fd → Bool} {l : List Fd} {i : Nat} (h : i < l.length) (h1 : (l.take i).any p = false) (h2 : p (l.getD i fd0) = true) : l.findIdx p = i := by
  rw [List.getD, List.getElem?_eq_getElem h, Option.getD_some] at h2
  rw [List.findIdx_eq h]
  refine ⟨h2, fun j hj => ?_⟩
  have := List.any_eq_false.1 h1 l[j] (by rw [List.mem_take_iff_getElem]; exact ⟨j, by omega, rfl⟩)
  simpa using this

theorem IndexFunc_ok (l : List Fd) (fid : Nat) (caps : List V) (p : Fd → Bool) (hlen : l.length ≤ 2000000) (S : List Blk) (hp : ∀ g ∈ l, VCall Try.prog fid (eraseArgs (fV g :: caps)) S fun r S' => r = .bool (p g) ∧ S' = S) :
    VCall Try.prog 68 [.rows none (l.map fV), .fn fid caps] S fun r S' => r = .int .i64 (if l.any p then (l.findIdx p : Int) else -1) ∧ S' = S := by
  refine VCall.of_ev hD (fun _ => false) (fun _ => []) (n := 19) Try.func68 rfl rfl Try.ntmps68 (by kernel_rfl) (by kernel_rfl) (congrArg Array.toList Try.results68) (by simp) ?_
  simp (implicitDefEqProofs := false) (disch := omega) only [push_cast, ↓guardK_tt, ↓guardK_ff, ↓guardK_tf, ↓guardK_ft, ↓condK_t, ↓condK_f, ↓reduceIte, Nat.reduceEqDiff, reduceCtorEq, Nat.reduceAdd, Nat.reduceSub, Nat.reduceMul, Nat.reduceLT, Nat.reduceLeDiff, Int.reduceToNat, Int.reduceLE, Int.reduceLT, Int.reduceEq, Int.reduceNe, Int.reduceAdd, Int.reduceSub, Nat.reduceBEq, Option.some.injEq]
  refine wpV_loop (fun m t S' => ∃ i : Nat, m = l.length - i ∧ i ≤ l.length ∧ (l.take i).any p = false ∧ t 0 = .rows none (l.map fV) ∧ t 1 = .fn fid caps ∧ t 7 = .int .i64 l.length ∧ t 8 = .int .i64 i ∧ S' = S) l.length ⟨0, by omega, by omega, by simp, rfl, rfl, rfl, rfl, rfl⟩ ?_
  rintro m t S' ⟨i, rfl, hi, hno, h0, h1, h7, h8, rfl⟩
  refine wpV_of hD (fun _ => false) (fun _ => []) (by kernel_rfl) ?_
  simp (implicitDefEqProofs := false) (disch := omega) only [push_cast, h0, h1, h7, h8, ↓guardK_tt, ↓guardK_ff, ↓guardK_tf, ↓guardK_ft, ↓condK_t, ↓condK_f, ↓reduceIte, Nat.reduceEqDiff, reduceCtorEq, Nat.reduceAdd, Nat.reduceSub, Nat.reduceMul, Nat.reduceLT, Nat.reduceLeDiff, Int.reduceToNat, Int.reduceLE, Int.reduceLT, Int.reduceEq, Int.reduceNe, Int.reduceAdd, Int.reduceSub, Nat.reduceBEq, Option.some.injEq]
  refine ⟨fun h => ?_, fun h => ?_⟩
  · have hil : i < l.length := by omega
    have hgd := getD_fV hil
    have hpf := hp _ (getD_fd_mem hil)
    generalize hf : l.getD i fd0 = f at hgd hpf
    simp (implicitDefEqProofs := false) (disch := omega) only [push_cast, h0, h1, h7, h8, hgd, ↓guardK_tt, ↓guardK_ff, ↓guardK_tf, ↓guardK_ft, ↓condK_t, ↓condK_f, ↓reduceIte, Nat.reduceEqDiff, reduceCtorEq, Nat.reduceAdd, Nat.reduceSub, Nat.reduceMul, Nat.reduceLT, Nat.reduceLeDiff, Int.reduceToNat, Int.reduceLE, Int.reduceLT, Int.reduceEq, Int.reduceNe, Int.reduceAdd, Int.reduceSub, Nat.reduceBEq, Option.some.injEq]
    refine ⟨by omega, by omega, (hpf.as rfl).to ?_⟩
    cases hpv : p f
    · simp (implicitDefEqProofs := false) (disch := omega) only [push_cast, h0, h1, h7, h8, ↓guardK_tt, ↓guardK_ff, ↓guardK_tf, ↓guardK_ft, ↓condK_t, ↓condK_f, ↓reduceIte, Nat.reduceEqDiff, reduceCtorEq, Nat.reduceAdd, Nat.reduceSub, Nat.reduceMul, Nat.reduceLT, Nat.reduceLeDiff, Int.reduceToNat, Int.reduceLE, Int.reduceLT, Int.reduceEq, Int.reduceNe, Int.reduceAdd, Int.reduceSub, Nat.reduceBEq, Option.some.injEq]
      refine ⟨l.length - (i + 1), by omega, i + 1, rfl, by omega, ?_, by simp⟩
      rw [take_fd hil, List.any_append, hno, hf]; simp [hpv]
    · simp (implicitDefEqProofs := false) (disch := omega) only [push_cast, h0, h1, h7, h8, ↓guardK_tt, ↓guardK_ff, ↓guardK_tf, ↓guardK_ft, ↓condK_t, ↓condK_f, ↓reduceIte, Nat.reduceEqDiff, reduceCtorEq, Nat.reduceAdd, Nat.reduceSub, Nat.reduceMul, Nat.reduceLT, Nat.reduceLeDiff, Int.reduceToNat, Int.reduceLE, Int.reduceLT, Int.reduceEq, Int.reduceNe, Int.reduceAdd, Int.reduceSub, Nat.reduceBEq, Option.some.injEq]
      refine fin0 ?_
      rw [any_at hil hno (by rw [hf, hpv]), findIdx_at hil hno (by rw [hf, hpv])]; rfl
  · have : i = l.length := by omega
    subst this
    rw [List.take_length] at hno
    refine fin0 ?_
    rw [hno]; rfl

theorem ContainsFunc_ok (l : List Fd) (fid : Nat) (caps : List V) (p : Fd → Bool) (hlen : l.length ≤ 2000000) (S : List Blk) (hp : ∀ g ∈ l, VCall Try.prog fid (eraseArgs (fV g :: caps)) S fun r S' => r = .bool (p g) ∧ S' = S) :
    VCall Try.prog 44 [.rows none (l.map fV), .fn fid caps] S fun r S' => r = .bool (l.any p) ∧ S' = S := by
  refine VCall.of_ev hD (fun _ => false) (fun _ => []) (n := 9) Try.func44 rfl rfl Try.ntmps44 (by kernel_rfl) (by kernel_rfl) (congrArg Array.toList Try.results44) (by simp) ?_
  simp (implicitDefEqProofs := false) (disch := omega) only [push_cast, ↓guardK_tt, ↓guardK_ff, ↓guardK_tf, ↓guardK_ft, ↓condK_t, ↓condK_f, ↓reduceIte, Nat.reduceEqDiff, reduceCtorEq, Nat.reduceAdd, Nat.reduceSub, Nat.reduceMul, Nat.reduceLT, Nat.reduceLeDiff, Int.reduceToNat, Int.reduceLE, Int.reduceLT, Int.reduceEq, Int.reduceNe, Int.reduceAdd, Int.reduceSub, Nat.reduceBEq, Option.some.injEq]
  refine (IndexFunc_ok l fid caps p hlen S hp).to ?_
  cases h : l.any p
  · simp (implicitDefEqProofs := false) (disch := omega) only [push_cast, ↓guardK_tt, ↓guardK_ff, ↓guardK_tf, ↓guardK_ft, ↓condK_t, ↓condK_f, ↓reduceIte, Nat.reduceEqDiff, reduceCtorEq, Nat.reduceAdd, Nat.reduceSub, Nat.reduceMul, Nat.reduceLT, Nat.reduceLeDiff, Int.reduceToNat, Int.reduceLE, Int.reduceLT, Int.reduceEq, Int.reduceNe, Int.reduceAdd, Int.reduceSub, Nat.reduceBEq, Option.some.injEq]
    exact fin0 rfl
  · simp (implicitDefEqProofs := false) (disch := omega) only [push_cast, ↓guardK_tt, ↓guardK_ff, ↓guardK_tf, ↓guardK_ft, ↓condK_t, ↓condK_f, ↓reduceIte, Nat.reduceEqDiff, reduceCtorEq, Nat.reduceAdd, Nat.reduceSub, Nat.reduceMul, Nat.reduceLT, Nat.reduceLeDiff, Int.reduceToNat, Int.reduceLE, Int.reduceLT, Int.reduceEq, Int.reduceNe, Int.reduceAdd, Int.reduceSub, Nat.reduceBEq, Option.some.injEq]
    exact fin0 (by simp)

theorem tableOk1_ok (f : Fd) (hf : FdB f) (S : List Blk) : VCall Try.prog 48 [fV f] S fun r S' => r = .bool (!fieldOk f || f.never) ∧ S' = S := by
  refine VCall.of_ev hD (fun _ => false) (fun _ => []) (n := 10) Try.func48 rfl rfl Try.ntmps48 (by kernel_rfl) (by kernel_rfl) (congrArg Array.toList Try.results48) (by simp) ?_
  simp (implicitDefEqProofs := false) (disch := omega) only [push_cast, ↓guardK_tt, ↓guardK_ff, ↓guardK_tf, ↓guardK_ft, ↓condK_t, ↓condK_f, ↓reduceIte, Nat.reduceEqDiff, reduceCtorEq, Nat.reduceAdd, Nat.reduceSub, Nat.reduceMul, Nat.reduceLT, Nat.reduceLeDiff, Int.reduceToNat, Int.reduceLE, Int.reduceLT, Int.reduceEq, Int.reduceNe, Int.reduceAdd, Int.reduceSub, Nat.reduceBEq, Option.some.injEq]
  refine (FieldOk_ok f hf _).to ?_
  cases hok : fieldOk f
  · simp (implicitDefEqProofs := false) (disch := omega) only [push_cast, ↓guardK_tt, ↓guardK_ff, ↓guardK_tf, ↓guardK_ft, ↓condK_t, ↓condK_f, ↓reduceIte, Nat.reduceEqDiff, reduceCtorEq, Nat.reduceAdd, Nat.reduceSub, Nat.reduceMul, Nat.reduceLT, Nat.reduceLeDiff, Int.reduceToNat, Int.reduceLE, Int.reduceLT, Int.reduceEq, Int.reduceNe, Int.reduceAdd, Int.reduceSub, Nat.reduceBEq, Option.some.injEq]
    exact fin1 (.bool _) rfl
  · simp (implicitDefEqProofs := false) (disch := omega) only [push_cast, ↓guardK_tt, ↓guardK_ff, ↓guardK_tf, ↓guardK_ft, ↓condK_t, ↓condK_f, ↓reduceIte, Nat.reduceEqDiff, reduceCtorEq, Nat.reduceAdd, Nat.reduceSub, Nat.reduceMul, Nat.reduceLT, Nat.reduceLeDiff, Int.reduceToNat, Int.reduceLE, Int.reduceLT, Int.reduceEq, Int.reduceNe, Int.reduceAdd, Int.reduceSub, Nat.reduceBEq, Option.some.injEq]
    exact fin1 (.bool _) (by simp)

theorem headOk1_ok (f : Fd) (hf : FdB f) (S : List Blk) : VCall Try.prog 45 [fV f] S fun r S' => r = .bool (!fieldOk f) ∧ S' = S := by
  refine VCall.of_ev hD (fun _ => false) (fun _ => []) (n := 6) Try.func45 rfl rfl Try.ntmps45 (by kernel_rfl) (by kernel_rfl) (congrArg Array.toList Try.results45) (by simp) ?_
  simp (implicitDefEqProofs := false) (disch := omega) only [push_cast, ↓guardK_tt, ↓guardK_ff, ↓guardK_tf, ↓guardK_ft, ↓condK_t, ↓condK_f, ↓reduceIte, Nat.reduceEqDiff, reduceCtorEq, Nat.reduceAdd, Nat.reduceSub, Nat.reduceMul, Nat.reduceLT, Nat.reduceLeDiff, Int.reduceToNat, Int.reduceLE, Int.reduceLT, Int.reduceEq, Int.reduceNe, Int.reduceAdd, Int.reduceSub, Nat.reduceBEq, Option.some.injEq]
  refine (FieldOk_ok f hf _).to ?_
  simp (implicitDefEqProofs := false) (disch := omega) only [push_cast, ↓guardK_tt, ↓guardK_ff, ↓guardK_tf, ↓guardK_ft, ↓condK_t, ↓condK_f, ↓reduceIte, Nat.reduceEqDiff, reduceCtorEq, Nat.reduceAdd, Nat.reduceSub, Nat.reduceMul, Nat.reduceLT, Nat.reduceLeDiff, Int.reduceToNat, Int.reduceLE, Int.reduceLT, Int.reduceEq, Int.reduceNe, Int.reduceAdd, Int.reduceSub, Nat.reduceBEq, Option.some.injEq]
  exact fin1 (.bool _) rfl

theorem any_not_all (l : List Fd) : l.any (fun f => !fieldOk f || f.never) = !l.all (fun f => fieldOk f && !f.never) := by
  induction l with
  | nil => rfl
  | cons f l ih => simp only [List.any_cons, List.all_cons, ih, Bool.not_and, Bool.not_not]

theorem TableOk_ok (l : List Fd) (max : Int) (hl : FdsB l) (S : List Blk) : VCall Try.prog 22 [.agg [.rows none (l.map fV), .int .i64 max]] S fun r S' => r = .bool (tableOk l max) ∧ S' = S := by
  have hl' := hl
  obtain ⟨hlen, hb⟩ := hl
  refine VCall.of_ev hD (fun _ => false) (fun id => if id = 1 then [2, 2, 6, 6, 6, 6, 11, 11, 11, 11, 11, 17, 17, 17, 17, 17, 17] else []) (n := 19) Try.func22 rfl rfl Try.ntmps22 (by kernel_rfl) (by kernel_rfl) (congrArg Array.toList Try.results22) (by simp) ?_
  simp (implicitDefEqProofs := false) (disch := omega) only [push_cast, ↓guardK_tt, ↓guardK_ff, ↓guardK_tf, ↓guardK_ft, ↓condK_t, ↓condK_f, ↓reduceIte, Nat.reduceEqDiff, reduceCtorEq, Nat.reduceAdd, Nat.reduceSub, Nat.reduceMul, Nat.reduceLT, Nat.reduceLeDiff, Int.reduceToNat, Int.reduceLE, Int.reduceLT, Int.reduceEq, Int.reduceNe, Int.reduceAdd, Int.reduceSub, Nat.reduceBEq, Option.some.injEq]
  refine (in_ok max 0 64 _).to ?_
  cases hin : (decide ((0 : Int) ≤ max) && decide (max ≤ 64))
  · simp (implicitDefEqProofs := false) (disch := omega) only [push_cast, ↓guardK_tt, ↓guardK_ff, ↓guardK_tf, ↓guardK_ft, ↓condK_t, ↓condK_f, ↓reduceIte, Nat.reduceEqDiff, reduceCtorEq, Nat.reduceAdd, Nat.reduceSub, Nat.reduceMul, Nat.reduceLT, Nat.reduceLeDiff, Int.reduceToNat, Int.reduceLE, Int.reduceLT, Int.reduceEq, Int.reduceNe, Int.reduceAdd, Int.reduceSub, Nat.reduceBEq, Option.some.injEq]
    exact fin1 (.bool _) (by rw [tableOk, hin]; simp)
  · simp (implicitDefEqProofs := false) (disch := omega) only [push_cast, ↓guardK_tt, ↓guardK_ff, ↓guardK_tf, ↓guardK_ft, ↓condK_t, ↓condK_f, ↓reduceIte, Nat.reduceEqDiff, reduceCtorEq, Nat.reduceAdd, Nat.reduceSub, Nat.reduceMul, Nat.reduceLT, Nat.reduceLeDiff, Int.reduceToNat, Int.reduceLE, Int.reduceLT, Int.reduceEq, Int.reduceNe, Int.reduceAdd, Int.reduceSub, Nat.reduceBEq, Option.some.injEq]
    refine (ContainsFunc_ok l _ [] _ hlen _ (fun g hg => (tableOk1_ok g (hb g hg) _).as rfl)).to ?_
    rw [any_not_all]
    cases hall : l.all (fun f => fieldOk f && !f.never)
    · simp (implicitDefEqProofs := false) (disch := omega) only [push_cast, ↓guardK_tt, ↓guardK_ff, ↓guardK_tf, ↓guardK_ft, ↓condK_t, ↓condK_f, ↓reduceIte, Nat.reduceEqDiff, reduceCtorEq, Nat.reduceAdd, Nat.reduceSub, Nat.reduceMul, Nat.reduceLT, Nat.reduceLeDiff, Int.reduceToNat, Int.reduceLE, Int.reduceLT, Int.reduceEq, Int.reduceNe, Int.reduceAdd, Int.reduceSub, Nat.reduceBEq, Option.some.injEq]
      exact fin1 (.bool _) (by rw [tableOk, hall]; simp)
    · simp (implicitDefEqProofs := false) (disch := omega) only [push_cast, ↓guardK_tt, ↓guardK_ff, ↓guardK_tf, ↓guardK_ft, ↓condK_t, ↓condK_f, ↓reduceIte, Nat.reduceEqDiff, reduceCtorEq, Nat.reduceAdd, Nat.reduceSub, Nat.reduceMul, Nat.reduceLT, Nat.reduceLeDiff, Int.reduceToNat, Int.reduceLE, Int.reduceLT, Int.reduceEq, Int.reduceNe, Int.reduceAdd, Int.reduceSub, Nat.reduceBEq, Option.some.injEq]
      refine (size_ok l max hl' _).to ?_
      simp (implicitDefEqProofs := false) (disch := omega) only [push_cast, ↓guardK_tt, ↓guardK_ff, ↓guardK_tf, ↓guardK_ft, ↓condK_t, ↓condK_f, ↓reduceIte, Nat.reduceEqDiff, reduceCtorEq, Nat.reduceAdd, Nat.reduceSub, Nat.reduceMul, Nat.reduceLT, Nat.reduceLeDiff, Int.reduceToNat, Int.reduceLE, Int.reduceLT, Int.reduceEq, Int.reduceNe, Int.reduceAdd, Int.reduceSub, Nat.reduceBEq, Option.some.injEq]
      exact fin1 (.bool _) (by rw [tableOk, hin, hall]; simp)

end Go.Proofs.Ytblbaniokmgjgaa
