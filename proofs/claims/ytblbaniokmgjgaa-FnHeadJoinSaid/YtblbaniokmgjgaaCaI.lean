/- Contracts: heads that are written. -/
import Derived.Test.YtblbaniokmgjgaaCaH
namespace Go.Proofs.Ytblbaniokmgjgaa
open Go
set_option linter.unusedVariables false
set_option linter.unusedSimpArgs false

theorem wordW_len (w : List UInt8) : (wordW w).length ≤ 2 * w.length + 2 := by
  unfold wordW
  split
  · have := numW_len (pack w).length 7 1; simp only [List.length_append]; omega
  · have := numW_len w.length 7 0; simp only [List.length_append]; omega
def nameW (place bits : Nat) (f : Fd) : List UInt8 := numW place bits 1 ++ (if place = 0 then wordW f.name else [])
theorem fieldOk_parts {f : Fd} (h : fieldOk f = true) : wordOk f.name = true ∧ wordOk f.val = true ∧ f.name ≠ [] ∧ f.name.length ≤ 16 ∧ f.val.length ≤ 16 := by
  simp only [fieldOk, Bool.and_eq_true, decide_eq_true_eq] at h
  obtain ⟨⟨h1, h2⟩, h3⟩ := h
  exact ⟨h1, h2, h3, (wordOk_signs h1).2, (wordOk_signs h2).2⟩
theorem nameW_len {f : Fd} (h : fieldOk f = true) (place bits : Nat) : (nameW place bits f).length ≤ place + 40 := by
  obtain ⟨_, _, _, h1, _⟩ := fieldOk_parts h
  have h2 := wordW_len f.name
  have h3 := numW_len place bits 1
  unfold nameW
  rw [List.length_append]
  split
  · omega
  · simp only [List.length_nil]; omega

theorem l11Name_ok (place bits : Nat) (f : Fd) (hf : fieldOk f = true) (hp : place ≤ 9999) (hb : bits ≤ 8) (S : List Blk) :
    VCall Try.prog 97 [.int .i64 place, .int .i64 bits, .int .i64 1, fV f] S fun r S' => r = .str (nameW place bits f) ∧ S' = S := by
  obtain ⟨h1, h2, h3, h4, h5⟩ := fieldOk_parts hf
  refine VCall.of_ev hD (fun _ => false) (fun id => if id = 3 then [2, 2, 5, 5, 5, 8, 8, 8] else []) (n := 22) Try.func97 rfl rfl Try.ntmps97 (by kernel_rfl) (by kernel_rfl) (congrArg Array.toList Try.results97) (by simp) ?_
  simp (implicitDefEqProofs := false) (disch := omega) only [push_cast, ↓guardK_tt, ↓guardK_ff, ↓guardK_tf, ↓guardK_ft, ↓condK_t, ↓condK_f, ↓reduceIte, Nat.reduceEqDiff, reduceCtorEq, Nat.reduceAdd, Nat.reduceSub, Nat.reduceMul, Nat.reduceLT, Nat.reduceLeDiff, Int.reduceToNat, Int.reduceLE, Int.reduceLT, Int.reduceEq, Int.reduceNe, Int.reduceAdd, Int.reduceSub, Nat.reduceBEq, Option.some.injEq]
  refine ⟨fun h => ?_, fun h => ?_⟩
  · refine ((l1Write_ok place bits 1 (by omega) hb (by omega) _).as (by simp)).to ?_
    simp (implicitDefEqProofs := false) (disch := omega) only [push_cast, ↓guardK_tt, ↓guardK_ff, ↓guardK_tf, ↓guardK_ft, ↓condK_t, ↓condK_f, ↓reduceIte, Nat.reduceEqDiff, reduceCtorEq, Nat.reduceAdd, Nat.reduceSub, Nat.reduceMul, Nat.reduceLT, Nat.reduceLeDiff, Int.reduceToNat, Int.reduceLE, Int.reduceLT, Int.reduceEq, Int.reduceNe, Int.reduceAdd, Int.reduceSub, Nat.reduceBEq, Option.some.injEq]
    exact fin1 (.str _) (by rw [nameW, if_neg (by omega)]; simp)
  · have : place = 0 := by omega
    subst this
    refine ((l1Write_ok 0 bits 1 (by omega) hb (by omega) _).as (by simp)).to ?_
    simp (implicitDefEqProofs := false) (disch := omega) only [push_cast, ↓guardK_tt, ↓guardK_ff, ↓guardK_tf, ↓guardK_ft, ↓condK_t, ↓condK_f, ↓reduceIte, Nat.reduceEqDiff, reduceCtorEq, Nat.reduceAdd, Nat.reduceSub, Nat.reduceMul, Nat.reduceLT, Nat.reduceLeDiff, Int.reduceToNat, Int.reduceLE, Int.reduceLT, Int.reduceEq, Int.reduceNe, Int.reduceAdd, Int.reduceSub, Nat.reduceBEq, Option.some.injEq]
    refine (l2Write_ok f.name (by omega) (wordOk_signs h1).1 _).to ?_
    have e1 := wordW_len f.name
    have e2 := numW_len 0 bits 1
    simp (implicitDefEqProofs := false) (disch := omega) only [push_cast, ↓guardK_tt, ↓guardK_ff, ↓guardK_tf, ↓guardK_ft, ↓condK_t, ↓condK_f, ↓reduceIte, Nat.reduceEqDiff, reduceCtorEq, Nat.reduceAdd, Nat.reduceSub, Nat.reduceMul, Nat.reduceLT, Nat.reduceLeDiff, Int.reduceToNat, Int.reduceLE, Int.reduceLT, Int.reduceEq, Int.reduceNe, Int.reduceAdd, Int.reduceSub, Nat.reduceBEq, Option.some.injEq]
    refine ⟨by omega, fin1 (.str _) ?_⟩
    rw [nameW, if_pos rfl]

theorem named_ok (place bits : Nat) (f : Fd) (hf : fieldOk f = true) (hp : place ≤ 9999) (hb : 3 ≤ bits ∧ bits ≤ 7) (S : List Blk) :
    VCall Try.prog 71 [fV f, .int .i64 place, .int .i64 bits] S fun r S' => r = .str (nameW place bits f ++ wordW f.val) ∧ S' = S := by
  obtain ⟨h1, h2, h3, h4, h5⟩ := fieldOk_parts hf
  have h28 : 1 < 2 ^ (8 - bits) := Nat.one_lt_two_pow (by omega)
  have e1 := wordW_len f.name
  have e2 := numW_len place bits 1
  have e3 := wordW_len f.val
  refine VCall.of_ev hD (fun _ => false) (fun _ => []) (n := 23) Try.func71 rfl rfl Try.ntmps71 (by kernel_rfl) (by kernel_rfl) (congrArg Array.toList Try.results71) (by simp) ?_
  simp (implicitDefEqProofs := false) (disch := omega) only [push_cast, ↓guardK_tt, ↓guardK_ff, ↓guardK_tf, ↓guardK_ft, ↓condK_t, ↓condK_f, ↓reduceIte, Nat.reduceEqDiff, reduceCtorEq, Nat.reduceAdd, Nat.reduceSub, Nat.reduceMul, Nat.reduceLT, Nat.reduceLeDiff, Int.reduceToNat, Int.reduceLE, Int.reduceLT, Int.reduceEq, Int.reduceNe, Int.reduceAdd, Int.reduceSub, Nat.reduceBEq, Option.some.injEq]
  refine ((NumWrite_ok place bits 1 (by omega) hb (by omega) _).as (by simp)).to ?_
  rw [if_pos ⟨by omega, by omega, h28⟩, Int.toNat_natCast]
  simp (implicitDefEqProofs := false) (disch := omega) only [push_cast, ↓guardK_tt, ↓guardK_ff, ↓guardK_tf, ↓guardK_ft, ↓condK_t, ↓condK_f, ↓reduceIte, Nat.reduceEqDiff, reduceCtorEq, Nat.reduceAdd, Nat.reduceSub, Nat.reduceMul, Nat.reduceLT, Nat.reduceLeDiff, Int.reduceToNat, Int.reduceLE, Int.reduceLT, Int.reduceEq, Int.reduceNe, Int.reduceAdd, Int.reduceSub, Nat.reduceBEq, Option.some.injEq]
  refine ⟨fun h => ?_, fun h => ?_⟩
  · have : place = 0 := by omega
    subst this
    refine (WordWrite_ok f.name (by omega) _).to ?_
    rw [if_pos h1]
    simp (implicitDefEqProofs := false) (disch := omega) only [push_cast, ↓guardK_tt, ↓guardK_ff, ↓guardK_tf, ↓guardK_ft, ↓condK_t, ↓condK_f, ↓reduceIte, Nat.reduceEqDiff, reduceCtorEq, Nat.reduceAdd, Nat.reduceSub, Nat.reduceMul, Nat.reduceLT, Nat.reduceLeDiff, Int.reduceToNat, Int.reduceLE, Int.reduceLT, Int.reduceEq, Int.reduceNe, Int.reduceAdd, Int.reduceSub, Nat.reduceBEq, Option.some.injEq]
    refine ⟨by omega, (WordWrite_ok f.val (by omega) _).to ?_⟩
    rw [if_pos h2]
    simp (implicitDefEqProofs := false) (disch := omega) only [push_cast, ↓guardK_tt, ↓guardK_ff, ↓guardK_tf, ↓guardK_ft, ↓condK_t, ↓condK_f, ↓reduceIte, Nat.reduceEqDiff, reduceCtorEq, Nat.reduceAdd, Nat.reduceSub, Nat.reduceMul, Nat.reduceLT, Nat.reduceLeDiff, Int.reduceToNat, Int.reduceLE, Int.reduceLT, Int.reduceEq, Int.reduceNe, Int.reduceAdd, Int.reduceSub, Nat.reduceBEq, Option.some.injEq]
    refine ⟨by omega, fin1 (.str _) ?_⟩
    rw [nameW, if_pos rfl, List.append_assoc]
  · refine (WordWrite_ok f.val (by omega) _).to ?_
    rw [if_pos h2]
    simp (implicitDefEqProofs := false) (disch := omega) only [push_cast, ↓guardK_tt, ↓guardK_ff, ↓guardK_tf, ↓guardK_ft, ↓condK_t, ↓condK_f, ↓reduceIte, Nat.reduceEqDiff, reduceCtorEq, Nat.reduceAdd, Nat.reduceSub, Nat.reduceMul, Nat.reduceLT, Nat.reduceLeDiff, Int.reduceToNat, Int.reduceLE, Int.reduceLT, Int.reduceEq, Int.reduceNe, Int.reduceAdd, Int.reduceSub, Nat.reduceBEq, Option.some.injEq]
    refine ⟨by omega, fin1 (.str _) ?_⟩
    rw [nameW, if_neg (by omega)]; simp

def fieldW (l : List Fd) (f : Fd) : List UInt8 :=
  if f.never then nameW (placeOf l f) 4 f ++ wordW f.val else if foundIn l f then numW (placeOf l f) 7 1 else nameW (placeOf l f) 6 f ++ wordW f.val
def tabW (l : List Fd) (max : Int) (f : Fd) : List Fd := if f.never then l else if foundIn l f then l else fitL (f :: l) max
theorem placeOf_le (l : List Fd) (f : Fd) : placeOf l f ≤ l.length + 7 := by
  have h1 : (fixedFds ++ l).findIdx (bothP f) ≤ (fixedFds ++ l).length := List.findIdx_le_length
  have h2 : (fixedFds ++ l).findIdx (nameP f) ≤ (fixedFds ++ l).length := List.findIdx_le_length
  have h3 : (fixedFds ++ l).length = l.length + 6 := by simp [fixedFds]
  unfold placeOf
  split
  · omega
  · split <;> omega
theorem fieldW_len {f : Fd} (h : fieldOk f = true) (l : List Fd) : (fieldW l f).length ≤ l.length + 100 := by
  obtain ⟨_, _, _, h4, h5⟩ := fieldOk_parts h
  have h1 := placeOf_le l f
  have h2 := nameW_len h (placeOf l f) 4
  have h3 := nameW_len h (placeOf l f) 6
  have h6 := wordW_len f.val
  have h7 := numW_len (placeOf l f) 7 1
  unfold fieldW
  split
  · rw [List.length_append]; omega
  · split
    · omega
    · rw [List.length_append]; omega

theorem l11Write_ok (l : List Fd) (max : Int) (f : Fd) (hf : fieldOk f = true) (hl : FdsB l) (hl1 : l.length ≤ 1000) (hm : 0 ≤ max) (S : List Blk) :
    VCall Try.prog 81 [tV l max, fV f] S fun r S' => r = .tup [tV (tabW l max f) max, .str (fieldW l f)] ∧ S' = S := by
  obtain ⟨h1, h2, h3, h4, h5⟩ := fieldOk_parts hf
  have hfb : FdB f := ⟨by omega, by omega⟩
  have hp := placeOf_le l f
  have e1 := wordW_len f.val
  have e2 := nameW_len hf (placeOf l f) 4
  have e3 := nameW_len hf (placeOf l f) 6
  refine VCall.of_ev hD (fun _ => false) (fun id => if id = 3 then [8, 3, 3, 6, 6, 6, 8, 10, 10, 10] else if id = 5 then [3, 2, 3, 5, 5] else if id = 6 then [2, 2, 5, 5, 5, 8, 8, 8, 10, 12, 12, 12] else []) (n := 40) Try.func81 rfl rfl Try.ntmps81 (by kernel_rfl) (by kernel_rfl) (congrArg Array.toList Try.results81) (by simp) ?_
  simp (implicitDefEqProofs := false) (disch := omega) only [push_cast, ↓guardK_tt, ↓guardK_ff, ↓guardK_tf, ↓guardK_ft, ↓condK_t, ↓condK_f, ↓reduceIte, Nat.reduceEqDiff, reduceCtorEq, Nat.reduceAdd, Nat.reduceSub, Nat.reduceMul, Nat.reduceLT, Nat.reduceLeDiff, Int.reduceToNat, Int.reduceLE, Int.reduceLT, Int.reduceEq, Int.reduceNe, Int.reduceAdd, Int.reduceSub, Nat.reduceBEq, Option.some.injEq]
  refine (l3Find_ok l max f (by omega) _).to ?_
  cases hn : f.never
  · have ef : fV f = .agg [.str f.name, .str f.val, .bool false] := by rw [fV, hn]
    cases hfo : foundIn l f
    · simp (implicitDefEqProofs := false) (disch := omega) only [push_cast, hn, ↓guardK_tt, ↓guardK_ff, ↓guardK_tf, ↓guardK_ft, ↓condK_t, ↓condK_f, ↓reduceIte, Nat.reduceEqDiff, reduceCtorEq, Nat.reduceAdd, Nat.reduceSub, Nat.reduceMul, Nat.reduceLT, Nat.reduceLeDiff, Int.reduceToNat, Int.reduceLE, Int.reduceLT, Int.reduceEq, Int.reduceNe, Int.reduceAdd, Int.reduceSub, Nat.reduceBEq, Option.some.injEq]
      refine ((l3Add_ok l max f hl hfb (by omega) hm _).as (by rw [ef]; rfl)).to ?_
      simp (implicitDefEqProofs := false) (disch := omega) only [push_cast, hn, ↓guardK_tt, ↓guardK_ff, ↓guardK_tf, ↓guardK_ft, ↓condK_t, ↓condK_f, ↓reduceIte, Nat.reduceEqDiff, reduceCtorEq, Nat.reduceAdd, Nat.reduceSub, Nat.reduceMul, Nat.reduceLT, Nat.reduceLeDiff, Int.reduceToNat, Int.reduceLE, Int.reduceLT, Int.reduceEq, Int.reduceNe, Int.reduceAdd, Int.reduceSub, Nat.reduceBEq, Option.some.injEq]
      refine ((l11Name_ok (placeOf l f) 6 f hf (by omega) (by omega) _).as (by rw [ef]; rfl)).to ?_
      simp (implicitDefEqProofs := false) (disch := omega) only [push_cast, hn, ↓guardK_tt, ↓guardK_ff, ↓guardK_tf, ↓guardK_ft, ↓condK_t, ↓condK_f, ↓reduceIte, Nat.reduceEqDiff, reduceCtorEq, Nat.reduceAdd, Nat.reduceSub, Nat.reduceMul, Nat.reduceLT, Nat.reduceLeDiff, Int.reduceToNat, Int.reduceLE, Int.reduceLT, Int.reduceEq, Int.reduceNe, Int.reduceAdd, Int.reduceSub, Nat.reduceBEq, Option.some.injEq]
      refine (l2Write_ok f.val (by omega) (wordOk_signs h2).1 _).to ?_
      simp (implicitDefEqProofs := false) (disch := omega) only [push_cast, hn, ↓guardK_tt, ↓guardK_ff, ↓guardK_tf, ↓guardK_ft, ↓condK_t, ↓condK_f, ↓reduceIte, Nat.reduceEqDiff, reduceCtorEq, Nat.reduceAdd, Nat.reduceSub, Nat.reduceMul, Nat.reduceLT, Nat.reduceLeDiff, Int.reduceToNat, Int.reduceLE, Int.reduceLT, Int.reduceEq, Int.reduceNe, Int.reduceAdd, Int.reduceSub, Nat.reduceBEq, Option.some.injEq]
      refine ⟨by omega, finE (Cl.two (cl_tab _ _ _) (.str _)) ?_⟩
      have e : (⟨f.name, f.val, false⟩ : Fd) = f := by cases f; cases hn; rfl
      rw [e, fieldW, tabW, hn, hfo]
      rfl
    · simp (implicitDefEqProofs := false) (disch := omega) only [push_cast, hn, ↓guardK_tt, ↓guardK_ff, ↓guardK_tf, ↓guardK_ft, ↓condK_t, ↓condK_f, ↓reduceIte, Nat.reduceEqDiff, reduceCtorEq, Nat.reduceAdd, Nat.reduceSub, Nat.reduceMul, Nat.reduceLT, Nat.reduceLeDiff, Int.reduceToNat, Int.reduceLE, Int.reduceLT, Int.reduceEq, Int.reduceNe, Int.reduceAdd, Int.reduceSub, Nat.reduceBEq, Option.some.injEq]
      refine ((l1Write_ok (placeOf l f) 7 1 (by omega) (by omega) (by omega) _).as (by simp)).to ?_
      simp (implicitDefEqProofs := false) (disch := omega) only [push_cast, hn, ↓guardK_tt, ↓guardK_ff, ↓guardK_tf, ↓guardK_ft, ↓condK_t, ↓condK_f, ↓reduceIte, Nat.reduceEqDiff, reduceCtorEq, Nat.reduceAdd, Nat.reduceSub, Nat.reduceMul, Nat.reduceLT, Nat.reduceLeDiff, Int.reduceToNat, Int.reduceLE, Int.reduceLT, Int.reduceEq, Int.reduceNe, Int.reduceAdd, Int.reduceSub, Nat.reduceBEq, Option.some.injEq]
      refine fin1 (Cl.two (cl_tab _ _ _) (.str _)) ?_
      rw [fieldW, tabW, hn, hfo]
      rfl
  · have ef : fV f = .agg [.str f.name, .str f.val, .bool true] := by rw [fV, hn]
    simp (implicitDefEqProofs := false) (disch := omega) only [push_cast, hn, ↓guardK_tt, ↓guardK_ff, ↓guardK_tf, ↓guardK_ft, ↓condK_t, ↓condK_f, ↓reduceIte, Nat.reduceEqDiff, reduceCtorEq, Nat.reduceAdd, Nat.reduceSub, Nat.reduceMul, Nat.reduceLT, Nat.reduceLeDiff, Int.reduceToNat, Int.reduceLE, Int.reduceLT, Int.reduceEq, Int.reduceNe, Int.reduceAdd, Int.reduceSub, Nat.reduceBEq, Option.some.injEq]
    refine ((l11Name_ok (placeOf l f) 4 f hf (by omega) (by omega) _).as (by rw [ef]; rfl)).to ?_
    simp (implicitDefEqProofs := false) (disch := omega) only [push_cast, hn, ↓guardK_tt, ↓guardK_ff, ↓guardK_tf, ↓guardK_ft, ↓condK_t, ↓condK_f, ↓reduceIte, Nat.reduceEqDiff, reduceCtorEq, Nat.reduceAdd, Nat.reduceSub, Nat.reduceMul, Nat.reduceLT, Nat.reduceLeDiff, Int.reduceToNat, Int.reduceLE, Int.reduceLT, Int.reduceEq, Int.reduceNe, Int.reduceAdd, Int.reduceSub, Nat.reduceBEq, Option.some.injEq]
    refine (l2Write_ok f.val (by omega) (wordOk_signs h2).1 _).to ?_
    simp (implicitDefEqProofs := false) (disch := omega) only [push_cast, hn, ↓guardK_tt, ↓guardK_ff, ↓guardK_tf, ↓guardK_ft, ↓condK_t, ↓condK_f, ↓reduceIte, Nat.reduceEqDiff, reduceCtorEq, Nat.reduceAdd, Nat.reduceSub, Nat.reduceMul, Nat.reduceLT, Nat.reduceLeDiff, Int.reduceToNat, Int.reduceLE, Int.reduceLT, Int.reduceEq, Int.reduceNe, Int.reduceAdd, Int.reduceSub, Nat.reduceBEq, Option.some.injEq]
    refine ⟨by omega, fin1 (Cl.two (cl_tab _ _ _) (.str _)) ?_⟩
    rw [fieldW, tabW, hn]
    rfl

def headW : List Fd → Int → List Fd → List Fd × List UInt8
  | l, _, [] => (l, [])
  | l, max, f :: h => ((headW (tabW l max f) max h).1, fieldW l f ++ (headW (tabW l max f) max h).2)

theorem tabW_sub {l : List Fd} {max : Int} {f : Fd} {n : Nat} (hl : FdsB l) (hf : FdB f) (hlen : l.length ≤ n) (hn : n < 2000000) : FdsB (tabW l max f) ∧ (tabW l max f).length ≤ n + 1 := by
  unfold tabW
  split
  · exact ⟨hl, by omega⟩
  · split
    · exact ⟨hl, by omega⟩
    · have hb : FdsB (f :: l) := ⟨by simp; omega, fun g hg => by
        rcases List.mem_cons.1 hg with rfl | hg
        · exact hf
        · exact hl.2 g hg⟩
      refine ⟨hb.fit max, ?_⟩
      have := (fitL_sub (f :: l) max).2
      simp at this
      omega

theorem l11All_ok (l : List Fd) (max : Int) (h : List Fd) (hh : ∀ f ∈ h, fieldOk f = true) (hl : FdsB l) (hl1 : l.length ≤ 100) (hh6 : h.length ≤ 100) (hm : 0 ≤ max) (S : List Blk) :
    VCall Try.prog 63 [tV l max, .rows none (h.map fV)] S fun r S' => r = .tup [tV (headW l max h).1 max, .str (headW l max h).2] ∧ S' = S := by
  refine VCall.of_ev hD (fun f => if f = some 81 then true else false) (fun id => if id = 5 then [10, 10, 10, 10, 10, 10, 10, 10, 12, 10, 12, 12] else []) (n := 31) Try.func63 rfl rfl Try.ntmps63 (by kernel_rfl) (by kernel_rfl) (congrArg Array.toList Try.results63) (by simp) ?_
  simp (implicitDefEqProofs := false) (disch := omega) only [push_cast, ↓guardK_tt, ↓guardK_ff, ↓guardK_tf, ↓guardK_ft, ↓condK_t, ↓condK_f, ↓reduceIte, Nat.reduceEqDiff, reduceCtorEq, Nat.reduceAdd, Nat.reduceSub, Nat.reduceMul, Nat.reduceLT, Nat.reduceLeDiff, Int.reduceToNat, Int.reduceLE, Int.reduceLT, Int.reduceEq, Int.reduceNe, Int.reduceAdd, Int.reduceSub, Nat.reduceBEq, Option.some.injEq]
  refine wpV_loop (fun m t S' => ∃ (i : Nat) (w : List Fd) (o : List UInt8) (X : List Blk), m = h.length - i ∧ i ≤ h.length ∧ FdsB w ∧ w.length ≤ 100 + i ∧ o.length ≤ i * 400 ∧ (headW l max h).1 = (headW w max (h.drop i)).1 ∧ (headW l max h).2 = o ++ (headW w max (h.drop i)).2 ∧ t 1 = .rows none (h.map fV) ∧ t 2 = .ptr S.length 0 ∧ t 4 = .ptr (S.length + 1) 0 ∧ t 6 = .str o ∧ t 7 = .int .i64 i ∧
      S' = S ++ ([.cells 0 [.rows none (w.map fV), .int .i64 max], .cells 0 [.nils, .int .i64 0]] ++ X)) h.length ⟨0, l, [], [], by omega, by omega, hl, by omega, by simp, rfl, rfl, rfl, rfl, rfl, rfl, rfl, rfl⟩ ?_
  rintro m t S' ⟨i, w, o, X, rfl, hi, hw, hwl, hol, hd1, hd2, h1, h2, h4, h6, h7, rfl⟩
  refine wpV_of hD (fun f => if f = some 81 then true else false) (fun id => if id = 5 then [10, 10, 10, 10, 10, 10, 10, 10, 12, 10, 12, 12] else []) (by kernel_rfl) ?_
  simp (implicitDefEqProofs := false) (disch := omega) only [push_cast, h1, h2, h4, h6, h7, ↓guardK_tt, ↓guardK_ff, ↓guardK_tf, ↓guardK_ft, ↓condK_t, ↓condK_f, ↓reduceIte, Nat.reduceEqDiff, reduceCtorEq, Nat.reduceAdd, Nat.reduceSub, Nat.reduceMul, Nat.reduceLT, Nat.reduceLeDiff, Int.reduceToNat, Int.reduceLE, Int.reduceLT, Int.reduceEq, Int.reduceNe, Int.reduceAdd, Int.reduceSub, Nat.reduceBEq, Option.some.injEq]
  refine ⟨fun hlt => ?_, fun hge => ?_⟩
  · have hil : i < h.length := by omega
    have hgd := getD_fV hil
    have hfo := hh _ (getD_fd_mem hil)
    generalize hf : h.getD i fd0 = f at hgd hfo
    simp (implicitDefEqProofs := false) (disch := omega) only [push_cast, h1, h2, h4, h6, h7, hgd, ↓guardK_tt, ↓guardK_ff, ↓guardK_tf, ↓guardK_ft, ↓condK_t, ↓condK_f, ↓reduceIte, Nat.reduceEqDiff, reduceCtorEq, Nat.reduceAdd, Nat.reduceSub, Nat.reduceMul, Nat.reduceLT, Nat.reduceLeDiff, Int.reduceToNat, Int.reduceLE, Int.reduceLT, Int.reduceEq, Int.reduceNe, Int.reduceAdd, Int.reduceSub, Nat.reduceBEq, Option.some.injEq]
    refine ⟨by omega, by omega, _, fun S0 => (l11Write_ok w max f hfo hw (by omega) hm S0).as rfl, ?_⟩
    have hfl := fieldW_len hfo w
    simp (implicitDefEqProofs := false) (disch := omega) only [push_cast, h1, h2, h4, h6, h7, hgd, ↓guardK_tt, ↓guardK_ff, ↓guardK_tf, ↓guardK_ft, ↓condK_t, ↓condK_f, ↓reduceIte, Nat.reduceEqDiff, reduceCtorEq, Nat.reduceAdd, Nat.reduceSub, Nat.reduceMul, Nat.reduceLT, Nat.reduceLeDiff, Int.reduceToNat, Int.reduceLE, Int.reduceLT, Int.reduceEq, Int.reduceNe, Int.reduceAdd, Int.reduceSub, Nat.reduceBEq, Option.some.injEq]
    obtain ⟨hp1, hp2, hp3, hp4, hp5⟩ := fieldOk_parts hfo
    obtain ⟨ht1, ht2⟩ := tabW_sub (max := max) hw (f := f) ⟨by omega, by omega⟩ hwl (by omega)
    refine ⟨by omega, h.length - (i + 1), by omega, i + 1, tabW w max f, o ++ fieldW w f, X ++ [.cells 0 [.rows none ((tabW w max f).map fV), .int .i64 max]], rfl, by omega, ht1, by omega, by simp; omega, ?_, ?_, rfl, by simp, by simp⟩
    · rw [hd1, drop_fd hil, hf]; rfl
    · rw [hd2, drop_fd hil, hf, List.append_assoc]; rfl
  · have : i = h.length := by omega
    subst this
    rw [List.drop_length] at hd1 hd2
    refine fin1 (Cl.two (cl_tab _ _ _) (.str _)) ?_
    rw [hd1, hd2]
    simp [headW, tV]

theorem write_ok (l : List Fd) (max : Int) (h : List Fd) (hh : ∀ f ∈ h, fieldOk f = true) (hl : FdsB l) (hl1 : l.length ≤ 100) (hh6 : h.length ≤ 100) (hm : 0 ≤ max) (S : List Blk) :
    VCall Try.prog 50 [tV l max, .rows none (h.map fV)] S fun r S' => r = .tup [tV (headW l max h).1 max, .str (headW l max h).2] ∧ S' = S := by
  refine VCall.of_ev hD (fun _ => false) (fun _ => []) (n := 49) Try.func50 rfl rfl Try.ntmps50 (by kernel_rfl) (by kernel_rfl) (congrArg Array.toList Try.results50) (by simp) ?_
  simp (implicitDefEqProofs := false) (disch := omega) only [push_cast, ↓guardK_tt, ↓guardK_ff, ↓guardK_tf, ↓guardK_ft, ↓condK_t, ↓condK_f, ↓reduceIte, Nat.reduceEqDiff, reduceCtorEq, Nat.reduceAdd, Nat.reduceSub, Nat.reduceMul, Nat.reduceLT, Nat.reduceLeDiff, Int.reduceToNat, Int.reduceLE, Int.reduceLT, Int.reduceEq, Int.reduceNe, Int.reduceAdd, Int.reduceSub, Nat.reduceBEq, Option.some.injEq]
  refine wpV_loop (fun m t S' => ∃ (i : Nat) (w : List Fd) (o : List UInt8) (X : List Blk), m = h.length - i ∧ i ≤ h.length ∧ FdsB w ∧ w.length ≤ 100 + i ∧ o.length ≤ i * 400 ∧ (headW l max h).1 = (headW w max (h.drop i)).1 ∧ (headW l max h).2 = o ++ (headW w max (h.drop i)).2 ∧ t 11 = .rows none (h.map fV) ∧ t 12 = .int .i64 h.length ∧ t 2 = .ptr S.length 0 ∧ t 4 = .ptr (S.length + 1) 0 ∧ t 6 = .str o ∧ t 13 = .int .i64 i ∧
      S' = S ++ ([.cells 0 [.rows none (w.map fV), .int .i64 max], .cells 0 [.nils, .int .i64 0]] ++ X)) h.length ⟨0, l, [], [], by omega, by omega, hl, by omega, by simp, rfl, rfl, rfl, rfl, rfl, rfl, rfl, rfl, rfl⟩ ?_
  rintro m t S' ⟨i, w, o, X, rfl, hi, hw, hwl, hol, hd1, hd2, h11, h12, h2, h4, h6, h13, rfl⟩
  refine wpV_of hD (fun _ => false) (fun _ => []) (by kernel_rfl) ?_
  simp (implicitDefEqProofs := false) (disch := omega) only [push_cast, h11, h12, h2, h4, h6, h13, ↓guardK_tt, ↓guardK_ff, ↓guardK_tf, ↓guardK_ft, ↓condK_t, ↓condK_f, ↓reduceIte, Nat.reduceEqDiff, reduceCtorEq, Nat.reduceAdd, Nat.reduceSub, Nat.reduceMul, Nat.reduceLT, Nat.reduceLeDiff, Int.reduceToNat, Int.reduceLE, Int.reduceLT, Int.reduceEq, Int.reduceNe, Int.reduceAdd, Int.reduceSub, Nat.reduceBEq, Option.some.injEq]
  refine ⟨fun hlt => ?_, fun hge => ?_⟩
  · have hil : i < h.length := by omega
    have hgd := getD_fV hil
    have hfo := hh _ (getD_fd_mem hil)
    generalize hf : h.getD i fd0 = f at hgd hfo
    obtain ⟨hp1, hp2, hp3, hp4, hp5⟩ := fieldOk_parts hfo
    have hfb : FdB f := ⟨by omega, by omega⟩
    have hfl := fieldW_len hfo w
    have hpl := placeOf_le w f
    obtain ⟨ht1, ht2⟩ := tabW_sub (max := max) hw (f := f) hfb hwl (by omega)
    simp (implicitDefEqProofs := false) (disch := omega) only [push_cast, h11, h12, h2, h4, h6, h13, hgd, ↓guardK_tt, ↓guardK_ff, ↓guardK_tf, ↓guardK_ft, ↓condK_t, ↓condK_f, ↓reduceIte, Nat.reduceEqDiff, reduceCtorEq, Nat.reduceAdd, Nat.reduceSub, Nat.reduceMul, Nat.reduceLT, Nat.reduceLeDiff, Int.reduceToNat, Int.reduceLE, Int.reduceLT, Int.reduceEq, Int.reduceNe, Int.reduceAdd, Int.reduceSub, Nat.reduceBEq, Option.some.injEq]
    refine ⟨by omega, by omega, ((find_ok w max f (by omega) _).as rfl).to ?_⟩
    cases hn : f.never
    · have ef : fV f = .agg [.str f.name, .str f.val, .bool false] := by rw [fV, hn]
      cases hfo2 : foundIn w f
      · have e1 : fieldW w f = nameW (placeOf w f) 6 f ++ wordW f.val := by rw [fieldW, hn, hfo2]; rfl
        have e2 : tabW w max f = fitL (f :: w) max := by rw [tabW, hn, hfo2]; rfl
        simp (implicitDefEqProofs := false) (disch := omega) only [push_cast, h11, h12, h2, h4, h6, h13, hn, ↓guardK_tt, ↓guardK_ff, ↓guardK_tf, ↓guardK_ft, ↓condK_t, ↓condK_f, ↓reduceIte, Nat.reduceEqDiff, reduceCtorEq, Nat.reduceAdd, Nat.reduceSub, Nat.reduceMul, Nat.reduceLT, Nat.reduceLeDiff, Int.reduceToNat, Int.reduceLE, Int.reduceLT, Int.reduceEq, Int.reduceNe, Int.reduceAdd, Int.reduceSub, Nat.reduceBEq, Option.some.injEq]
        refine ((named_ok (placeOf w f) 6 f hfo (by omega) (by omega) _).as (by rw [ef]; rfl)).to ?_
        rw [← e1]
        simp (implicitDefEqProofs := false) (disch := omega) only [push_cast, h11, h12, h2, h4, h6, h13, hn, ↓guardK_tt, ↓guardK_ff, ↓guardK_tf, ↓guardK_ft, ↓condK_t, ↓condK_f, ↓reduceIte, Nat.reduceEqDiff, reduceCtorEq, Nat.reduceAdd, Nat.reduceSub, Nat.reduceMul, Nat.reduceLT, Nat.reduceLeDiff, Int.reduceToNat, Int.reduceLE, Int.reduceLT, Int.reduceEq, Int.reduceNe, Int.reduceAdd, Int.reduceSub, Nat.reduceBEq, Option.some.injEq]
        refine ⟨by omega, ((add_ok' w max f hw hfb (by omega) hm _).as (by rw [ef]; rfl)).to ?_⟩
        rw [← e2]
        simp (implicitDefEqProofs := false) (disch := omega) only [push_cast, h11, h12, h2, h4, h6, h13, hn, ↓guardK_tt, ↓guardK_ff, ↓guardK_tf, ↓guardK_ft, ↓condK_t, ↓condK_f, ↓reduceIte, Nat.reduceEqDiff, reduceCtorEq, Nat.reduceAdd, Nat.reduceSub, Nat.reduceMul, Nat.reduceLT, Nat.reduceLeDiff, Int.reduceToNat, Int.reduceLE, Int.reduceLT, Int.reduceEq, Int.reduceNe, Int.reduceAdd, Int.reduceSub, Nat.reduceBEq, Option.some.injEq]
        refine ⟨h.length - (i + 1), by omega, i + 1, tabW w max f, o ++ fieldW w f, _, rfl, by omega, ht1, by omega, by simp; omega, ?_, ?_, rfl, by simp, rfl⟩
        · rw [hd1, drop_fd hil, hf]; rfl
        · rw [hd2, drop_fd hil, hf, List.append_assoc]; rfl
      · have e1 : fieldW w f = numW (placeOf w f) 7 1 := by rw [fieldW, hn, hfo2]; rfl
        have e2 : tabW w max f = w := by rw [tabW, hn, hfo2]; rfl
        simp (implicitDefEqProofs := false) (disch := omega) only [push_cast, h11, h12, h2, h4, h6, h13, hn, ↓guardK_tt, ↓guardK_ff, ↓guardK_tf, ↓guardK_ft, ↓condK_t, ↓condK_f, ↓reduceIte, Nat.reduceEqDiff, reduceCtorEq, Nat.reduceAdd, Nat.reduceSub, Nat.reduceMul, Nat.reduceLT, Nat.reduceLeDiff, Int.reduceToNat, Int.reduceLE, Int.reduceLT, Int.reduceEq, Int.reduceNe, Int.reduceAdd, Int.reduceSub, Nat.reduceBEq, Option.some.injEq]
        refine ((NumWrite_ok (placeOf w f) 7 1 (by omega) (by omega) (by omega) _).as (by simp)).to ?_
        rw [if_pos ⟨by omega, by omega, by decide⟩, Int.toNat_natCast, ← e1]
        simp (implicitDefEqProofs := false) (disch := omega) only [push_cast, h11, h12, h2, h4, h6, h13, hn, ↓guardK_tt, ↓guardK_ff, ↓guardK_tf, ↓guardK_ft, ↓condK_t, ↓condK_f, ↓reduceIte, Nat.reduceEqDiff, reduceCtorEq, Nat.reduceAdd, Nat.reduceSub, Nat.reduceMul, Nat.reduceLT, Nat.reduceLeDiff, Int.reduceToNat, Int.reduceLE, Int.reduceLT, Int.reduceEq, Int.reduceNe, Int.reduceAdd, Int.reduceSub, Nat.reduceBEq, Option.some.injEq]
        refine ⟨by omega, h.length - (i + 1), by omega, i + 1, w, o ++ fieldW w f, _, rfl, by omega, hw, by omega, by simp; omega, ?_, ?_, rfl, by simp, rfl⟩
        · rw [hd1, drop_fd hil, hf, headW, e2]
        · rw [hd2, drop_fd hil, hf, List.append_assoc, headW, e2]
    · have ef : fV f = .agg [.str f.name, .str f.val, .bool true] := by rw [fV, hn]
      have e1 : fieldW w f = nameW (placeOf w f) 4 f ++ wordW f.val := by rw [fieldW, hn]; rfl
      have e2 : tabW w max f = w := by rw [tabW, hn]; rfl
      simp (implicitDefEqProofs := false) (disch := omega) only [push_cast, h11, h12, h2, h4, h6, h13, hn, ↓guardK_tt, ↓guardK_ff, ↓guardK_tf, ↓guardK_ft, ↓condK_t, ↓condK_f, ↓reduceIte, Nat.reduceEqDiff, reduceCtorEq, Nat.reduceAdd, Nat.reduceSub, Nat.reduceMul, Nat.reduceLT, Nat.reduceLeDiff, Int.reduceToNat, Int.reduceLE, Int.reduceLT, Int.reduceEq, Int.reduceNe, Int.reduceAdd, Int.reduceSub, Nat.reduceBEq, Option.some.injEq]
      refine ((named_ok (placeOf w f) 4 f hfo (by omega) (by omega) _).as (by rw [ef]; rfl)).to ?_
      rw [← e1]
      simp (implicitDefEqProofs := false) (disch := omega) only [push_cast, h11, h12, h2, h4, h6, h13, hn, ↓guardK_tt, ↓guardK_ff, ↓guardK_tf, ↓guardK_ft, ↓condK_t, ↓condK_f, ↓reduceIte, Nat.reduceEqDiff, reduceCtorEq, Nat.reduceAdd, Nat.reduceSub, Nat.reduceMul, Nat.reduceLT, Nat.reduceLeDiff, Int.reduceToNat, Int.reduceLE, Int.reduceLT, Int.reduceEq, Int.reduceNe, Int.reduceAdd, Int.reduceSub, Nat.reduceBEq, Option.some.injEq]
      refine ⟨by omega, h.length - (i + 1), by omega, i + 1, w, o ++ fieldW w f, _, rfl, by omega, hw, by omega, by simp; omega, ?_, ?_, rfl, by simp, rfl⟩
      · rw [hd1, drop_fd hil, hf, headW, e2]
      · rw [hd2, drop_fd hil, hf, List.append_assoc, headW, e2]
  · have : i = h.length := by omega
    subst this
    rw [List.drop_length] at hd1 hd2
    refine (clone_ok w max (by omega) _).to ?_
    simp (implicitDefEqProofs := false) (disch := omega) only [push_cast, h11, h12, h2, h4, h6, h13, ↓guardK_tt, ↓guardK_ff, ↓guardK_tf, ↓guardK_ft, ↓condK_t, ↓condK_f, ↓reduceIte, Nat.reduceEqDiff, reduceCtorEq, Nat.reduceAdd, Nat.reduceSub, Nat.reduceMul, Nat.reduceLT, Nat.reduceLeDiff, Int.reduceToNat, Int.reduceLE, Int.reduceLT, Int.reduceEq, Int.reduceNe, Int.reduceAdd, Int.reduceSub, Nat.reduceBEq, Option.some.injEq]
    refine fin1 (Cl.two (cl_tab _ _ _) (.str _)) ?_
    rw [hd1, hd2]
    simp [headW, tV]

/-- What HeadWrite answers. -/
def hwTab (l : List Fd) (max : Int) (h : List Fd) : List Fd := if tableOk l max && headOk h then (headW l max h).1 else []
def hwMax (l : List Fd) (max : Int) (h : List Fd) : Int := if tableOk l max && headOk h then max else 0
def hwBytes (l : List Fd) (max : Int) (h : List Fd) : List UInt8 := if tableOk l max && headOk h then (headW l max h).2 else []

theorem tableOk_parts {l : List Fd} {max : Int} (h : tableOk l max = true) : l.length ≤ 16 ∧ 0 ≤ max ∧ max ≤ 64 ∧ (∀ f ∈ l, fieldOk f = true ∧ f.never = false) ∧ (fdsSize l : Int) ≤ max := by
  simp only [tableOk, Bool.and_eq_true, List.all_eq_true, decide_eq_true_eq, Bool.not_eq_true'] at h
  obtain ⟨⟨h1, h2, h3⟩, h4⟩ := h
  have h5 : ∀ l : List Fd, 4 * l.length ≤ fdsSize l := by
    intro l
    induction l with
    | nil => simp
    | cons f l ih => simp only [fdsSize, List.map_cons, List.sum_cons, List.length_cons, fdSize] at ih ⊢; omega
  have := h5 l
  exact ⟨by omega, h2, h3, h1, h4⟩
theorem headOk_parts {h : List Fd} (hk : headOk h = true) : (∀ f ∈ h, fieldOk f = true) ∧ h.length ≤ 6 := by
  simpa [headOk, List.all_eq_true] using hk

theorem sHeadWrite_ok (l : List Fd) (max : Int) (h : List Fd) (hl : FdsB l) (hh : FdsB h) (S : List Blk) :
    VCall Try.prog 35 [tV l max, .rows none (h.map fV)] S fun r S' => r = .tup [tV (hwTab l max h) (hwMax l max h), .str (hwBytes l max h)] ∧ S' = S := by
  have hlen := hl.1
  refine VCall.of_ev hD (fun _ => false) (fun id => if id = 3 then [3, 3, 3, 8, 8, 8, 8, 8, 11, 11, 11, 13, 13] else []) (n := 26) Try.func35 rfl rfl Try.ntmps35 (by kernel_rfl) (by kernel_rfl) (congrArg Array.toList Try.results35) (by simp) ?_
  simp (implicitDefEqProofs := false) (disch := omega) only [push_cast, ↓guardK_tt, ↓guardK_ff, ↓guardK_tf, ↓guardK_ft, ↓condK_t, ↓condK_f, ↓reduceIte, Nat.reduceEqDiff, reduceCtorEq, Nat.reduceAdd, Nat.reduceSub, Nat.reduceMul, Nat.reduceLT, Nat.reduceLeDiff, Int.reduceToNat, Int.reduceLE, Int.reduceLT, Int.reduceEq, Int.reduceNe, Int.reduceAdd, Int.reduceSub, Nat.reduceBEq, Option.some.injEq]
  refine (sTableOk_ok l max hl _).to ?_
  cases ht : tableOk l max
  · simp (implicitDefEqProofs := false) (disch := omega) only [push_cast, ↓guardK_tt, ↓guardK_ff, ↓guardK_tf, ↓guardK_ft, ↓condK_t, ↓condK_f, ↓reduceIte, Nat.reduceEqDiff, reduceCtorEq, Nat.reduceAdd, Nat.reduceSub, Nat.reduceMul, Nat.reduceLT, Nat.reduceLeDiff, Int.reduceToNat, Int.reduceLE, Int.reduceLT, Int.reduceEq, Int.reduceNe, Int.reduceAdd, Int.reduceSub, Nat.reduceBEq, Option.some.injEq]
    refine finE (Cl.two (cl_tab _ [] 0) (.str _)) ?_
    rw [hwTab, hwMax, hwBytes, ht]
    rfl
  · simp (implicitDefEqProofs := false) (disch := omega) only [push_cast, ↓guardK_tt, ↓guardK_ff, ↓guardK_tf, ↓guardK_ft, ↓condK_t, ↓condK_f, ↓reduceIte, Nat.reduceEqDiff, reduceCtorEq, Nat.reduceAdd, Nat.reduceSub, Nat.reduceMul, Nat.reduceLT, Nat.reduceLeDiff, Int.reduceToNat, Int.reduceLE, Int.reduceLT, Int.reduceEq, Int.reduceNe, Int.reduceAdd, Int.reduceSub, Nat.reduceBEq, Option.some.injEq]
    refine (sHeadOk_ok h hh _).to ?_
    cases hk : headOk h
    · simp (implicitDefEqProofs := false) (disch := omega) only [push_cast, ↓guardK_tt, ↓guardK_ff, ↓guardK_tf, ↓guardK_ft, ↓condK_t, ↓condK_f, ↓reduceIte, Nat.reduceEqDiff, reduceCtorEq, Nat.reduceAdd, Nat.reduceSub, Nat.reduceMul, Nat.reduceLT, Nat.reduceLeDiff, Int.reduceToNat, Int.reduceLE, Int.reduceLT, Int.reduceEq, Int.reduceNe, Int.reduceAdd, Int.reduceSub, Nat.reduceBEq, Option.some.injEq]
      refine finE (Cl.two (cl_tab _ [] 0) (.str _)) ?_
      rw [hwTab, hwMax, hwBytes, ht, hk]
      rfl
    · obtain ⟨hk1, hk2⟩ := headOk_parts hk
      obtain ⟨ht1, ht2, ht3, ht4, ht5⟩ := tableOk_parts ht
      simp (implicitDefEqProofs := false) (disch := omega) only [push_cast, ↓guardK_tt, ↓guardK_ff, ↓guardK_tf, ↓guardK_ft, ↓condK_t, ↓condK_f, ↓reduceIte, Nat.reduceEqDiff, reduceCtorEq, Nat.reduceAdd, Nat.reduceSub, Nat.reduceMul, Nat.reduceLT, Nat.reduceLeDiff, Int.reduceToNat, Int.reduceLE, Int.reduceLT, Int.reduceEq, Int.reduceNe, Int.reduceAdd, Int.reduceSub, Nat.reduceBEq, Option.some.injEq]
      refine ⟨by omega, ((l11All_ok l max h hk1 hl (by omega) (by omega) ht2 _).as rfl).to ?_⟩
      simp (implicitDefEqProofs := false) (disch := omega) only [push_cast, ↓guardK_tt, ↓guardK_ff, ↓guardK_tf, ↓guardK_ft, ↓condK_t, ↓condK_f, ↓reduceIte, Nat.reduceEqDiff, reduceCtorEq, Nat.reduceAdd, Nat.reduceSub, Nat.reduceMul, Nat.reduceLT, Nat.reduceLeDiff, Int.reduceToNat, Int.reduceLE, Int.reduceLT, Int.reduceEq, Int.reduceNe, Int.reduceAdd, Int.reduceSub, Nat.reduceBEq, Option.some.injEq]
      refine finE (Cl.two (cl_tab _ _ _) (.str _)) ?_
      rw [hwTab, hwMax, hwBytes, ht, hk]
      rfl

theorem HeadWrite_ok (l : List Fd) (max : Int) (h : List Fd) (hl : FdsB l) (hh : FdsB h) (S : List Blk) :
    VCall Try.prog 24 [tV l max, .rows none (h.map fV)] S fun r S' => r = .tup [tV (hwTab l max h) (hwMax l max h), .str (hwBytes l max h)] ∧ S' = S := by
  have hlen := hl.1
  refine VCall.of_ev hD (fun _ => false) (fun _ => []) (n := 20) Try.func24 rfl rfl Try.ntmps24 (by kernel_rfl) (by kernel_rfl) (congrArg Array.toList Try.results24) (by simp) ?_
  simp (implicitDefEqProofs := false) (disch := omega) only [push_cast, ↓guardK_tt, ↓guardK_ff, ↓guardK_tf, ↓guardK_ft, ↓condK_t, ↓condK_f, ↓reduceIte, Nat.reduceEqDiff, reduceCtorEq, Nat.reduceAdd, Nat.reduceSub, Nat.reduceMul, Nat.reduceLT, Nat.reduceLeDiff, Int.reduceToNat, Int.reduceLE, Int.reduceLT, Int.reduceEq, Int.reduceNe, Int.reduceAdd, Int.reduceSub, Nat.reduceBEq, Option.some.injEq]
  refine (TableOk_ok l max hl _).to ?_
  cases ht : tableOk l max
  · simp (implicitDefEqProofs := false) (disch := omega) only [push_cast, ↓guardK_tt, ↓guardK_ff, ↓guardK_tf, ↓guardK_ft, ↓condK_t, ↓condK_f, ↓reduceIte, Nat.reduceEqDiff, reduceCtorEq, Nat.reduceAdd, Nat.reduceSub, Nat.reduceMul, Nat.reduceLT, Nat.reduceLeDiff, Int.reduceToNat, Int.reduceLE, Int.reduceLT, Int.reduceEq, Int.reduceNe, Int.reduceAdd, Int.reduceSub, Nat.reduceBEq, Option.some.injEq]
    refine finE (Cl.two (cl_tab _ [] 0) (.str _)) ?_
    rw [hwTab, hwMax, hwBytes, ht]
    rfl
  · simp (implicitDefEqProofs := false) (disch := omega) only [push_cast, ↓guardK_tt, ↓guardK_ff, ↓guardK_tf, ↓guardK_ft, ↓condK_t, ↓condK_f, ↓reduceIte, Nat.reduceEqDiff, reduceCtorEq, Nat.reduceAdd, Nat.reduceSub, Nat.reduceMul, Nat.reduceLT, Nat.reduceLeDiff, Int.reduceToNat, Int.reduceLE, Int.reduceLT, Int.reduceEq, Int.reduceNe, Int.reduceAdd, Int.reduceSub, Nat.reduceBEq, Option.some.injEq]
    refine (HeadOk_ok h hh _).to ?_
    cases hk : headOk h
    · simp (implicitDefEqProofs := false) (disch := omega) only [push_cast, ↓guardK_tt, ↓guardK_ff, ↓guardK_tf, ↓guardK_ft, ↓condK_t, ↓condK_f, ↓reduceIte, Nat.reduceEqDiff, reduceCtorEq, Nat.reduceAdd, Nat.reduceSub, Nat.reduceMul, Nat.reduceLT, Nat.reduceLeDiff, Int.reduceToNat, Int.reduceLE, Int.reduceLT, Int.reduceEq, Int.reduceNe, Int.reduceAdd, Int.reduceSub, Nat.reduceBEq, Option.some.injEq]
      refine finE (Cl.two (cl_tab _ [] 0) (.str _)) ?_
      rw [hwTab, hwMax, hwBytes, ht, hk]
      rfl
    · obtain ⟨hk1, hk2⟩ := headOk_parts hk
      obtain ⟨ht1, ht2, ht3, ht4, ht5⟩ := tableOk_parts ht
      simp (implicitDefEqProofs := false) (disch := omega) only [push_cast, ↓guardK_tt, ↓guardK_ff, ↓guardK_tf, ↓guardK_ft, ↓condK_t, ↓condK_f, ↓reduceIte, Nat.reduceEqDiff, reduceCtorEq, Nat.reduceAdd, Nat.reduceSub, Nat.reduceMul, Nat.reduceLT, Nat.reduceLeDiff, Int.reduceToNat, Int.reduceLE, Int.reduceLT, Int.reduceEq, Int.reduceNe, Int.reduceAdd, Int.reduceSub, Nat.reduceBEq, Option.some.injEq]
      refine ((write_ok l max h hk1 hl (by omega) (by omega) ht2 _).as rfl).to ?_
      simp (implicitDefEqProofs := false) (disch := omega) only [push_cast, ↓guardK_tt, ↓guardK_ff, ↓guardK_tf, ↓guardK_ft, ↓condK_t, ↓condK_f, ↓reduceIte, Nat.reduceEqDiff, reduceCtorEq, Nat.reduceAdd, Nat.reduceSub, Nat.reduceMul, Nat.reduceLT, Nat.reduceLeDiff, Int.reduceToNat, Int.reduceLE, Int.reduceLT, Int.reduceEq, Int.reduceNe, Int.reduceAdd, Int.reduceSub, Nat.reduceBEq, Option.some.injEq]
      refine finE (Cl.two (cl_tab _ _ _) (.str _)) ?_
      rw [hwTab, hwMax, hwBytes, ht, hk]
      rfl

end Go.Proofs.Ytblbaniokmgjgaa
