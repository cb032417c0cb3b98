/- Contracts: HeadRead of the specification. -/
import Derived.Test.YtblbaniokmgjgaaCfC
namespace Go.Proofs.Ytblbaniokmgjgaa
open Go
set_option linter.unusedVariables false
set_option linter.unusedSimpArgs false

set_option maxHeartbeats 4000000 in
theorem l11Read_ok (l : List Fd) (max : Int) (b : List UInt8) (hl : FdsB l) (hl1 : l.length ≤ 100) (hm : 0 ≤ max) (hb : b.length ≤ 250) (hall : ∀ f ∈ fixedFds ++ l, fieldOk f = true) (S : List Blk) :
    VCall Try.prog 26 [tV l max, .str b] S fun r S' => r = hrV max (headR b.length l max b 0) ∧ S' = S := by
  have hlen := hl.1
  refine VCall.of_ev hD (fun _ => false) (fun _ => []) (n := 42) Try.func26 rfl rfl Try.ntmps26 (by kernel_rfl) (by kernel_rfl) (congrArg Array.toList Try.results26) (by simp) ?_
  simp (implicitDefEqProofs := false) (disch := omega) only [push_cast, ↓guardK_tt, ↓guardK_ff, ↓guardK_tf, ↓guardK_ft, ↓condK_t, ↓condK_f, ↓reduceIte, Nat.reduceEqDiff, reduceCtorEq, Nat.reduceAdd, Nat.reduceSub, Nat.reduceMul, Nat.reduceLT, Nat.reduceLeDiff, Int.reduceToNat, Int.reduceLE, Int.reduceLT, Int.reduceEq, Int.reduceNe, Int.reduceAdd, Int.reduceSub, Nat.reduceBEq, Option.some.injEq]
  refine wpV_loop (fun m t S' => ∃ (w h : List Fd) (d : List UInt8) (X : List Blk) (τ : Nat), m = d.length ∧ d.length ≤ 250 ∧ FdsB w ∧ (∀ f ∈ fixedFds ++ w, fieldOk f = true) ∧ w.length ≤ 100 + h.length ∧ h.length ≤ 6 ∧ (headR b.length l max b 0 = (headR d.length w max d h.length).map (fun x => (x.1, h ++ x.2))) ∧ t 1 = .str d ∧ t 2 = .ptr S.length 0 ∧ t 4 = .ptr (S.length + 1) 0 ∧
      X[τ]? = some (.right 3) ∧ t 7 = .rows (some (S.length + (τ + 2))) (h.map fV) ∧ S' = S ++ ([.cells 0 [.rows none (w.map fV), .int .i64 max], .cells 0 [.nils, .int .i64 0]] ++ X)) b.length
    ⟨l, [], b, [.right 3], 0, rfl, hb, hl, hall, by simp; omega, by simp, ?_, rfl, rfl, rfl, rfl, rfl, rfl⟩ ?_
  · cases headR b.length l max b 0 <;> rfl
  rintro m t S' ⟨w, h, d, X, τ, rfl, hd, hw, hwall, hwl, hh6, hrun, h1, h2, h4, hX, h7, rfl⟩
  have hX2 : ∀ Y, (X ++ Y)[τ]? = some (.right 3) := fun Y => by rw [List.getElem?_append_left (rd_lt hX)]; exact hX
  refine wpV_of hD (fun _ => false) (fun _ => []) (by kernel_rfl) ?_
  by_cases hdn : d = []
  · subst hdn
    have hres : headR b.length l max b 0 = some (w, h) := by rw [hrun, headR_nil]; simp
    simp (implicitDefEqProofs := false) (disch := omega) only [push_cast, h1, h2, h4, h7, ↓guardK_tt, ↓guardK_ff, ↓guardK_tf, ↓guardK_ft, ↓condK_t, ↓condK_f, ↓reduceIte, Nat.reduceEqDiff, reduceCtorEq, Nat.reduceAdd, Nat.reduceSub, Nat.reduceMul, Nat.reduceLT, Nat.reduceLeDiff, Int.reduceToNat, Int.reduceLE, Int.reduceLT, Int.reduceEq, Int.reduceNe, Int.reduceAdd, Int.reduceSub, Nat.reduceBEq, Option.some.injEq]
    exact finE (Cl.three (cl_tab _ w max) (cl_fds _ h) (.bool _)) (by rw [hres]; rfl)
  · have hdp : 0 < d.length := List.length_pos_iff.2 hdn
    have hdne : (d = []) = False := by simp [hdn]
    have hwl2 := hw.1
    simp (implicitDefEqProofs := false) (disch := omega) only [push_cast, h1, h2, h4, hdne, ↓guardK_tt, ↓guardK_ff, ↓guardK_tf, ↓guardK_ft, ↓condK_t, ↓condK_f, ↓reduceIte, Nat.reduceEqDiff, reduceCtorEq, Nat.reduceAdd, Nat.reduceSub, Nat.reduceMul, Nat.reduceLT, Nat.reduceLeDiff, Int.reduceToNat, Int.reduceLE, Int.reduceLT, Int.reduceEq, Int.reduceNe, Int.reduceAdd, Int.reduceSub, Nat.reduceBEq, Option.some.injEq]
    refine ((l11One_ok w max d hw (by omega) hm (by omega) hdn hwall _).as rfl).mono ?_
    rintro r S2 ⟨hr, rfl⟩
    obtain ⟨k, hk⟩ : ∃ k, d.length = k + 1 := ⟨d.length - 1, by omega⟩
    cases hf : fieldR w d with
    | none =>
      rw [hf] at hr
      have hstep : headR d.length w max d h.length = none := by rw [hk, headR, if_neg hdn, hf]
      have hres : headR b.length l max b 0 = none := by rw [hrun, hstep]; rfl
      obtain ⟨g, s, rfl⟩ := hr
      simp (implicitDefEqProofs := false) (disch := omega) only [push_cast, h1, h2, h4, ↓guardK_tt, ↓guardK_ff, ↓guardK_tf, ↓guardK_ft, ↓condK_t, ↓condK_f, ↓reduceIte, Nat.reduceEqDiff, reduceCtorEq, Nat.reduceAdd, Nat.reduceSub, Nat.reduceMul, Nat.reduceLT, Nat.reduceLeDiff, Int.reduceToNat, Int.reduceLE, Int.reduceLT, Int.reduceEq, Int.reduceNe, Int.reduceAdd, Int.reduceSub, Nat.reduceBEq, Option.some.injEq]
      exact finE (Cl.three (cl_tab _ [] 0) (cl_fds _ []) (.bool _)) (by rw [hres]; rfl)
    | some y =>
      obtain ⟨f, s, bits⟩ := y
      rw [hf] at hr
      have hstep : headR d.length w max d h.length = if h.length = 6 then none else (headR k (if bits = 6 then fitL (f :: w) max else w) max (d.drop s) (h.length + 1)).map (fun x => (x.1, f :: x.2)) := by rw [hk, headR, if_neg hdn, hf]
      obtain ⟨b1, b2, b3, b4⟩ := fieldR_bound (by omega) hf
      have hrr : r = .tup [tV (if bits = 6 then fitL (f :: w) max else w) max, fV f, .int .i64 s, .bool true] := hr
      subst hrr
      have hdl : (d.drop s).length = d.length - s := List.length_drop ..
      have hds : (d.take d.length).drop s = d.drop s := by rw [List.take_length]
      rw [headR_fuel d.length (d.drop s) (by omega) (by omega) k _ max _ (by omega)] at hstep
      have hfb : FdB f := by
        rcases b4 with ⟨_, hm⟩ | ⟨_, hk, _⟩
        · obtain ⟨_, _, _, q1, q2⟩ := fieldOk_parts (hwall f hm)
          exact ⟨by omega, by omega⟩
        · obtain ⟨_, _, _, q1, q2⟩ := fieldOk_parts hk
          exact ⟨by omega, by omega⟩
      have hnew : FdsB (if bits = 6 then fitL (f :: w) max else w) ∧ (if bits = 6 then fitL (f :: w) max else w).length ≤ w.length + 1 ∧ ∀ g ∈ fixedFds ++ (if bits = 6 then fitL (f :: w) max else w), fieldOk g = true := by
        split
        · rename_i h6
          have hb : FdsB (f :: w) := ⟨by simp; omega, fun g hg => by
            rcases List.mem_cons.1 hg with rfl | hg
            · exact hfb
            · exact hw.2 g hg⟩
          refine ⟨hb.fit max, by simpa using (fitL_sub (f :: w) max).2, fun g hg => ?_⟩
          rcases List.mem_append.1 hg with g1 | g1
          · exact hwall g (List.mem_append.2 (.inl g1))
          · rcases List.mem_cons.1 ((fitL_sub (f :: w) max).1 g g1) with rfl | g2
            · rcases b4 with ⟨e7, _⟩ | ⟨_, hk, _⟩
              · omega
              · exact hk
            · exact hwall g (List.mem_append.2 (.inr g2))
        · exact ⟨hw, by omega, hwall⟩
      generalize (if bits = 6 then fitL (f :: w) max else w) = w2 at hnew hstep
      obtain ⟨n1, n2, n3⟩ := hnew
      by_cases h6 : h.length = 6
      · rw [if_pos h6] at hstep
        have hres : headR b.length l max b 0 = none := by rw [hrun, hstep]; rfl
        have h6' : (h.length : Int) ≥ 6 := by omega
        simp (implicitDefEqProofs := false) (disch := omega) only [push_cast, h1, h2, h4, h7, h6', ↓guardK_tt, ↓guardK_ff, ↓guardK_tf, ↓guardK_ft, ↓condK_t, ↓condK_f, ↓reduceIte, Nat.reduceEqDiff, reduceCtorEq, Nat.reduceAdd, Nat.reduceSub, Nat.reduceMul, Nat.reduceLT, Nat.reduceLeDiff, Int.reduceToNat, Int.reduceLE, Int.reduceLT, Int.reduceEq, Int.reduceNe, Int.reduceAdd, Int.reduceSub, Nat.reduceBEq, Option.some.injEq]
        exact finE (Cl.three (cl_tab _ [] 0) (cl_fds _ []) (.bool _)) (by rw [hres]; rfl)
      · rw [if_neg h6] at hstep
        have h6' : ¬ (h.length : Int) ≥ 6 := by omega
        simp (implicitDefEqProofs := false) (disch := omega) only [push_cast, h1, h2, h4, h7, h6', hds, hX2, ↓guardK_tt, ↓guardK_ff, ↓guardK_tf, ↓guardK_ft, ↓condK_t, ↓condK_f, ↓reduceIte, Nat.reduceEqDiff, reduceCtorEq, Nat.reduceAdd, Nat.reduceSub, Nat.reduceMul, Nat.reduceLT, Nat.reduceLeDiff, Int.reduceToNat, Int.reduceLE, Int.reduceLT, Int.reduceEq, Int.reduceNe, Int.reduceAdd, Int.reduceSub, Nat.reduceBEq, Option.some.injEq]
        refine ⟨by omega, by omega, by omega, by omega, (d.drop s).length, by omega, w2, h ++ [f], d.drop s, _, X.length + 3, rfl, by omega, n1, n3, by rw [List.length_append]; simp; omega, by rw [List.length_append]; simp; omega, ?_, rfl, ?_, by rw [List.map_append]; rfl, rfl⟩
        · rw [hrun, hstep, Option.map_map, List.length_append]
          congr 1
          funext y
          simp
        · rw [List.getElem?_append_right (by simp)]; simp

theorem sHeadRead_ok (l : List Fd) (max : Int) (b : List UInt8) (hl : FdsB l) (hb : b.length ≤ 1000000000) (S : List Blk) :
    VCall Try.prog 8 [tV l max, .str b] S fun r S' => r = hrV max (hrM l max b) ∧ S' = S := by
  have hlen := hl.1
  refine VCall.of_ev hD (fun _ => false) (fun id => if id = 3 then [3, 3, 3, 8, 8, 8, 8, 8, 12, 12, 12, 12, 15, 15, 15] else []) (n := 29) Try.func8 rfl rfl Try.ntmps8 (by kernel_rfl) (by kernel_rfl) (congrArg Array.toList Try.results8) (by simp) ?_
  simp (implicitDefEqProofs := false) (disch := omega) only [push_cast, ↓guardK_tt, ↓guardK_ff, ↓guardK_tf, ↓guardK_ft, ↓condK_t, ↓condK_f, ↓reduceIte, Nat.reduceEqDiff, reduceCtorEq, Nat.reduceAdd, Nat.reduceSub, Nat.reduceMul, Nat.reduceLT, Nat.reduceLeDiff, Int.reduceToNat, Int.reduceLE, Int.reduceLT, Int.reduceEq, Int.reduceNe, Int.reduceAdd, Int.reduceSub, Nat.reduceBEq, Option.some.injEq]
  refine (sTableOk_ok l max hl _).to ?_
  cases ht : tableOk l max
  · simp (implicitDefEqProofs := false) (disch := omega) only [push_cast, ↓guardK_tt, ↓guardK_ff, ↓guardK_tf, ↓guardK_ft, ↓condK_t, ↓condK_f, ↓reduceIte, Nat.reduceEqDiff, reduceCtorEq, Nat.reduceAdd, Nat.reduceSub, Nat.reduceMul, Nat.reduceLT, Nat.reduceLeDiff, Int.reduceToNat, Int.reduceLE, Int.reduceLT, Int.reduceEq, Int.reduceNe, Int.reduceAdd, Int.reduceSub, Nat.reduceBEq, Option.some.injEq]
    exact finE (Cl.three (cl_tab _ [] 0) (cl_fds _ []) (.bool _)) (by rw [hrM, if_neg (by simp [ht])]; rfl)
  obtain ⟨ht1, ht2, ht3, ht4, ht5⟩ := tableOk_parts ht
  by_cases h250 : b.length ≤ 250
  · have h250' : ¬ (b.length : Int) > 250 := by omega
    have hM : hrM l max b = headR b.length l max b 0 := by rw [hrM, if_pos ⟨ht, h250⟩]
    simp (implicitDefEqProofs := false) (disch := omega) only [push_cast, h250', ↓guardK_tt, ↓guardK_ff, ↓guardK_tf, ↓guardK_ft, ↓condK_t, ↓condK_f, ↓reduceIte, Nat.reduceEqDiff, reduceCtorEq, Nat.reduceAdd, Nat.reduceSub, Nat.reduceMul, Nat.reduceLT, Nat.reduceLeDiff, Int.reduceToNat, Int.reduceLE, Int.reduceLT, Int.reduceEq, Int.reduceNe, Int.reduceAdd, Int.reduceSub, Nat.reduceBEq, Option.some.injEq]
    refine ⟨by omega, ((l11Read_ok l max b hl (by omega) ht2 h250 (fun f hf => (List.mem_append.1 hf).elim (fun h => (fixed_ok f h).1) (fun h => (ht4 f h).1)) _).as rfl).to ?_⟩
    rw [hM]
    cases headR b.length l max b 0 with
    | none =>
      simp (implicitDefEqProofs := false) (disch := omega) only [push_cast, hrV, ↓guardK_tt, ↓guardK_ff, ↓guardK_tf, ↓guardK_ft, ↓condK_t, ↓condK_f, ↓reduceIte, Nat.reduceEqDiff, reduceCtorEq, Nat.reduceAdd, Nat.reduceSub, Nat.reduceMul, Nat.reduceLT, Nat.reduceLeDiff, Int.reduceToNat, Int.reduceLE, Int.reduceLT, Int.reduceEq, Int.reduceNe, Int.reduceAdd, Int.reduceSub, Nat.reduceBEq, Option.some.injEq]
      exact finE (Cl.three (cl_tab _ [] 0) (cl_fds _ []) (.bool _)) rfl
    | some x =>
      obtain ⟨w, h⟩ := x
      simp (implicitDefEqProofs := false) (disch := omega) only [push_cast, hrV, ↓guardK_tt, ↓guardK_ff, ↓guardK_tf, ↓guardK_ft, ↓condK_t, ↓condK_f, ↓reduceIte, Nat.reduceEqDiff, reduceCtorEq, Nat.reduceAdd, Nat.reduceSub, Nat.reduceMul, Nat.reduceLT, Nat.reduceLeDiff, Int.reduceToNat, Int.reduceLE, Int.reduceLT, Int.reduceEq, Int.reduceNe, Int.reduceAdd, Int.reduceSub, Nat.reduceBEq, Option.some.injEq]
      exact finE (Cl.three (cl_tab _ w max) (cl_fds _ h) (.bool _)) rfl
  · have h250' : (b.length : Int) > 250 := by omega
    simp (implicitDefEqProofs := false) (disch := omega) only [push_cast, h250', ↓guardK_tt, ↓guardK_ff, ↓guardK_tf, ↓guardK_ft, ↓condK_t, ↓condK_f, ↓reduceIte, Nat.reduceEqDiff, reduceCtorEq, Nat.reduceAdd, Nat.reduceSub, Nat.reduceMul, Nat.reduceLT, Nat.reduceLeDiff, Int.reduceToNat, Int.reduceLE, Int.reduceLT, Int.reduceEq, Int.reduceNe, Int.reduceAdd, Int.reduceSub, Nat.reduceBEq, Option.some.injEq]
    exact finE (Cl.three (cl_tab _ [] 0) (cl_fds _ []) (.bool _)) (by rw [hrM, if_neg (fun h => h250 h.2)]; rfl)

theorem sWordWrite_ok (w : List UInt8) (hw : w.length ≤ 1000) (S : List Blk) : VCall Try.prog 39 [.str w] S fun r S' => r = .str (if wordOk w then wordW w else []) ∧ S' = S := by
  refine VCall.of_ev hD (fun _ => false) (fun _ => []) (n := 8) Try.func39 rfl rfl Try.ntmps39 (by kernel_rfl) (by kernel_rfl) (congrArg Array.toList Try.results39) (by simp) ?_
  simp (implicitDefEqProofs := false) (disch := omega) only [push_cast, ↓guardK_tt, ↓guardK_ff, ↓guardK_tf, ↓guardK_ft, ↓condK_t, ↓condK_f, ↓reduceIte, Nat.reduceEqDiff, reduceCtorEq, Nat.reduceAdd, Nat.reduceSub, Nat.reduceMul, Nat.reduceLT, Nat.reduceLeDiff, Int.reduceToNat, Int.reduceLE, Int.reduceLT, Int.reduceEq, Int.reduceNe, Int.reduceAdd, Int.reduceSub, Nat.reduceBEq, Option.some.injEq]
  refine (sWordOk_ok w (by omega) S).to ?_
  cases hok : wordOk w
  · simp (implicitDefEqProofs := false) (disch := omega) only [push_cast, ↓guardK_tt, ↓guardK_ff, ↓guardK_tf, ↓guardK_ft, ↓condK_t, ↓condK_f, ↓reduceIte, Nat.reduceEqDiff, reduceCtorEq, Nat.reduceAdd, Nat.reduceSub, Nat.reduceMul, Nat.reduceLT, Nat.reduceLeDiff, Int.reduceToNat, Int.reduceLE, Int.reduceLT, Int.reduceEq, Int.reduceNe, Int.reduceAdd, Int.reduceSub, Nat.reduceBEq, Option.some.injEq]
    exact fin0 rfl
  · simp (implicitDefEqProofs := false) (disch := omega) only [push_cast, ↓guardK_tt, ↓guardK_ff, ↓guardK_tf, ↓guardK_ft, ↓condK_t, ↓condK_f, ↓reduceIte, Nat.reduceEqDiff, reduceCtorEq, Nat.reduceAdd, Nat.reduceSub, Nat.reduceMul, Nat.reduceLT, Nat.reduceLeDiff, Int.reduceToNat, Int.reduceLE, Int.reduceLT, Int.reduceEq, Int.reduceNe, Int.reduceAdd, Int.reduceSub, Nat.reduceBEq, Option.some.injEq]
    refine (l2Write_ok w hw (wordOk_signs hok).1 S).to ?_
    simp (implicitDefEqProofs := false) (disch := omega) only [push_cast, ↓guardK_tt, ↓guardK_ff, ↓guardK_tf, ↓guardK_ft, ↓condK_t, ↓condK_f, ↓reduceIte, Nat.reduceEqDiff, reduceCtorEq, Nat.reduceAdd, Nat.reduceSub, Nat.reduceMul, Nat.reduceLT, Nat.reduceLeDiff, Int.reduceToNat, Int.reduceLE, Int.reduceLT, Int.reduceEq, Int.reduceNe, Int.reduceAdd, Int.reduceSub, Nat.reduceBEq, Option.some.injEq]
    exact fin0 rfl

end Go.Proofs.Ytblbaniokmgjgaa
