/- Contracts: tables that are not larger than they may be. -/
import Derived.Test.YtblbaniokmgjgaaCaG
namespace Go.Proofs.Ytblbaniokmgjgaa
open Go
set_option linter.unusedVariables false
set_option linter.unusedSimpArgs false

theorem hDf : TypesOk Try.prog (wrOf D [50]) := wrOk hD _
def fcs (l : List Fd) : List V := l.flatMap fun f => [.str f.name, .str f.val, .bool f.never]
theorem fcs_len (l : List Fd) : (fcs l).length = l.length * 3 := by
  induction l with
  | nil => rfl
  | cons a l ih => simp only [fcs, List.flatMap_cons, List.length_append, List.length_cons] at ih ⊢; simp only [List.length_nil] at ih ⊢; omega
theorem fcs_app (l k : List Fd) : fcs (l ++ k) = fcs l ++ fcs k := by simp [fcs]
theorem fcs_at {l : List Fd} {i : Nat} (h : i < l.length) (Y : List V) : ((fcs l ++ Y).drop (i * 3)).take 3 = [.str (l.getD i fd0).name, .str (l.getD i fd0).val, .bool (l.getD i fd0).never] := by
  obtain ⟨a, b, hab, ha⟩ : ∃ a b, l = a ++ l.getD i fd0 :: b ∧ a.length = i := ⟨l.take i, l.drop (i + 1), by rw [← drop_fd h, List.take_append_drop], by simp; omega⟩
  have e : fcs l = fcs a ++ ([V.str (l.getD i fd0).name, V.str (l.getD i fd0).val, V.bool (l.getD i fd0).never] ++ fcs b) := by
    conv => lhs; rw [hab]
    rw [fcs_app]; rfl
  rw [e, ← ha, ← fcs_len, List.append_assoc, List.drop_left]
  rfl

theorem fcs_of (l : List Fd) : List.map eraseC (List.flatMap V.cells (List.map fV l)) = fcs l := by
  induction l with
  | nil => rfl
  | cons a l ih => simp only [List.map_cons, List.flatMap_cons, List.map_append, ih]; rfl

theorem keep_tab (w : List Fd) (max : Int) (S A : List Blk) : ∃ r S2, Wk S (.agg [.rows (some (S.length + A.length)) (w.map fV), .int .i64 max]) (S ++ (A ++ [.right 3])) r S2 ∧ r = .agg [.rows (some S.length) (w.map fV), .int .i64 max] ∧ S2 = S ++ [.right 3] := by
  refine ⟨_, _, Wk.keep (fun j => if j < S.length then j else S.length + A.length) (by simp) (fun j hj => if_pos hj) ?_ (r' := .agg [.rows (some S.length) (w.map fV), .int .i64 max]) ?_ ?_ ?_, rfl, rfl⟩
  · intro i j hi hj he
    simp only [List.length_append, List.length_cons, List.length_nil] at hi hj
    by_cases h : i < S.length <;> by_cases h' : j < S.length <;> simp [h, h'] at he <;> omega
  · simp [renT, ren1, renC]
  · intro u hu
    simp only [V.cells, List.mem_cons, List.not_mem_nil, or_false] at hu
    rcases hu with rfl | rfl
    · refine .rows (fun τ hτ => by cases hτ; simp) (fun v hv => ?_)
      obtain ⟨x, hx, hvx⟩ := List.mem_flatMap.1 hv
      obtain ⟨f, _, rfl⟩ := List.mem_map.1 hx
      simp only [fV, V.cells, List.mem_cons, List.not_mem_nil, or_false] at hvx
      rcases hvx with rfl | rfl | rfl
      · exact .str _
      · exact .str _
      · exact .bool _
    · exact .cl (.int _ _)
  · intro j B' hj
    rcases Nat.lt_or_ge j S.length with g | g
    · rw [List.getElem?_append_left g] at hj
      refine .inl ⟨g, hj, ?_⟩
      rw [List.getElem?_append_left g]
      exact hj
    · have : j = S.length := by
        rcases Nat.lt_or_ge j (S.length + 1) with q | q
        · omega
        · rw [List.getElem?_eq_none (by simpa using q)] at hj; cases hj
      subst this
      rw [List.getElem?_append_right (Nat.le_refl _), Nat.sub_self] at hj
      cases hj
      refine .inr ⟨.right 3, ?_, .right⟩
      simp only [Nat.lt_irrefl, if_false]
      rw [List.getElem?_append_right (by omega), List.getElem?_append_right (by omega)]
      rw [show S.length + A.length - S.length - A.length = 0 by omega]
      rfl

theorem fit_end (w : List Fd) (max : Int) (S A : List Blk) (Y : List V) : ∃ r S2, Wk S (.agg [.heap (S.length + A.length) w.length, .int .i64 max]) (S ++ (A ++ [.cells 3 (fcs w ++ Y)])) r S2 ∧ r = .agg [.rows (some S.length) (w.map fV), .int .i64 max] ∧ S2 = S ++ [.right 3] := by
  have hfl := fcs_len w
  have h1 := Wk.freeze (S0 := S) (S := S ++ (A ++ [.cells 3 (fcs w ++ Y)])) (r := .agg [.heap (S.length + A.length) w.length, .int .i64 max]) (b := S.length + A.length) (m := w.length) (sz := 3) (cs := fcs w ++ Y) (w.map fV)
    (by rw [List.getElem?_append_right (by omega), List.getElem?_append_right (by omega)]; simp) (by simp; omega) (by simp) (by
      rw [← hfl, List.take_left]
      induction w with
      | nil => rfl
      | cons a l ih => simp only [List.map_cons, List.flatMap_cons, ih (fcs_len l)]; rfl)
  simp only [fr1, frC, List.map_cons, List.map_nil, and_self, if_true] at h1
  obtain ⟨r, S2, h2, h3⟩ := keep_tab w max S (A ++ [.dead])
  refine ⟨r, S2, h1.trans ?_, h3⟩
  have e1 : (S ++ (A ++ [Blk.cells 3 (fcs w ++ Y)])).length = S.length + (A ++ [Blk.dead]).length := by simp
  have e2 : (S ++ (A ++ [Blk.cells 3 (fcs w ++ Y)])).set (S.length + A.length) Blk.dead ++ [Blk.right 3] = S ++ (A ++ [Blk.dead] ++ [.right 3]) := by
    rw [List.set_append_right _ _ (by omega), Nat.add_sub_cancel_left, List.set_append_right _ _ (by omega), Nat.sub_self]; simp
  rw [e1, e2]
  exact h2

theorem l3SizeH_ok (l : List Fd) (hl : FdsB l) (b : Nat) (Y : List V) (S : List Blk) (hS : S[b]? = some (.cells 3 (fcs l ++ Y))) : VCall Try.prog 43 [.heap b l.length] S fun r S' => r = .int .i64 (fdsSize l) ∧ S' = S := by
  obtain ⟨hlen, hb⟩ := hl
  refine VCall.of_ev hDf (fun _ => false) (fun _ => []) (n := 19) Try.func43 rfl rfl Try.ntmps43 (by kernel_rfl) (by kernel_rfl) (congrArg Array.toList Try.results43) (by simp) ?_
  simp (implicitDefEqProofs := false) (disch := omega) only [push_cast, ↓guardK_tt, ↓guardK_ff, ↓guardK_tf, ↓guardK_ft, ↓condK_t, ↓condK_f, ↓reduceIte, Nat.reduceEqDiff, reduceCtorEq, Nat.reduceAdd, Nat.reduceSub, Nat.reduceMul, Nat.reduceLT, Nat.reduceLeDiff, Int.reduceToNat, Int.reduceLE, Int.reduceLT, Int.reduceEq, Int.reduceNe, Int.reduceAdd, Int.reduceSub, Nat.reduceBEq, Option.some.injEq]
  refine wpV_loop (fun m t S' => ∃ i : Nat, m = l.length - i ∧ i ≤ l.length ∧ t 0 = .heap b l.length ∧ t 3 = .int .i64 (fdsSize (l.take i)) ∧ t 4 = .int .i64 i ∧ S' = S) l.length ⟨0, by omega, by omega, rfl, rfl, rfl, rfl⟩ ?_
  rintro m t S' ⟨i, rfl, hi, h0, h3, h4, rfl⟩
  refine wpV_of hDf (fun _ => false) (fun _ => []) (by kernel_rfl) ?_
  have hsz := fdsSize_le (l.take i) (fun f hf => hb f (List.mem_of_mem_take hf))
  have hti : (l.take i).length ≤ 2000000 := by simp; omega
  simp (implicitDefEqProofs := false) (disch := omega) only [push_cast, h0, h3, h4, hS, ↓guardK_tt, ↓guardK_ff, ↓guardK_tf, ↓guardK_ft, ↓condK_t, ↓condK_f, ↓reduceIte, Nat.reduceEqDiff, reduceCtorEq, Nat.reduceAdd, Nat.reduceSub, Nat.reduceMul, Nat.reduceLT, Nat.reduceLeDiff, Int.reduceToNat, Int.reduceLE, Int.reduceLT, Int.reduceEq, Int.reduceNe, Int.reduceAdd, Int.reduceSub, Nat.reduceBEq, Option.some.injEq]
  refine ⟨fun h => ?_, fun h => fin0 ?_⟩
  · have hil : i < l.length := by omega
    have hfb := hb _ (getD_fd_mem hil)
    have hat := fcs_at hil Y
    generalize hg : l.getD i fd0 = g at hat hfb
    have hfl := fcs_len l
    refine ⟨by omega, by omega, by omega, ((l3One_ok g hfb S').as (by rw [hat]; rfl)).to ?_⟩
    have hone : fdSize g ≤ 4000004 := by obtain ⟨a, b⟩ := hfb; unfold fdSize; omega
    simp (implicitDefEqProofs := false) (disch := omega) only [push_cast, h0, h3, h4, ↓guardK_tt, ↓guardK_ff, ↓guardK_tf, ↓guardK_ft, ↓condK_t, ↓condK_f, ↓reduceIte, Nat.reduceEqDiff, reduceCtorEq, Nat.reduceAdd, Nat.reduceSub, Nat.reduceMul, Nat.reduceLT, Nat.reduceLeDiff, Int.reduceToNat, Int.reduceLE, Int.reduceLT, Int.reduceEq, Int.reduceNe, Int.reduceAdd, Int.reduceSub, Nat.reduceBEq, Option.some.injEq]
    refine ⟨l.length - (i + 1), by omega, i + 1, rfl, by omega, ?_, by simp⟩
    rw [take_fd hil, fdsSize_append, hg]
    simp
  · have : i = l.length := by omega
    subst this
    rw [List.take_length]

/-- A table without its eldest fields, as far as they must go. -/
def fitN (l : List Fd) (max : Int) : Nat → List Fd
  | 0 => l
  | n + 1 => if max < fdsSize l then fitN l.dropLast max n else l
def fitL (l : List Fd) (max : Int) : List Fd := fitN l max l.length

theorem l3Fit_ok (l : List Fd) (max : Int) (hl : FdsB l) (hm : 0 ≤ max) (S : List Blk) : VCall Try.prog 80 [tV l max] S fun r S' => r = .agg [.rows (some S.length) ((fitL l max).map fV), .int .i64 max] ∧ S' = S ++ [.right 3] := by
  refine VCall.of_ev hDf (fun _ => false) (fun id => if id = 2 then [1, 5, 5, 5, 5] else []) (n := 22) Try.func80 rfl rfl Try.ntmps80 (by kernel_rfl) (by kernel_rfl) (congrArg Array.toList Try.results80) (by simp) ?_
  obtain ⟨hlen, hb⟩ := hl
  simp (implicitDefEqProofs := false) (disch := omega) only [push_cast, ↓guardK_tt, ↓guardK_ff, ↓guardK_tf, ↓guardK_ft, ↓condK_t, ↓condK_f, ↓reduceIte, Nat.reduceEqDiff, reduceCtorEq, Nat.reduceAdd, Nat.reduceSub, Nat.reduceMul, Nat.reduceLT, Nat.reduceLeDiff, Int.reduceToNat, Int.reduceLE, Int.reduceLT, Int.reduceEq, Int.reduceNe, Int.reduceAdd, Int.reduceSub, Nat.reduceBEq, Option.some.injEq]
  refine ⟨by omega, ?_⟩
  refine wpV_loop (fun m t S' => ∃ w y : List Fd, m = w.length ∧ w ++ y = l ∧ fitL w max = fitL l max ∧ t 1 = .ptr S.length 0 ∧ t 2 = .ptr (S.length + 1) 0 ∧ t 3 = .heap (S.length + 3) w.length ∧ S' = S ++ [.cells 0 [.rows none (l.map fV), .int .i64 max], .cells 0 [.nils, .int .i64 0], .dead, .cells 3 (fcs w ++ fcs y)]) l.length ⟨l, [], rfl, by simp, rfl, rfl, rfl, rfl, by rw [fcs_of]; simp [fcs]⟩ ?_
  rintro m t S' ⟨w, y, rfl, hwy, hfit, h1, h2, h3, rfl⟩
  have hww : FdsB w := ⟨by have := congrArg List.length hwy; simp at this; omega, fun f hf => hb f (by rw [← hwy]; simp [hf])⟩
  have hwl := hww.1
  refine wpV_of hDf (fun _ => false) (fun id => if id = 2 then [1, 5, 5, 5, 5] else []) (by kernel_rfl) ?_
  simp (implicitDefEqProofs := false) (disch := omega) only [push_cast, h1, h2, h3, ↓guardK_tt, ↓guardK_ff, ↓guardK_tf, ↓guardK_ft, ↓condK_t, ↓condK_f, ↓reduceIte, Nat.reduceEqDiff, reduceCtorEq, Nat.reduceAdd, Nat.reduceSub, Nat.reduceMul, Nat.reduceLT, Nat.reduceLeDiff, Int.reduceToNat, Int.reduceLE, Int.reduceLT, Int.reduceEq, Int.reduceNe, Int.reduceAdd, Int.reduceSub, Nat.reduceBEq, Option.some.injEq]
  refine (l3SizeH_ok w hww (S.length + 3) (fcs y) _ (by simp)).to ?_
  simp (implicitDefEqProofs := false) (disch := omega) only [push_cast, h1, h2, h3, ↓guardK_tt, ↓guardK_ff, ↓guardK_tf, ↓guardK_ft, ↓condK_t, ↓condK_f, ↓reduceIte, Nat.reduceEqDiff, reduceCtorEq, Nat.reduceAdd, Nat.reduceSub, Nat.reduceMul, Nat.reduceLT, Nat.reduceLeDiff, Int.reduceToNat, Int.reduceLE, Int.reduceLT, Int.reduceEq, Int.reduceNe, Int.reduceAdd, Int.reduceSub, Nat.reduceBEq, Option.some.injEq]
  refine ⟨fun h => ?_, fun h => ?_⟩
  · have hne : w ≠ [] := fun e => by subst e; simp [fdsSize] at h; omega
    have hpos : 0 < w.length := List.length_pos_iff.2 hne
    have hdl : w.dropLast ++ [w.getLast hne] = w := List.dropLast_concat_getLast hne
    have hwy2 : w.dropLast ++ (w.getLast hne :: y) = l := by rw [← hwy]; conv => { rhs; rw [← hdl] }; rw [List.append_assoc]; rfl
    refine ⟨by omega, by omega, w.length - 1, by omega, w.dropLast, w.getLast hne :: y, by simp, hwy2, ?_, ?_, ?_⟩
    · rw [← hfit]
      unfold fitL
      obtain ⟨n, hn⟩ : ∃ n, w.length = n + 1 := ⟨w.length - 1, by omega⟩
      rw [hn, List.length_dropLast, hn, Nat.add_sub_cancel]
      rw [fitN, if_pos (by omega)]
    · simp
    · conv => { rhs; rw [show w.getLast hne :: y = [w.getLast hne] ++ y from rfl, fcs_app, ← List.append_assoc, ← fcs_app, hdl] }
  · have e : fitL l max = w := by
      rw [← hfit]
      unfold fitL
      cases hn : w.length with
      | zero => rfl
      | succ n => rw [fitN, if_neg (by omega)]
    rw [e]
    exact fit_end w max S [_, _, _] (fcs y)

theorem fitN_sub (l : List Fd) (max : Int) (n : Nat) : (∀ f ∈ fitN l max n, f ∈ l) ∧ (fitN l max n).length ≤ l.length := by
  induction n generalizing l with
  | zero => exact ⟨fun f h => h, Nat.le_refl _⟩
  | succ n ih =>
    rw [fitN]
    split
    · obtain ⟨h1, h2⟩ := ih l.dropLast
      exact ⟨fun f h => List.dropLast_subset _ (h1 f h), by simp at h2; omega⟩
    · exact ⟨fun f h => h, Nat.le_refl _⟩
theorem fitL_sub (l : List Fd) (max : Int) : (∀ f ∈ fitL l max, f ∈ l) ∧ (fitL l max).length ≤ l.length := fitN_sub _ _ _
theorem FdsB.fit {l : List Fd} (h : FdsB l) (max : Int) : FdsB (fitL l max) := by
  obtain ⟨h1, h2⟩ := fitL_sub l max
  exact ⟨Nat.le_trans h2 h.1, fun f hf => h.2 f (h1 f hf)⟩

theorem fit_step {w : List Fd} {max : Int} (hm : 0 ≤ max) (h : max < fdsSize w) : w ≠ [] ∧ fitL w.dropLast max = fitL w max := by
  have hne : w ≠ [] := fun e => by subst e; simp [fdsSize] at h; omega
  refine ⟨hne, ?_⟩
  have hpos : 0 < w.length := List.length_pos_iff.2 hne
  unfold fitL
  obtain ⟨n, hn⟩ : ∃ n, w.length = n + 1 := ⟨w.length - 1, by omega⟩
  rw [hn, List.length_dropLast, hn, Nat.add_sub_cancel]
  rw [fitN, if_pos h]
theorem fit_done {w : List Fd} {max : Int} (h : ¬ max < fdsSize w) : fitL w max = w := by
  unfold fitL
  cases hn : w.length with
  | zero => rfl
  | succ n => rw [fitN, if_neg h]

theorem fit_ok (l : List Fd) (max : Int) (hl : FdsB l) (hm : 0 ≤ max) (S : List Blk) : VCall Try.prog 58 [tV l max] S fun r S' => r = tV (fitL l max) max ∧ S' = S := by
  obtain ⟨hlen, hb⟩ := hl
  refine VCall.of_ev hD (fun _ => false) (fun id => if id = 2 then [1, 5, 5, 5, 5] else []) (n := 21) Try.func58 rfl rfl Try.ntmps58 (by kernel_rfl) (by kernel_rfl) (congrArg Array.toList Try.results58) (by simp) ?_
  simp (implicitDefEqProofs := false) (disch := omega) only [push_cast, ↓guardK_tt, ↓guardK_ff, ↓guardK_tf, ↓guardK_ft, ↓condK_t, ↓condK_f, ↓reduceIte, Nat.reduceEqDiff, reduceCtorEq, Nat.reduceAdd, Nat.reduceSub, Nat.reduceMul, Nat.reduceLT, Nat.reduceLeDiff, Int.reduceToNat, Int.reduceLE, Int.reduceLT, Int.reduceEq, Int.reduceNe, Int.reduceAdd, Int.reduceSub, Nat.reduceBEq, Option.some.injEq]
  refine (clone_ok l max (by omega) _).to ?_
  simp (implicitDefEqProofs := false) (disch := omega) only [push_cast, ↓guardK_tt, ↓guardK_ff, ↓guardK_tf, ↓guardK_ft, ↓condK_t, ↓condK_f, ↓reduceIte, Nat.reduceEqDiff, reduceCtorEq, Nat.reduceAdd, Nat.reduceSub, Nat.reduceMul, Nat.reduceLT, Nat.reduceLeDiff, Int.reduceToNat, Int.reduceLE, Int.reduceLT, Int.reduceEq, Int.reduceNe, Int.reduceAdd, Int.reduceSub, Nat.reduceBEq, Option.some.injEq]
  refine wpV_loop (fun m t S' => ∃ w y : List Fd, m = w.length ∧ w ++ y = l ∧ fitL w max = fitL l max ∧ t 2 = .ptr (S.length + 1) 0 ∧ t 3 = .ptr (S.length + 2) 0 ∧ S' = S ++ [.cells 0 [.rows none (l.map fV), .int .i64 max], .cells 0 [.nils, .int .i64 0], .cells 0 [.rows none (w.map fV), .int .i64 max]]) l.length ⟨l, [], rfl, by simp, rfl, rfl, rfl, by simp⟩ ?_
  rintro m t S' ⟨w, y, rfl, hwy, hfit, h2, h3, rfl⟩
  have hww : FdsB w := ⟨by have := congrArg List.length hwy; simp at this; omega, fun f hf => hb f (by rw [← hwy]; simp [hf])⟩
  have hwl := hww.1
  refine wpV_of hD (fun _ => false) (fun id => if id = 2 then [1, 5, 5, 5, 5] else []) (by kernel_rfl) ?_
  simp (implicitDefEqProofs := false) (disch := omega) only [push_cast, h2, h3, ↓guardK_tt, ↓guardK_ff, ↓guardK_tf, ↓guardK_ft, ↓condK_t, ↓condK_f, ↓reduceIte, Nat.reduceEqDiff, reduceCtorEq, Nat.reduceAdd, Nat.reduceSub, Nat.reduceMul, Nat.reduceLT, Nat.reduceLeDiff, Int.reduceToNat, Int.reduceLE, Int.reduceLT, Int.reduceEq, Int.reduceNe, Int.reduceAdd, Int.reduceSub, Nat.reduceBEq, Option.some.injEq]
  refine (size_ok w max hww _).to ?_
  simp (implicitDefEqProofs := false) (disch := omega) only [push_cast, h2, h3, ↓guardK_tt, ↓guardK_ff, ↓guardK_tf, ↓guardK_ft, ↓condK_t, ↓condK_f, ↓reduceIte, Nat.reduceEqDiff, reduceCtorEq, Nat.reduceAdd, Nat.reduceSub, Nat.reduceMul, Nat.reduceLT, Nat.reduceLeDiff, Int.reduceToNat, Int.reduceLE, Int.reduceLT, Int.reduceEq, Int.reduceNe, Int.reduceAdd, Int.reduceSub, Nat.reduceBEq, Option.some.injEq]
  refine ⟨fun h => ?_, fun h => ?_⟩
  · obtain ⟨hne, hst⟩ := fit_step hm h
    have hpos : 0 < w.length := List.length_pos_iff.2 hne
    have hdl : w.dropLast ++ [w.getLast hne] = w := List.dropLast_concat_getLast hne
    have hwy2 : w.dropLast ++ (w.getLast hne :: y) = l := by rw [← hwy]; conv => { rhs; rw [← hdl] }; rw [List.append_assoc]; rfl
    refine ⟨by omega, by omega, w.length - 1, by omega, w.dropLast, w.getLast hne :: y, by simp, hwy2, hst.trans hfit, ?_⟩
    rw [← List.map_take, show ((w.length : Int) - 1).toNat = w.length - 1 by omega, List.dropLast_eq_take]
  · refine (clone_ok w max (by omega) _).to ?_
    simp (implicitDefEqProofs := false) (disch := omega) only [push_cast, h2, h3, ↓guardK_tt, ↓guardK_ff, ↓guardK_tf, ↓guardK_ft, ↓condK_t, ↓condK_f, ↓reduceIte, Nat.reduceEqDiff, reduceCtorEq, Nat.reduceAdd, Nat.reduceSub, Nat.reduceMul, Nat.reduceLT, Nat.reduceLeDiff, Int.reduceToNat, Int.reduceLE, Int.reduceLT, Int.reduceEq, Int.reduceNe, Int.reduceAdd, Int.reduceSub, Nat.reduceBEq, Option.some.injEq]
    refine fin1 (cl_tab _ _ _) ?_
    rw [← hfit, fit_done h]

theorem l3Add_ok (l : List Fd) (max : Int) (f : Fd) (hl : FdsB l) (hf : FdB f) (hl1 : l.length ≤ 1000000) (hm : 0 ≤ max) (S : List Blk) : VCall Try.prog 61 [tV l max, fV f] S fun r S' => r = .agg [.rows (some S.length) ((fitL (⟨f.name, f.val, false⟩ :: l) max).map fV), .int .i64 max] ∧ S' = S ++ [.right 3] := by
  have hb : FdsB (⟨f.name, f.val, false⟩ :: l) := ⟨by simp; omega, fun g hg => by
    rcases List.mem_cons.1 hg with rfl | hg
    · exact hf
    · exact hl.2 g hg⟩
  refine VCall.of_ev hD (fun _ => false) (fun id => if id = 2 then [1, 4, 4, 4, 8, 8, 8, 8, 9, 10] else []) (n := 15) Try.func61 rfl rfl Try.ntmps61 (by kernel_rfl) (by kernel_rfl) (congrArg Array.toList Try.results61) (by simp) ?_
  simp (implicitDefEqProofs := false) (disch := omega) only [push_cast, ↓guardK_tt, ↓guardK_ff, ↓guardK_tf, ↓guardK_ft, ↓condK_t, ↓condK_f, ↓reduceIte, Nat.reduceEqDiff, reduceCtorEq, Nat.reduceAdd, Nat.reduceSub, Nat.reduceMul, Nat.reduceLT, Nat.reduceLeDiff, Int.reduceToNat, Int.reduceLE, Int.reduceLT, Int.reduceEq, Int.reduceNe, Int.reduceAdd, Int.reduceSub, Nat.reduceBEq, Option.some.injEq]
  refine ⟨by omega, ((l3Fit_ok (⟨f.name, f.val, false⟩ :: l) max hb hm _).as rfl).to ?_⟩
  simp (implicitDefEqProofs := false) (disch := omega) only [push_cast, ↓guardK_tt, ↓guardK_ff, ↓guardK_tf, ↓guardK_ft, ↓condK_t, ↓condK_f, ↓reduceIte, Nat.reduceEqDiff, reduceCtorEq, Nat.reduceAdd, Nat.reduceSub, Nat.reduceMul, Nat.reduceLT, Nat.reduceLeDiff, Int.reduceToNat, Int.reduceLE, Int.reduceLT, Int.reduceEq, Int.reduceNe, Int.reduceAdd, Int.reduceSub, Nat.reduceBEq, Option.some.injEq]
  exact keep_tab _ max S [_, _, _, _, _]

theorem add_ok' (l : List Fd) (max : Int) (f : Fd) (hl : FdsB l) (hf : FdB f) (hl1 : l.length ≤ 1000000) (hm : 0 ≤ max) (S : List Blk) : VCall Try.prog 29 [tV l max, fV f] S fun r S' => r = tV (fitL (f :: l) max) max ∧ S' = S := by
  have hb : FdsB (f :: l) := ⟨by simp; omega, fun g hg => by
    rcases List.mem_cons.1 hg with rfl | hg
    · exact hf
    · exact hl.2 g hg⟩
  refine VCall.of_ev hD (fun _ => false) (fun id => if id = 1 then [1, 4, 4, 4, 5, 9, 9, 9, 9, 10, 11] else []) (n := 15) Try.func29 rfl rfl Try.ntmps29 (by kernel_rfl) (by kernel_rfl) (congrArg Array.toList Try.results29) (by simp) ?_
  simp (implicitDefEqProofs := false) (disch := omega) only [push_cast, ↓guardK_tt, ↓guardK_ff, ↓guardK_tf, ↓guardK_ft, ↓condK_t, ↓condK_f, ↓reduceIte, Nat.reduceEqDiff, reduceCtorEq, Nat.reduceAdd, Nat.reduceSub, Nat.reduceMul, Nat.reduceLT, Nat.reduceLeDiff, Int.reduceToNat, Int.reduceLE, Int.reduceLT, Int.reduceEq, Int.reduceNe, Int.reduceAdd, Int.reduceSub, Nat.reduceBEq, Option.some.injEq]
  refine ((Concat_ok [f] l (by simp) (by omega) (by simp) _).as rfl).to ?_
  simp (implicitDefEqProofs := false) (disch := omega) only [push_cast, ↓guardK_tt, ↓guardK_ff, ↓guardK_tf, ↓guardK_ft, ↓condK_t, ↓condK_f, ↓reduceIte, Nat.reduceEqDiff, reduceCtorEq, Nat.reduceAdd, Nat.reduceSub, Nat.reduceMul, Nat.reduceLT, Nat.reduceLeDiff, Int.reduceToNat, Int.reduceLE, Int.reduceLT, Int.reduceEq, Int.reduceNe, Int.reduceAdd, Int.reduceSub, Nat.reduceBEq, Option.some.injEq]
  refine ((fit_ok (f :: l) max hb hm _).as rfl).to ?_
  simp (implicitDefEqProofs := false) (disch := omega) only [push_cast, ↓guardK_tt, ↓guardK_ff, ↓guardK_tf, ↓guardK_ft, ↓condK_t, ↓condK_f, ↓reduceIte, Nat.reduceEqDiff, reduceCtorEq, Nat.reduceAdd, Nat.reduceSub, Nat.reduceMul, Nat.reduceLT, Nat.reduceLeDiff, Int.reduceToNat, Int.reduceLE, Int.reduceLT, Int.reduceEq, Int.reduceNe, Int.reduceAdd, Int.reduceSub, Nat.reduceBEq, Option.some.injEq]
  exact fin1 (cl_tab _ _ _) rfl

end Go.Proofs.Ytblbaniokmgjgaa
