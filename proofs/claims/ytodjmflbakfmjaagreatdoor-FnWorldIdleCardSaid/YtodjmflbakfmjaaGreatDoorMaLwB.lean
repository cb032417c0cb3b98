/- A part of the proof: contracts of functions, or plain facts on which these lean. -/
import Derived.Test.YtodjmflbakfmjaaGreatDoorMaLwA
namespace Go.Proofs.YtodjmflbakfmjaaGreatDoor
open Go
set_option linter.unusedVariables false
set_option linter.unusedSimpArgs false
set_option maxRecDepth 100000
set_option maxHeartbeats 16000000

section
open Go
theorem idle_none {w : Wo} (v : Ev) (h : doM w v = w) (hok : woOk w = true) : worldDoM w v = w := by rw [worldDoM, if_neg (by rw [hok]; simp), h]
theorem atM_even {e : En} (h : endOk e = true) : atM e.strs 2 = none := by
 rw [atM, List.findIdx?_eq_none_iff]
 intro s hs
 obtain ⟨i, hi, rfl⟩ := List.getElem_of_mem hs
 have h1 : stsOk e.ans e.strs = true := by simp only [endOk, Bool.and_eq_true] at h; exact h.1.1.1.1.1.1
 have h2 := List.all_eq_true.1 h1 i (List.mem_range.2 hi)
 have e1 : e.strs.getD i st0 = e.strs[i] := by simp [List.getD, List.getElem?_eq_getElem hi]
 simp only [okAt, Bool.and_eq_true, e1, stOk, strmOk] at h2
 have h3 := h2.1.1.1.1.1.1.1.1.1.2
 simp only [decide_eq_true_eq] at h3
 simp only [decide_eq_false_iff_not]
 intro q; rw [q] at h3; revert h3; decide
theorem idle_all {w : Wo} (hok : woOk w = true) : worldDoM w ⟨5, 0, 0, [], []⟩ = w ∧ worldDoM w ⟨3, 2, 0, [], []⟩ = w ∧ worldDoM w ⟨4, 2, 5, [], []⟩ = w ∧ worldDoM w ⟨2, 2, 0, [], []⟩ = w ∧ worldDoM w ⟨4, 0, 91, [], []⟩ = w ∧ worldDoM w ⟨1, 0, 0, [65], []⟩ = w := by
 have hc : endOk w.caller = true := by simp only [woOk, Bool.and_eq_true] at hok; exact hok.1.1.1.1.1
 refine ⟨idle_none _ rfl hok, idle_none _ rfl hok, idle_none _ ?_ hok, idle_none _ ?_ hok, idle_none _ rfl hok, idle_none _ ?_ hok⟩
 ·simp [doM, passM]
 ·simp [doM, leaveM, atM_even hc]
 ·have : headOk (callHead [65] []) = false := by decide +kernel
  simp [doM, callM, this]
theorem FnWorldIdle_ok (code : List UInt8) (S : List Blk) : VCall Tryz.prog 8 [.rows none (code.map u8V)] S fun r S' => r = .bool true := by
 refine VCall.ex hDe (fun _ => false) (fun id => if id = 5 then [4, 3, 3, 4, 8, 8, 8, 8, 11, 11, 11] else if id = 6 then [4, 3, 3, 4, 6, 6] else []) Tryz.func8 Tryz.ntmps8 Tryz.results8 ?_
 by_cases hc : (code.length : Int) > 1048576
 ·simp -implicitDefEqProofs (disch := omega) only [push_cast, simprocAttr, hc, ↓gd]
  exact ⟨_, _, Wk.refl _ _ _, rfl⟩
 simp -implicitDefEqProofs (disch := omega) only [push_cast, simprocAttr, hc, ↓gd]
 refine (DrawWorldDo_ok code (by omega) _).mono ?_
 rintro r S1 ⟨w, v, b, c, d, f, hw, hv, rfl, q1⟩
 have hB := hw.b
 simp -implicitDefEqProofs (disch := omega) only [push_cast, simprocAttr, ↓gd]
 refine ((WorldDo_ok hB v hv (q1.at_.app _)).as (by simp [wV, wC, enC, evV])).mono ?_
 rintro r S2 ⟨b2, c2, d2, f2, rfl, q2⟩
 have k5 : S2[S1.length]? = some (.cells 0 (wC b c d f w)) := q2.upd.get (by simp -implicitDefEqProofs (disch := omega) only [push_cast, simprocAttr, ↓gd]) (by simp)
 have k6 : S2[S1.length + 1]? = some (.cells 0 [.int .i64 v.kind, .int .i64 v.a, .int .i64 v.b, .str v.path, .str v.text]) := q2.upd.get (by simp -implicitDefEqProofs (disch := omega) only [push_cast, simprocAttr, ↓gd]) (by simp)
 have hat2 := (q1.at_.app _).upd0 q2.upd
 have l5 := lt_of_some k5
 have l6 := lt_of_some k6
 have hX := q2.at_
 have hXB := worldDoM_b hB v
 have hspec := fun (Z : List Blk) (q : WoAt Z b c d f w) => sWorldDo_ok hB v hv q
 generalize worldDoM w v = x at *
 simp -implicitDefEqProofs (disch := omega) only [push_cast, simprocAttr, k5, k6, ↓gd]
 refine ((hspec _ (hat2.app _)).as (by simp [wV, wC, enC, evV])).mono ?_
 rintro r S3 ⟨b3, c3, d3, f3, rfl, q3⟩
 have k5' := q3.upd.get (j := S1.length) (B := .cells 0 (wC b c d f w)) (by simp -implicitDefEqProofs (disch := omega) only [push_cast, simprocAttr, k5, ↓gd]) (by simp)
 have k6' := q3.upd.get (j := S1.length + 1) (B := .cells 0 [.int .i64 v.kind, .int .i64 v.a, .int .i64 v.b, .str v.path, .str v.text]) (by simp -implicitDefEqProofs (disch := omega) only [push_cast, simprocAttr, k6, ↓gd]) (by simp)
 have k7' := q3.upd.get (j := S2.length) (B := .cells 0 (wC b2 c2 d2 f2 x)) (by simp -implicitDefEqProofs (disch := omega) only [push_cast, simprocAttr, ↓gd]) (by simp)
 have hat3 := (hat2.app _).upd0 q3.upd
 have hX3 := (hX.app _).upd0 q3.upd
 simp -implicitDefEqProofs (disch := omega) only [push_cast, simprocAttr, k5, k6, k5', k6', k7', ↓gd]
 refine ((lkWorld_self hXB hX3 q3.at_).as (by simp [wV, wC, enC])).to ?_
 simp -implicitDefEqProofs (disch := omega) only [push_cast, simprocAttr, k5', k6', k7', ↓gd]
 refine ((sWorldOk_ok hB hat3).as (by simp [wV, wC, enC])).to ?_
 cases hE : woOk w
 ·simp -implicitDefEqProofs (disch := omega) only [push_cast, simprocAttr, k5', k6', k7', ↓gd]
  refine ((hspec _ hat3).as (by simp [wV, wC, enC, evV])).mono ?_
  rintro r S4 ⟨b4, c4, d4, f4, rfl, q4⟩
  have k7'' := q4.upd.get k7' (by simp)
  simp -implicitDefEqProofs (disch := omega) only [push_cast, simprocAttr, k5', k6', k7', k7'', ↓gd]
  refine ((lkWorld_self hXB (hX3.upd0 q4.upd) q4.at_).as (by simp [wV, wC, enC])).to ?_
  simp -implicitDefEqProofs (disch := omega) only [push_cast, simprocAttr, ↓gd]
  exact ⟨_, _, Wk.refl _ _ _, rfl⟩
 clear hspec
 obtain ⟨i1, i2, i3, i4, i5, i6⟩ := idle_all hE
 have hdo := fun (v : Ev) (hv : EvB v) (hi : worldDoM w v = w) (Z : List Blk) (q : WoAt Z b c d f w) => hi ▸ WorldDo_ok hB v hv q
 simp -implicitDefEqProofs (disch := omega) only [push_cast, simprocAttr, k5', ↓gd]
 refine ((hdo _ ⟨by simp, by simp⟩ i1 _ hat3).as (by simp [wV, wC, enC, evV])).mono ?_
 rintro r S4 ⟨b4, c4, d4, f4, rfl, q4⟩
 have k54 := q4.upd.get k5' (by simp)
 have hat4 := hat3.upd0 q4.upd
 have hx4 := q4.at_
 simp -implicitDefEqProofs (disch := omega) only [push_cast, simprocAttr, k54, ↓gd]
 refine ((hdo _ ⟨by simp, by simp⟩ i2 _ (hat4.app _)).as (by simp [wV, wC, enC, evV])).mono ?_
 rintro r S5 ⟨b5, c5, d5, f5, rfl, q5⟩
 have k55 := q5.upd.get (j := S1.length) (B := .cells 0 (wC b c d f w)) (by simp -implicitDefEqProofs (disch := omega) only [push_cast, simprocAttr, k54, ↓gd]) (by simp)
 have m45 := q5.upd.get (j := S4.length) (B := .cells 0 (wC b4 c4 d4 f4 w)) (by simp -implicitDefEqProofs (disch := omega) only [push_cast, simprocAttr, ↓gd]) (by simp)
 have hat5 := (hat4.app _).upd0 q5.upd
 have hx4 := (hx4.app _).upd0 q5.upd
 have hx5 := q5.at_
 simp -implicitDefEqProofs (disch := omega) only [push_cast, simprocAttr, k55, ↓gd]
 refine ((hdo _ ⟨by simp, by simp⟩ i3 _ (hat5.app _)).as (by simp [wV, wC, enC, evV])).mono ?_
 rintro r S6 ⟨b6, c6, d6, f6, rfl, q6⟩
 have k56 := q6.upd.get (j := S1.length) (B := .cells 0 (wC b c d f w)) (by simp -implicitDefEqProofs (disch := omega) only [push_cast, simprocAttr, k55, ↓gd]) (by simp)
 have m46 := q6.upd.get (j := S4.length) (B := .cells 0 (wC b4 c4 d4 f4 w)) (by simp -implicitDefEqProofs (disch := omega) only [push_cast, simprocAttr, m45, ↓gd]) (by simp)
 have m56 := q6.upd.get (j := S5.length) (B := .cells 0 (wC b5 c5 d5 f5 w)) (by simp -implicitDefEqProofs (disch := omega) only [push_cast, simprocAttr, ↓gd]) (by simp)
 have hat6 := (hat5.app _).upd0 q6.upd
 have hx4 := (hx4.app _).upd0 q6.upd
 have hx5 := (hx5.app _).upd0 q6.upd
 have hx6 := q6.at_
 clear k55 m45
 simp -implicitDefEqProofs (disch := omega) only [push_cast, simprocAttr, k56, ↓gd]
 refine ((hdo _ ⟨by simp, by simp⟩ i4 _ (hat6.app _)).as (by simp [wV, wC, enC, evV])).mono ?_
 rintro r S7 ⟨b7, c7, d7, f7, rfl, q7⟩
 have k57 := q7.upd.get (j := S1.length) (B := .cells 0 (wC b c d f w)) (by simp -implicitDefEqProofs (disch := omega) only [push_cast, simprocAttr, k56, ↓gd]) (by simp)
 have m47 := q7.upd.get (j := S4.length) (B := .cells 0 (wC b4 c4 d4 f4 w)) (by simp -implicitDefEqProofs (disch := omega) only [push_cast, simprocAttr, m46, ↓gd]) (by simp)
 have m57 := q7.upd.get (j := S5.length) (B := .cells 0 (wC b5 c5 d5 f5 w)) (by simp -implicitDefEqProofs (disch := omega) only [push_cast, simprocAttr, m56, ↓gd]) (by simp)
 have m67 := q7.upd.get (j := S6.length) (B := .cells 0 (wC b6 c6 d6 f6 w)) (by simp -implicitDefEqProofs (disch := omega) only [push_cast, simprocAttr, ↓gd]) (by simp)
 have hat7 := (hat6.app _).upd0 q7.upd
 have hx4 := (hx4.app _).upd0 q7.upd
 have hx5 := (hx5.app _).upd0 q7.upd
 have hx6 := (hx6.app _).upd0 q7.upd
 have hx7 := q7.at_
 clear k56 m46 m56
 simp -implicitDefEqProofs (disch := omega) only [push_cast, simprocAttr, k57, ↓gd]
 refine ((hdo _ ⟨by simp, by simp⟩ i5 _ (hat7.app _)).as (by simp [wV, wC, enC, evV])).mono ?_
 rintro r S8 ⟨b8, c8, d8, f8, rfl, q8⟩
 have k58 := q8.upd.get (j := S1.length) (B := .cells 0 (wC b c d f w)) (by simp -implicitDefEqProofs (disch := omega) only [push_cast, simprocAttr, k57, ↓gd]) (by simp)
 have m48 := q8.upd.get (j := S4.length) (B := .cells 0 (wC b4 c4 d4 f4 w)) (by simp -implicitDefEqProofs (disch := omega) only [push_cast, simprocAttr, m47, ↓gd]) (by simp)
 have m58 := q8.upd.get (j := S5.length) (B := .cells 0 (wC b5 c5 d5 f5 w)) (by simp -implicitDefEqProofs (disch := omega) only [push_cast, simprocAttr, m57, ↓gd]) (by simp)
 have m68 := q8.upd.get (j := S6.length) (B := .cells 0 (wC b6 c6 d6 f6 w)) (by simp -implicitDefEqProofs (disch := omega) only [push_cast, simprocAttr, m67, ↓gd]) (by simp)
 have m78 := q8.upd.get (j := S7.length) (B := .cells 0 (wC b7 c7 d7 f7 w)) (by simp -implicitDefEqProofs (disch := omega) only [push_cast, simprocAttr, ↓gd]) (by simp)
 have hat8 := (hat7.app _).upd0 q8.upd
 have hx4 := (hx4.app _).upd0 q8.upd
 have hx5 := (hx5.app _).upd0 q8.upd
 have hx6 := (hx6.app _).upd0 q8.upd
 have hx7 := (hx7.app _).upd0 q8.upd
 have hx8 := q8.at_
 clear k57 m47 m57 m67
 simp -implicitDefEqProofs (disch := omega) only [push_cast, simprocAttr, k58, ↓gd]
 refine ((hdo _ ⟨by simp, by simp⟩ i6 _ (hat8.app _)).as (by simp [wV, wC, enC, evV])).mono ?_
 rintro r S9 ⟨b9, c9, d9, f9, rfl, q9⟩
 have k59 := q9.upd.get (j := S1.length) (B := .cells 0 (wC b c d f w)) (by simp -implicitDefEqProofs (disch := omega) only [push_cast, simprocAttr, k58, ↓gd]) (by simp)
 have m49 := q9.upd.get (j := S4.length) (B := .cells 0 (wC b4 c4 d4 f4 w)) (by simp -implicitDefEqProofs (disch := omega) only [push_cast, simprocAttr, m48, ↓gd]) (by simp)
 have m59 := q9.upd.get (j := S5.length) (B := .cells 0 (wC b5 c5 d5 f5 w)) (by simp -implicitDefEqProofs (disch := omega) only [push_cast, simprocAttr, m58, ↓gd]) (by simp)
 have m69 := q9.upd.get (j := S6.length) (B := .cells 0 (wC b6 c6 d6 f6 w)) (by simp -implicitDefEqProofs (disch := omega) only [push_cast, simprocAttr, m68, ↓gd]) (by simp)
 have m79 := q9.upd.get (j := S7.length) (B := .cells 0 (wC b7 c7 d7 f7 w)) (by simp -implicitDefEqProofs (disch := omega) only [push_cast, simprocAttr, m78, ↓gd]) (by simp)
 have m89 := q9.upd.get (j := S8.length) (B := .cells 0 (wC b8 c8 d8 f8 w)) (by simp -implicitDefEqProofs (disch := omega) only [push_cast, simprocAttr, ↓gd]) (by simp)
 have hat9 := ((hat8.app _).upd0 q9.upd).app [.cells 0 (wC b9 c9 d9 f9 w)]
 have hx4 := ((hx4.app _).upd0 q9.upd).app [.cells 0 (wC b9 c9 d9 f9 w)]
 have hx5 := ((hx5.app _).upd0 q9.upd).app [.cells 0 (wC b9 c9 d9 f9 w)]
 have hx6 := ((hx6.app _).upd0 q9.upd).app [.cells 0 (wC b9 c9 d9 f9 w)]
 have hx7 := ((hx7.app _).upd0 q9.upd).app [.cells 0 (wC b9 c9 d9 f9 w)]
 have hx8 := ((hx8.app _).upd0 q9.upd).app [.cells 0 (wC b9 c9 d9 f9 w)]
 have hx9 := q9.at_.app [.cells 0 (wC b9 c9 d9 f9 w)]
 clear k58 m48 m58 m68 m78
 simp -implicitDefEqProofs (disch := omega) only [push_cast, simprocAttr, k59, m49, m59, m69, m79, m89, ↓gd]
 refine ((lkWorld_self hB hx4 hat9).as (by simp [wV, wC, enC])).to ?_
 simp -implicitDefEqProofs (disch := omega) only [push_cast, simprocAttr, k59, m49, m59, m69, m79, m89, ↓gd]
 refine ((lkWorld_self hB hx5 hat9).as (by simp [wV, wC, enC])).to ?_
 simp -implicitDefEqProofs (disch := omega) only [push_cast, simprocAttr, k59, m49, m59, m69, m79, m89, ↓gd]
 refine ((lkWorld_self hB hx6 hat9).as (by simp [wV, wC, enC])).to ?_
 simp -implicitDefEqProofs (disch := omega) only [push_cast, simprocAttr, k59, m49, m59, m69, m79, m89, ↓gd]
 refine ((lkWorld_self hB hx7 hat9).as (by simp [wV, wC, enC])).to ?_
 simp -implicitDefEqProofs (disch := omega) only [push_cast, simprocAttr, k59, m49, m59, m69, m79, m89, ↓gd]
 refine ((lkWorld_self hB hx8 hat9).as (by simp [wV, wC, enC])).to ?_
 simp -implicitDefEqProofs (disch := omega) only [push_cast, simprocAttr, k59, m49, m59, m69, m79, m89, ↓gd]
 refine ((lkWorld_self hB hx9 hat9).as (by simp [wV, wC, enC])).to ?_
 simp -implicitDefEqProofs (disch := omega) only [push_cast, simprocAttr, k59, m49, m59, m69, m79, m89, ↓gd]
 exact ⟨_, _, Wk.refl _ _ _, rfl⟩
end
end Go.Proofs.YtodjmflbakfmjaaGreatDoor
