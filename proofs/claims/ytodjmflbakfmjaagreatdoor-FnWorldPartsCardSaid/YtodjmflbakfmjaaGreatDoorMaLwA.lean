/- A part of the proof: contracts of functions, or plain facts on which these lean. -/
import Derived.Test.YtodjmflbakfmjaaGreatDoorMa39
namespace Go.Proofs.YtodjmflbakfmjaaGreatDoor
open Go
set_option linter.unusedVariables false
set_option linter.unusedSimpArgs false
set_option maxRecDepth 100000
set_option maxHeartbeats 16000000

section
open Go
theorem WoAt.upd0 {S S' : List Blk} {b c d f : Nat} {w : Wo} (h : WoAt S b c d f w) (hu : Upd [] S S') : WoAt S' b c d f w := ⟨h.caller.upd hu (by simp) (by simp), h.answerer.upd hu (by simp) (by simp), h.ne1, h.ne2⟩
theorem worldDoM_b {w : Wo} (hB : WoB w) (v : Ev) : WoB (worldDoM w v) := by
 rw [worldDoM]
 split
 ·exact ⟨⟨by simp [wo0, en0], by simp [wo0, en0], by simp [wo0, en0], ⟨by simp [wo0, en0], by simp [wo0, en0]⟩, ⟨by simp [wo0, en0], by simp [wo0, en0]⟩, by simp [wo0, en0]⟩, ⟨by simp [wo0, en0], by simp [wo0, en0], by simp [wo0, en0], ⟨by simp [wo0, en0], by simp [wo0, en0]⟩, ⟨by simp [wo0, en0], by simp [wo0, en0]⟩, by simp [wo0, en0]⟩, by simp [wo0], by simp [wo0]⟩
 ·rename_i h
  have hE : woOk w = true := by cases hq : woOk w <;> simp_all
  exact (doM_w ((woOk_w hE).mono (show 60 ≤ 642 by decide)) (by decide) v).b (by decide)
theorem pass_up {w : Wo} (hok : woOk w = true) (n : Nat) (hn : n ≤ 90) : doM w ⟨4, 0, n, [], []⟩ = { w with answerer := endHearM w.answerer (w.up.take (min n w.up.length)), up := w.up.drop (min n w.up.length) } := by
 have h2 := (woOk_parts hok).2
 have e1 : w.up.take (min n w.up.length) = w.up.take n := by rw [List.take_eq_take_iff]; omega
 have e2 : w.up.drop (min n w.up.length) = w.up.drop n := by rw [List.drop_eq_drop_iff]; omega
 rw [e1, e2, endHearM, if_neg (by rw [h2, List.length_take]; rintro (q | q); cases q; omega), ← passM_do, passM, if_pos ⟨by omega, by omega⟩, if_pos rfl]
 simp
theorem pass_down {w : Wo} (hok : woOk w = true) (n : Nat) (hn : n ≤ 90) : doM w ⟨4, 1, n, [], []⟩ = { w with caller := endHearM w.caller (w.down.take (min n w.down.length)), down := w.down.drop (min n w.down.length) } := by
 have h2 := (woOk_parts hok).1
 have e1 : w.down.take (min n w.down.length) = w.down.take n := by rw [List.take_eq_take_iff]; omega
 have e2 : w.down.drop (min n w.down.length) = w.down.drop n := by rw [List.drop_eq_drop_iff]; omega
 rw [e1, e2, endHearM, if_neg (by rw [h2, List.length_take]; rintro (q | q); cases q; omega), ← passM_do, passM, if_pos ⟨by omega, by omega⟩, if_neg (by decide), if_pos rfl]
 simp
theorem FnWorldPass_ok (code more : List UInt8) (S : List Blk) : VCall Tryz.prog 10 [.rows none (code.map u8V), .rows none (more.map u8V)] S fun r S' => r = .bool true := by
 refine VCall.ex hDe (fun _ => false) (fun id => if id = 5 then [4, 3, 3, 4, 8, 8, 8, 8, 11, 11, 11] else if id = 6 then [4, 3, 3, 4, 6, 6] else if id = 12 then [9, 9, 8, 8, 8, 8, 8, 8, 9, 24, 24, 24, 24, 24, 24, 24, 24, 24, 24, 24, 24, 24, 24, 24, 35, 35, 35, 36, 36, 35, 35, 35, 35, 35, 35, 36, 52, 52, 52, 52, 52, 52, 52, 52, 52, 52, 52, 52, 52, 52, 52, 52, 55, 55, 55] else []) Tryz.func10 Tryz.ntmps10 Tryz.results10 ?_
 by_cases hc : (code.length : Int) > 1048576
 ·simp -implicitDefEqProofs (maxSteps := 1000000) (disch := omega) only [push_cast, simprocAttr, hc, ↓gd]
  exact ⟨_, _, Wk.refl _ _ _, rfl⟩
 by_cases hc2 : (more.length : Int) > 1048576
 ·simp -implicitDefEqProofs (maxSteps := 1000000) (disch := omega) only [push_cast, simprocAttr, hc, hc2, ↓gd]
  exact ⟨_, _, Wk.refl _ _ _, rfl⟩
 simp -implicitDefEqProofs (maxSteps := 1000000) (disch := omega) only [push_cast, simprocAttr, hc, hc2, ↓gd]
 refine (DrawWorldDo_ok code (by omega) _).mono ?_
 rintro r S1 ⟨w, v, b, c, d, f, hw, hv, rfl, q1⟩
 have hB := hw.b
 simp -implicitDefEqProofs (maxSteps := 1000000) (disch := omega) only [push_cast, simprocAttr, ↓gd]
 refine ((WorldDo_ok hB v hv (q1.at_.app _)).as (by simp [wV, wC, enC, evV])).mono ?_
 rintro r S2 ⟨b2, c2, d2, f2, rfl, q2⟩
 have k5 : S2[S1.length]? = some (.cells 0 (wC b c d f w)) := q2.upd.get (by simp -implicitDefEqProofs (maxSteps := 1000000) (disch := omega) only [push_cast, simprocAttr, ↓gd]) (by simp)
 have k6 : S2[S1.length + 1]? = some (.cells 0 [.int .i64 v.kind, .int .i64 v.a, .int .i64 v.b, .str v.path, .str v.text]) := q2.upd.get (by simp -implicitDefEqProofs (maxSteps := 1000000) (disch := omega) only [push_cast, simprocAttr, ↓gd]) (by simp)
 have hat2 := (q1.at_.app _).upd0 q2.upd
 have l5 := lt_of_some k5
 have l6 := lt_of_some k6
 have hX := q2.at_
 have hXB := worldDoM_b hB v
 have hdo : woOk w = true → worldDoM w v = doM w v := fun h => by rw [worldDoM, if_neg (by rw [h]; simp)]
 have hspec := fun (Z : List Blk) (q : WoAt Z b c d f w) => sWorldDo_ok hB v hv q
 generalize worldDoM w v = x at *
 simp -implicitDefEqProofs (maxSteps := 1000000) (disch := omega) only [push_cast, simprocAttr, k5, k6, ↓gd]
 refine ((hspec _ (hat2.app _)).as (by simp [wV, wC, enC, evV])).mono ?_
 rintro r S3 ⟨b3, c3, d3, f3, rfl, q3⟩
 have k5' := q3.upd.get (j := S1.length) (B := .cells 0 (wC b c d f w)) (by simp -implicitDefEqProofs (maxSteps := 1000000) (disch := omega) only [push_cast, simprocAttr, k5, ↓gd]) (by simp)
 have k6' := q3.upd.get (j := S1.length + 1) (B := .cells 0 [.int .i64 v.kind, .int .i64 v.a, .int .i64 v.b, .str v.path, .str v.text]) (by simp -implicitDefEqProofs (maxSteps := 1000000) (disch := omega) only [push_cast, simprocAttr, k6, ↓gd]) (by simp)
 have k7' := q3.upd.get (j := S2.length) (B := .cells 0 (wC b2 c2 d2 f2 x)) (by simp -implicitDefEqProofs (maxSteps := 1000000) (disch := omega) only [push_cast, simprocAttr, ↓gd]) (by simp)
 have hat3 := (hat2.app _).upd0 q3.upd
 have hX3 := (hX.app _).upd0 q3.upd
 simp -implicitDefEqProofs (maxSteps := 1000000) (disch := omega) only [push_cast, simprocAttr, k5, k6, k5', k6', k7', ↓gd]
 refine ((lkWorld_self hXB hX3 q3.at_).as (by simp [wV, wC, enC])).to ?_
 simp -implicitDefEqProofs (maxSteps := 1000000) (disch := omega) only [push_cast, simprocAttr, k5', k6', k7', ↓gd]
 refine ((sWorldOk_ok hB hat3).as (by simp [wV, wC, enC])).to ?_
 cases hE : woOk w
 ·simp -implicitDefEqProofs (maxSteps := 1000000) (disch := omega) only [push_cast, simprocAttr, k5', k6', k7', ↓gd]
  refine ((hspec _ hat3).as (by simp [wV, wC, enC, evV])).mono ?_
  rintro r S4 ⟨b4, c4, d4, f4, rfl, q4⟩
  have k7'' := q4.upd.get k7' (by simp)
  simp -implicitDefEqProofs (maxSteps := 1000000) (disch := omega) only [push_cast, simprocAttr, k5', k6', k7', k7'', ↓gd]
  refine ((lkWorld_self hXB (hX3.upd0 q4.upd) q4.at_).as (by simp [wV, wC, enC])).to ?_
  simp -implicitDefEqProofs (maxSteps := 1000000) (disch := omega) only [push_cast, simprocAttr, ↓gd]
  exact ⟨_, _, Wk.refl _ _ _, rfl⟩
 have hn : more.length % 91 ≤ 90 := by omega
 have htm : Int.tmod (more.length : Int) 91 = ((more.length % 91 : Nat) : Int) := tmod_nat more.length 91
 generalize more.length % 91 = n at hn htm
 clear hspec
 have hYB := worldDoM_b hB ⟨4, 0, n, [], []⟩
 have hZB := worldDoM_b hB ⟨4, 1, n, [], []⟩
 have hcY := fun (Z : List Blk) (q : WoAt Z b c d f w) => WorldDo_ok hB ⟨4, 0, n, [], []⟩ ⟨by simp, by simp⟩ q
 have hcZ := fun (Z : List Blk) (q : WoAt Z b c d f w) => WorldDo_ok hB ⟨4, 1, n, [], []⟩ ⟨by simp, by simp⟩ q
 have hY : worldDoM w ⟨4, 0, n, [], []⟩ = _ := (show _ = doM w ⟨4, 0, n, [], []⟩ by rw [worldDoM, if_neg (by rw [hE]; simp)]).trans (pass_up hE n hn)
 have hZ : worldDoM w ⟨4, 1, n, [], []⟩ = _ := (show _ = doM w ⟨4, 1, n, [], []⟩ by rw [worldDoM, if_neg (by rw [hE]; simp)]).trans (pass_down hE n hn)
 generalize hy : worldDoM w ⟨4, 0, n, [], []⟩ = Y at *
 generalize hz : worldDoM w ⟨4, 1, n, [], []⟩ = Z at *
 have y1 : Y.answerer = endHearM w.answerer (w.up.take (min n w.up.length)) := by rw [hY]
 have y2 : Y.up = w.up.drop (min n w.up.length) := by rw [hY]
 have y3 : Y.caller = w.caller := by rw [hY]
 have z1 : Z.caller = endHearM w.caller (w.down.take (min n w.down.length)) := by rw [hZ]
 have z2 : Z.down = w.down.drop (min n w.down.length) := by rw [hZ]
 have z3 : Z.answerer = w.answerer := by rw [hZ]
 clear hY hZ hy hz
 have hul := hB.up
 have hdl := hB.down
 have hh1 := fun (T : List Blk) (q : EnAt T d f w.answerer) => EndHear_ok hB.answerer (w.up.take (min n w.up.length)) (by rw [List.length_take]; omega) q
 have hh2 := fun (T : List Blk) (q : EnAt T b c w.caller) => EndHear_ok hB.caller (w.down.take (min n w.down.length)) (by rw [List.length_take]; omega) q
 rw [← y1] at hh1
 rw [← z1] at hh2
 have m1 : (if (w.up.length : Int) < n then (w.up.length : Int) else (n : Int)) = ((min n w.up.length : Nat) : Int) := by omega
 have m2 : (if (w.down.length : Int) < n then (w.down.length : Int) else (n : Int)) = ((min n w.down.length : Nat) : Int) := by omega
 have m3 : min n w.up.length ≤ w.up.length := by omega
 have m4 : min n w.down.length ≤ w.down.length := by omega
 generalize min n w.up.length = k1 at *
 generalize min n w.down.length = k2 at *
 simp -implicitDefEqProofs (maxSteps := 1000000) (disch := omega) only [push_cast, simprocAttr, k5', htm, ↓gd]
 refine ((hcY _ hat3).as (by simp [wV, wC, enC, evV])).mono ?_
 rintro r S4 ⟨b4, c4, d4, f4, rfl, q4⟩
 have k54 := q4.upd.get k5' (by simp)
 have hat4 := hat3.upd0 q4.upd
 simp -implicitDefEqProofs (maxSteps := 1000000) (disch := omega) only [push_cast, simprocAttr, k54, ↓gd]
 refine ((hcZ _ (hat4.app _)).as (by simp [wV, wC, enC, evV])).mono ?_
 rintro r S5 ⟨b5, c5, d5, f5, rfl, q5⟩
 have k55 := q5.upd.get (j := S1.length) (B := .cells 0 (wC b c d f w)) (by simp -implicitDefEqProofs (maxSteps := 1000000) (disch := omega) only [push_cast, simprocAttr, k54, ↓gd]) (by simp)
 have k95 := q5.upd.get (j := S4.length) (B := .cells 0 (wC b4 c4 d4 f4 Y)) (by simp -implicitDefEqProofs (maxSteps := 1000000) (disch := omega) only [push_cast, simprocAttr, ↓gd]) (by simp)
 have hat5 := (hat4.app _).upd0 q5.upd
 have hY5 := (q4.at_.app _).upd0 q5.upd
 have l55 := lt_of_some k55
 have l95 := lt_of_some k95
 simp -implicitDefEqProofs (maxSteps := 1000000) (disch := omega) only [push_cast, simprocAttr, k55, k95, m1, m2, ↓gd]
 repeat refine And.intro (by omega) ?_
 refine ((hh1 _ (hat5.app _).answerer).as (by simp [eV, enV, enC])).mono ?_
 rintro r S6 ⟨d6, f6, rfl, q6⟩
 have k56 := q6.upd.get (j := S1.length) (B := .cells 0 (wC b c d f w)) (by simp -implicitDefEqProofs (maxSteps := 1000000) (disch := omega) only [push_cast, simprocAttr, k55, ↓gd]) (by simp)
 have k96 := q6.upd.get (j := S4.length) (B := .cells 0 (wC b4 c4 d4 f4 Y)) (by simp -implicitDefEqProofs (maxSteps := 1000000) (disch := omega) only [push_cast, simprocAttr, k95, ↓gd]) (by simp)
 have k06 := q6.upd.get (j := S5.length) (B := .cells 0 (wC b5 c5 d5 f5 Z)) (by simp -implicitDefEqProofs (maxSteps := 1000000) (disch := omega) only [push_cast, simprocAttr, ↓gd]) (by simp)
 have hat6 := (hat5.app _).upd0 q6.upd
 have hY6 := (hY5.app _).upd0 q6.upd
 have hZ6 := (q5.at_.app _).upd0 q6.upd
 have y2' := eq_true y2
 have z2' := eq_true z2
 simp -implicitDefEqProofs (maxSteps := 1000000) (disch := omega) only [push_cast, simprocAttr, k55, k95, k56, k96, k06, m1, m2, ↓gd]
 refine ((lkEnd_self hYB.answerer hY6.answerer q6.at_).as (by simp [eV, enV, enC])).to ?_
 simp -implicitDefEqProofs (maxSteps := 1000000) (disch := omega) only [push_cast, simprocAttr, k55, k95, k56, k96, k06, m1, m2, List.take_length, y2', ↓gd]
 repeat refine And.intro (by omega) ?_
 refine ((lkEnd_self (e := w.caller) hB.caller (by rw [← y3]; exact hY6.caller) hat6.caller).as (by simp [eV, enV, enC, y3])).to ?_
 simp -implicitDefEqProofs (maxSteps := 1000000) (disch := omega) only [push_cast, simprocAttr, k55, k95, k56, k96, k06, m1, m2, ↓gd]
 repeat refine And.intro (by omega) ?_
 refine ((hh2 _ hat6.caller).as (by simp [eV, enV, enC])).mono ?_
 rintro r S7 ⟨b7, c7, rfl, q7⟩
 have k57 := q7.upd.get k56 (by simp)
 have k97 := q7.upd.get k96 (by simp)
 have k07 := q7.upd.get k06 (by simp)
 have hat7 := hat6.upd0 q7.upd
 have hZ7 := hZ6.upd0 q7.upd
 simp -implicitDefEqProofs (maxSteps := 1000000) (disch := omega) only [push_cast, simprocAttr, k55, k95, k56, k96, k06, k57, k97, k07, m1, m2, ↓gd]
 refine ((lkEnd_self hZB.caller hZ7.caller q7.at_).as (by simp [eV, enV, enC])).to ?_
 simp -implicitDefEqProofs (maxSteps := 1000000) (disch := omega) only [push_cast, simprocAttr, k55, k95, k56, k96, k06, k57, k97, k07, m1, m2, List.take_length, z2', ↓gd]
 repeat refine And.intro (by omega) ?_
 refine ((lkEnd_self (e := w.answerer) hB.answerer (by rw [← z3]; exact hZ7.answerer) hat7.answerer).as (by simp [eV, enV, enC, z3])).to ?_
 simp -implicitDefEqProofs (maxSteps := 1000000) (disch := omega) only [push_cast, simprocAttr, k55, k95, k56, k96, k06, k57, k97, k07, m1, m2, ↓gd]
 exact ⟨_, _, Wk.refl _ _ _, rfl⟩
end
end Go.Proofs.YtodjmflbakfmjaaGreatDoor
