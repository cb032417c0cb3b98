/- A part of the proof: contracts of functions, or plain facts on which these lean. -/
import Derived.Test.YtodjmflbakfmjaaGreatDoorMaLwA
namespace Go.Proofs.YtodjmflbakfmjaaGreatDoor
open Go
set_option linter.unusedVariables false
set_option linter.unusedSimpArgs false
set_option maxRecDepth 100000
set_option maxHeartbeats 16000000

section
open Go
theorem endWriteM_ok {e : En} (h : endOk e = true) : endWriteM e = if e.bad then (e, []) else writeM e := by rw [endWriteM, if_neg (by rw [h]; simp)]
theorem say_up {w : Wo} (hok : woOk w = true) (h : w.up.length + (endWriteM w.caller).2.length ≤ 800) : worldDoM w ⟨3, 0, 0, [], []⟩ = { w with caller := (endWriteM w.caller).1, up := w.up ++ (endWriteM w.caller).2 } := by
 have h0 : worldDoM w ⟨3, 0, 0, [], []⟩ = sayWM w 0 := by rw [worldDoM, if_neg (by rw [hok]; simp)]; rfl
 have hE : endOk w.caller = true := by simp only [woOk, Bool.and_eq_true] at hok; exact hok.1.1.1.1.1
 rw [h0, sayWM, if_pos rfl, endWriteM_ok hE] at *
 cases hb : w.caller.bad
 ·rw [hb] at h
  rw [if_pos ⟨rfl, by simpa using h⟩]; simp
 ·simp
theorem say_down {w : Wo} (hok : woOk w = true) (h : w.down.length + (endWriteM w.answerer).2.length ≤ 800) : worldDoM w ⟨3, 1, 0, [], []⟩ = { w with answerer := (endWriteM w.answerer).1, down := w.down ++ (endWriteM w.answerer).2 } := by
 have h0 : worldDoM w ⟨3, 1, 0, [], []⟩ = sayWM w 1 := by rw [worldDoM, if_neg (by rw [hok]; simp)]; rfl
 have hE : endOk w.answerer = true := by simp only [woOk, Bool.and_eq_true] at hok; exact hok.1.1.1.1.2
 rw [h0, sayWM, if_neg (by decide), if_pos rfl, endWriteM_ok hE] at *
 cases hb : w.answerer.bad
 ·rw [hb] at h
  rw [if_pos ⟨rfl, by simpa using h⟩]; simp
 ·simp
theorem endWriteM_len {e : En} (h : endOk e = true) : (endWriteM e).2.length ≤ 1000000 := by
 rw [endWriteM_ok h]
 split
 ·simp
 ·have := writeM_len (endOk_w h); omega
theorem FnWorldWrite_ok (code : List UInt8) (S : List Blk) : VCall Tryz.prog 11 [.rows none (code.map u8V)] S fun r S' => r = .bool true := by
 refine VCall.ex hDe (fun _ => false) (fun id => if id = 5 then [4, 3, 3, 4, 8, 8, 8, 8, 11, 11, 11] else if id = 6 then [4, 3, 3, 4, 6, 6] else []) Tryz.func11 Tryz.ntmps11 Tryz.results11 ?_
 by_cases hc : (code.length : Int) > 1048576
 ·simp -implicitDefEqProofs (disch := omega) only [push_cast, simprocAttr, hc, ↓gd]
  exact ⟨_, _, Wk.refl _ _ _, rfl⟩
 simp -implicitDefEqProofs (disch := omega) only [push_cast, simprocAttr, hc, ↓gd]
 refine (DrawWorldDo_ok code (by omega) _).mono ?_
 rintro r S1 ⟨w, v, b, c, d, f, hw, hv, rfl, q1⟩
 have hB := hw.b
 simp -implicitDefEqProofs (disch := omega) only [push_cast, simprocAttr, ↓gd]
 refine ((WorldDo_ok hB v hv (q1.at_.app _)).as (by simp [wV, wC, enC, evV])).mono ?_
 rintro r S2 ⟨b2, c2, d2, f2, rfl, q2⟩
 have k5 : S2[S1.length]? = some (.cells 0 (wC b c d f w)) := q2.upd.get (by simp -implicitDefEqProofs (disch := omega) only [push_cast, simprocAttr, ↓gd]) (by simp)
 have k6 : S2[S1.length + 1]? = some (.cells 0 [.int .i64 v.kind, .int .i64 v.a, .int .i64 v.b, .str v.path, .str v.text]) := q2.upd.get (by simp -implicitDefEqProofs (disch := omega) only [push_cast, simprocAttr, ↓gd]) (by simp)
 have hat2 := (q1.at_.app _).upd0 q2.upd
 have l5 := lt_of_some k5
 have l6 := lt_of_some k6
 have hX := q2.at_
 have hXB := worldDoM_b hB v
 have hspec := fun (Z : List Blk) (q : WoAt Z b c d f w) => sWorldDo_ok hB v hv q
 generalize worldDoM w v = x at *
 simp -implicitDefEqProofs (disch := omega) only [push_cast, simprocAttr, k5, k6, ↓gd]
 refine ((hspec _ (hat2.app _)).as (by simp [wV, wC, enC, evV])).mono ?_
 rintro r S3 ⟨b3, c3, d3, f3, rfl, q3⟩
 have k5' := q3.upd.get (j := S1.length) (B := .cells 0 (wC b c d f w)) (by simp -implicitDefEqProofs (disch := omega) only [push_cast, simprocAttr, k5, ↓gd]) (by simp)
 have k6' := q3.upd.get (j := S1.length + 1) (B := .cells 0 [.int .i64 v.kind, .int .i64 v.a, .int .i64 v.b, .str v.path, .str v.text]) (by simp -implicitDefEqProofs (disch := omega) only [push_cast, simprocAttr, k6, ↓gd]) (by simp)
 have k7' := q3.upd.get (j := S2.length) (B := .cells 0 (wC b2 c2 d2 f2 x)) (by simp -implicitDefEqProofs (disch := omega) only [push_cast, simprocAttr, ↓gd]) (by simp)
 have hat3 := (hat2.app _).upd0 q3.upd
 have hX3 := (hX.app _).upd0 q3.upd
 simp -implicitDefEqProofs (disch := omega) only [push_cast, simprocAttr, k5, k6, k5', k6', k7', ↓gd]
 refine ((lkWorld_self hXB hX3 q3.at_).as (by simp [wV, wC, enC])).to ?_
 simp -implicitDefEqProofs (disch := omega) only [push_cast, simprocAttr, k5', k6', k7', ↓gd]
 refine ((sWorldOk_ok hB hat3).as (by simp [wV, wC, enC])).to ?_
 cases hE : woOk w
 ·simp -implicitDefEqProofs (disch := omega) only [push_cast, simprocAttr, k5', k6', k7', ↓gd]
  refine ((hspec _ hat3).as (by simp [wV, wC, enC, evV])).mono ?_
  rintro r S4 ⟨b4, c4, d4, f4, rfl, q4⟩
  have k7'' := q4.upd.get k7' (by simp)
  simp -implicitDefEqProofs (disch := omega) only [push_cast, simprocAttr, k5', k6', k7', k7'', ↓gd]
  refine ((lkWorld_self hXB (hX3.upd0 q4.upd) q4.at_).as (by simp [wV, wC, enC])).to ?_
  simp -implicitDefEqProofs (disch := omega) only [push_cast, simprocAttr, ↓gd]
  exact ⟨_, _, Wk.refl _ _ _, rfl⟩
 clear hspec
 have hp := hE
 simp only [woOk, Bool.and_eq_true] at hp
 have hl1 := endWriteM_len hp.1.1.1.1.1
 have hl2 := endWriteM_len hp.1.1.1.1.2
 clear hp
 have hYB := worldDoM_b hB ⟨3, 0, 0, [], []⟩
 have hZB := worldDoM_b hB ⟨3, 1, 0, [], []⟩
 have hcY := fun (Z : List Blk) (q : WoAt Z b c d f w) => WorldDo_ok hB ⟨3, 0, 0, [], []⟩ ⟨by simp, by simp⟩ q
 have hcZ := fun (Z : List Blk) (q : WoAt Z b c d f w) => WorldDo_ok hB ⟨3, 1, 0, [], []⟩ ⟨by simp, by simp⟩ q
 have hY := say_up hE
 have hZ := say_down hE
 have hw1 := fun (Z : List Blk) (q : EnAt Z b c w.caller) => EndWrite_ok hB.caller q
 have hw2 := fun (Z : List Blk) (q : EnAt Z d f w.answerer) => EndWrite_ok hB.answerer q
 generalize worldDoM w ⟨3, 0, 0, [], []⟩ = Y at *
 generalize worldDoM w ⟨3, 1, 0, [], []⟩ = Z at *
 have hul := hB.up
 have hdl := hB.down
 generalize endWriteM w.caller = C at *
 generalize endWriteM w.answerer = A at *
 obtain ⟨C, o⟩ := C
 obtain ⟨A, o'⟩ := A
 simp only at *
 simp -implicitDefEqProofs (disch := omega) only [push_cast, simprocAttr, k5', ↓gd]
 refine ((hcY _ hat3).as (by simp [wV, wC, enC, evV])).mono ?_
 rintro r S4 ⟨b4, c4, d4, f4, rfl, q4⟩
 have k54 := q4.upd.get k5' (by simp)
 have hat4 := hat3.upd0 q4.upd
 simp -implicitDefEqProofs (disch := omega) only [push_cast, simprocAttr, k54, ↓gd]
 refine ((hcZ _ (hat4.app _)).as (by simp [wV, wC, enC, evV])).mono ?_
 rintro r S5 ⟨b5, c5, d5, f5, rfl, q5⟩
 have k55 := q5.upd.get (j := S1.length) (B := .cells 0 (wC b c d f w)) (by simp -implicitDefEqProofs (disch := omega) only [push_cast, simprocAttr, k54, ↓gd]) (by simp)
 have m45 := q5.upd.get (j := S4.length) (B := .cells 0 (wC b4 c4 d4 f4 Y)) (by simp -implicitDefEqProofs (disch := omega) only [push_cast, simprocAttr, ↓gd]) (by simp)
 have hat5 := (hat4.app _).upd0 q5.upd
 have hY5 := (q4.at_.app _).upd0 q5.upd
 have l55 := lt_of_some k55
 have l45 := lt_of_some m45
 simp -implicitDefEqProofs (disch := omega) only [push_cast, simprocAttr, k55, ↓gd]
 refine ((hw1 _ (hat5.app _).caller).as (by simp [eV, enV, enC])).mono ?_
 rintro r S6 ⟨_, rfl, b6, c6, rfl, q6⟩
 have k56 := q6.upd.get (j := S1.length) (B := .cells 0 (wC b c d f w)) (by simp -implicitDefEqProofs (disch := omega) only [push_cast, simprocAttr, k55, ↓gd]) (by simp)
 have m46 := q6.upd.get (j := S4.length) (B := .cells 0 (wC b4 c4 d4 f4 Y)) (by simp -implicitDefEqProofs (disch := omega) only [push_cast, simprocAttr, m45, ↓gd]) (by simp)
 have m56 := q6.upd.get (j := S5.length) (B := .cells 0 (wC b5 c5 d5 f5 Z)) (by simp -implicitDefEqProofs (disch := omega) only [push_cast, simprocAttr, ↓gd]) (by simp)
 have hat6 := (hat5.app _).upd0 q6.upd
 have hY6 := (hY5.app _).upd0 q6.upd
 have hZ6 := (q5.at_.app _).upd0 q6.upd
 have l56 := lt_of_some k56
 have l46 := lt_of_some m46
 have l56' := lt_of_some m56
 simp -implicitDefEqProofs (disch := omega) only [push_cast, simprocAttr, k56, ↓gd]
 refine ((hw2 _ (hat6.app _).answerer).as (by simp [eV, enV, enC])).mono ?_
 rintro r S7 ⟨_, rfl, b7, c7, rfl, q7⟩
 have k57 := q7.upd.get (j := S1.length) (B := .cells 0 (wC b c d f w)) (by simp -implicitDefEqProofs (disch := omega) only [push_cast, simprocAttr, k56, ↓gd]) (by simp)
 have m47 := q7.upd.get (j := S4.length) (B := .cells 0 (wC b4 c4 d4 f4 Y)) (by simp -implicitDefEqProofs (disch := omega) only [push_cast, simprocAttr, m46, ↓gd]) (by simp)
 have m57 := q7.upd.get (j := S5.length) (B := .cells 0 (wC b5 c5 d5 f5 Z)) (by simp -implicitDefEqProofs (disch := omega) only [push_cast, simprocAttr, m56, ↓gd]) (by simp)
 have m67 := q7.upd.get (j := S6.length) (B := .cells 0 (enC (.heap b6 C.strs.length) (.heap c6 C.wait.length) C)) (by simp -implicitDefEqProofs (disch := omega) only [push_cast, simprocAttr, ↓gd]) (by simp)
 have hat7 := ((hat6.app _).upd0 q7.upd).app [.cells 0 (enC (.heap b7 A.strs.length) (.heap c7 A.wait.length) A)]
 have hY7 := ((hY6.app _).upd0 q7.upd).app [.cells 0 (enC (.heap b7 A.strs.length) (.heap c7 A.wait.length) A)]
 have hZ7 := ((hZ6.app _).upd0 q7.upd).app [.cells 0 (enC (.heap b7 A.strs.length) (.heap c7 A.wait.length) A)]
 have hC7 := ((q6.at_.upd (q7.app).upd (by simp) (by simp))).app [.cells 0 (enC (.heap b7 A.strs.length) (.heap c7 A.wait.length) A)]
 have hA7 := q7.at_.app [.cells 0 (enC (.heap b7 A.strs.length) (.heap c7 A.wait.length) A)]
 have l57 := lt_of_some k57
 have l47 := lt_of_some m47
 have l57' := lt_of_some m57
 have l67 := lt_of_some m67
 by_cases g1 : (w.up.length : Int) + o.length > 800
 ·simp -implicitDefEqProofs (disch := omega) only [push_cast, simprocAttr, k57, g1, ↓gd]
  repeat refine And.intro (by omega) ?_
  exact ⟨_, _, Wk.refl _ _ _, rfl⟩
 by_cases g2 : (w.down.length : Int) + o'.length > 800
 ·simp -implicitDefEqProofs (disch := omega) only [push_cast, simprocAttr, k57, g1, g2, ↓gd]
  repeat refine And.intro (by omega) ?_
  exact ⟨_, _, Wk.refl _ _ _, rfl⟩
 have hY := hY (by omega)
 have hZ := hZ (by omega)
 subst hY hZ
 simp -implicitDefEqProofs (disch := omega) only [push_cast, simprocAttr, k57, g1, g2, m47, m57, m67, ↓gd]
 repeat refine And.intro (by omega) ?_
 refine ((lkEnd_self hYB.caller hY7.caller hC7).as (by simp [eV, enV, enC])).to ?_
 simp -implicitDefEqProofs (disch := omega) only [push_cast, simprocAttr, k57, g1, g2, m47, m57, m67, decide_true, Bool.and_self, ↓gd]
 repeat refine And.intro (by omega) ?_
 refine ((lkEnd_self hB.answerer hY7.answerer hat7.answerer).as (by simp [eV, enV, enC])).to ?_
 simp -implicitDefEqProofs (disch := omega) only [push_cast, simprocAttr, k57, g1, g2, m47, m57, m67, decide_true, Bool.and_self, ↓gd]
 repeat refine And.intro (by omega) ?_
 refine ((lkEnd_self hZB.answerer hZ7.answerer hA7).as (by simp [eV, enV, enC])).to ?_
 simp -implicitDefEqProofs (disch := omega) only [push_cast, simprocAttr, k57, g1, g2, m47, m57, m67, decide_true, Bool.and_self, ↓gd]
 repeat refine And.intro (by omega) ?_
 refine ((lkEnd_self hB.caller hZ7.caller hat7.caller).as (by simp [eV, enV, enC])).to ?_
 simp -implicitDefEqProofs (disch := omega) only [push_cast, simprocAttr, k57, g1, g2, m47, m57, m67, ↓gd]
 exact ⟨_, _, Wk.refl _ _ _, rfl⟩
end
end Go.Proofs.YtodjmflbakfmjaaGreatDoor
