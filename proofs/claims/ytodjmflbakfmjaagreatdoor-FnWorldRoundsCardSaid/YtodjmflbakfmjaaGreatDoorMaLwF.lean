/- A part of the proof: contracts of functions, or plain facts on which these lean. -/
import Derived.Test.YtodjmflbakfmjaaGreatDoorMa39
import Derived.Test.YtodjmflbakfmjaaGreatDoorMaLwA
namespace Go.Proofs.YtodjmflbakfmjaaGreatDoor
open Go
set_option linter.unusedVariables false
set_option linter.unusedSimpArgs false
set_option maxRecDepth 100000
set_option maxHeartbeats 16000000

section
open Go
theorem WoAll.pass {w : Wo} (h : WoAll w) (way : Int) : WoAll (passM w way 90) := by rw [passM_do]; exact h.step _
theorem WoAll.allM {w : Wo} (way : Int) : ∀ (n : Nat) (w : Wo), WoAll w → WoAll (allM n w way)
 | 0, w, h => h
 | n + 1, w, h => by
  rw [allM_succ]
  split
  ·exact h.pass way
  ·exact WoAll.allM (w := w) way n _ (h.pass way)
theorem WoAll.round {w : Wo} (h : WoAll w) : WoAll (roundM w) := by
 have h1 : WoAll (sayWM w 0) := by rw [sayWM_do]; exact h.step _
 have h2 := WoAll.allM (w := w) 0 12 _ h1
 have h3 : WoAll (sayWM (Go.Proofs.YtodjmflbakfmjaaGreatDoor.allM 12 (sayWM w 0) 0) 1) := by rw [sayWM_do]; exact h2.step _
 exact WoAll.allM (w := w) 1 12 _ h3
theorem WoAll.rounds : ∀ (n : Nat) (w : Wo), WoAll w → WoAll (roundsM n w)
 | 0, w, h => h
 | n + 1, w, h => WoAll.rounds n _ h.round
theorem roundsM_add : ∀ (n m : Nat) (w : Wo), roundsM (n + m) w = roundsM m (roundsM n w)
 | 0, m, w => by rw [Nat.zero_add]; rfl
 | n + 1, m, w => by rw [show n + 1 + m = (n + m) + 1 by omega]; exact roundsM_add n m (roundM w)
theorem wo0_b : WoB wo0 := ⟨⟨by simp [wo0, en0], by simp [wo0, en0], by simp [wo0, en0], ⟨by simp [wo0, en0], by simp [wo0, en0]⟩, ⟨by simp [wo0, en0], by simp [wo0, en0]⟩, by simp [wo0, en0]⟩, ⟨by simp [wo0, en0], by simp [wo0, en0], by simp [wo0, en0], ⟨by simp [wo0, en0], by simp [wo0, en0]⟩, ⟨by simp [wo0, en0], by simp [wo0, en0]⟩, by simp [wo0, en0]⟩, by simp [wo0], by simp [wo0]⟩
theorem worldCalm_p {w : Wo} (h : WoP w) (n : Int) : WoB (worldCalmM w n) := by
 rw [worldCalmM]
 split
 ·exact wo0_b
 ·rename_i hc
  have hE : woOk w = true := by cases hq : woOk w <;> simp_all
  exact (WoAll.rounds n.toNat w (h.all hE)).1.b (by decide)
theorem worldCalm_in {w : Wo} (h : woOk w = true) {n : Int} (hn : 0 ≤ n ∧ n ≤ 16) : worldCalmM w n = roundsM n.toNat w := by rw [worldCalmM, if_neg (by rw [h]; simpa using hn)]
theorem FnWorldRounds_ok (code more : List UInt8) (S : List Blk) : VCall Tryz.prog 13 [.rows none (code.map u8V), .rows none (more.map u8V)] S fun r S' => r = .bool true := by
 refine VCall.ex hDe (fun _ => false) (fun id => if id = 5 then [4, 3, 3, 4, 8, 8, 8, 8, 19, 19, 19, 19, 19, 19, 19, 19, 19, 19, 19] else if id = 6 then [4, 3, 3, 4, 6, 6] else if id = 9 then [1, 9, 9, 9, 10, 9, 9, 9, 9, 10, 13, 13, 13] else []) Tryz.func13 Tryz.ntmps13 Tryz.results13 ?_
 by_cases hc : (code.length : Int) > 1048576
 ·simp -implicitDefEqProofs (maxSteps := 1000000) (disch := omega) only [push_cast, simprocAttr, hc, ↓gd]
  exact ⟨_, _, Wk.refl _ _ _, rfl⟩
 by_cases hc2 : (more.length : Int) > 1048576
 ·simp -implicitDefEqProofs (maxSteps := 1000000) (disch := omega) only [push_cast, simprocAttr, hc, hc2, ↓gd]
  exact ⟨_, _, Wk.refl _ _ _, rfl⟩
 simp -implicitDefEqProofs (maxSteps := 1000000) (disch := omega) only [push_cast, simprocAttr, hc, hc2, ↓gd]
 refine (DrawWorldCalm_ok code (by omega) _).mono ?_
 rintro r S1 ⟨w, n, b, c, d, f, hw, rfl, q1⟩
 have hB := hw.b
 have hP := hw.p
 simp -implicitDefEqProofs (maxSteps := 1000000) (disch := omega) only [push_cast, simprocAttr, ↓gd]
 refine ((WorldCalm_ok woAll_stays hB (fun h => hP.all h) n (q1.at_.app _)).as (by simp [wV, wC, enC])).mono ?_
 rintro r S2 ⟨b2, c2, d2, f2, rfl, q2⟩
 have k5 : S2[S1.length]? = some (.cells 0 (wC b c d f w)) := q2.upd.get (by simp -implicitDefEqProofs (maxSteps := 1000000) (disch := omega) only [push_cast, simprocAttr, ↓gd]) (by simp)
 have hat2 := (q1.at_.app _).upd0 q2.upd
 have l5 := lt_of_some k5
 have hX := q2.at_
 have hXB := worldCalm_p hP n
 have hspec := fun (Z : List Blk) (q : WoAt Z b c d f w) => sWorldCalm_ok hB n q
 have hx0 : worldCalmM w n = worldCalmM w n := rfl
 generalize hx : worldCalmM w n = x at hspec hXB hX q2
 clear hx0
 simp -implicitDefEqProofs (maxSteps := 1000000) (disch := omega) only [push_cast, simprocAttr, k5, ↓gd]
 refine ((hspec _ (hat2.app _)).as (by simp [wV, wC, enC])).mono ?_
 rintro r S3 ⟨b3, c3, d3, f3, rfl, q3⟩
 have k5' := q3.upd.get (j := S1.length) (B := .cells 0 (wC b c d f w)) (by simp -implicitDefEqProofs (maxSteps := 1000000) (disch := omega) only [push_cast, simprocAttr, k5, ↓gd]) (by simp)
 have k7' := q3.upd.get (j := S2.length) (B := .cells 0 (wC b2 c2 d2 f2 x)) (by simp -implicitDefEqProofs (maxSteps := 1000000) (disch := omega) only [push_cast, simprocAttr, ↓gd]) (by simp)
 have hat3 := (hat2.app _).upd0 q3.upd
 have hX3 := (hX.app _).upd0 q3.upd
 simp -implicitDefEqProofs (maxSteps := 1000000) (disch := omega) only [push_cast, simprocAttr, k5, k5', k7', ↓gd]
 refine ((lkWorld_self hXB hX3 q3.at_).as (by simp [wV, wC, enC])).to ?_
 simp -implicitDefEqProofs (maxSteps := 1000000) (disch := omega) only [push_cast, simprocAttr, k5', k7', ↓gd]
 refine ((sWorldOk_ok hB hat3).as (by simp [wV, wC, enC])).to ?_
 by_cases hcond : woOk w = false ∨ n < 0 ∨ n > 16
 ·have fin : VCall Tryz.prog 35 [wV b c d f w, .int .i64 n] S3 fun r S4 => ∃ b4 c4 d4 f4, r = wV b4 c4 d4 f4 x ∧ RWNew S3 x r S4 := (hspec _ hat3).mono fun r S4 q => by obtain ⟨b4, c4, d4, f4, e, q4⟩ := q; exact ⟨b4, c4, d4, f4, e, b4, c4, d4, f4, e, q4⟩
  have tail : ∀ (r : V) (S4 : List Blk), RWNew S3 x r S4 → True := fun _ _ _ => trivial
  cases hE : woOk w
  ·simp -implicitDefEqProofs (maxSteps := 1000000) (disch := omega) only [push_cast, simprocAttr, k5', k7', ↓gd]
   refine ((hspec _ hat3).as (by simp [wV, wC, enC])).mono ?_
   rintro r S4 ⟨b4, c4, d4, f4, rfl, q4⟩
   have k7'' := q4.upd.get k7' (by simp)
   simp -implicitDefEqProofs (maxSteps := 1000000) (disch := omega) only [push_cast, simprocAttr, k5', k7', k7'', ↓gd]
   refine ((lkWorld_self hXB (hX3.upd0 q4.upd) q4.at_).as (by simp [wV, wC, enC])).to ?_
   simp -implicitDefEqProofs (maxSteps := 1000000) (disch := omega) only [push_cast, simprocAttr, ↓gd]
   exact ⟨_, _, Wk.refl _ _ _, rfl⟩
  ·by_cases hn0 : n < 0
   ·simp -implicitDefEqProofs (maxSteps := 1000000) (disch := omega) only [push_cast, simprocAttr, k5', k7', hn0, ↓gd]
    refine ((hspec _ hat3).as (by simp [wV, wC, enC])).mono ?_
    rintro r S4 ⟨b4, c4, d4, f4, rfl, q4⟩
    have k7'' := q4.upd.get k7' (by simp)
    simp -implicitDefEqProofs (maxSteps := 1000000) (disch := omega) only [push_cast, simprocAttr, k5', k7', k7'', ↓gd]
    refine ((lkWorld_self hXB (hX3.upd0 q4.upd) q4.at_).as (by simp [wV, wC, enC])).to ?_
    simp -implicitDefEqProofs (maxSteps := 1000000) (disch := omega) only [push_cast, simprocAttr, ↓gd]
    exact ⟨_, _, Wk.refl _ _ _, rfl⟩
   ·have hn1 : n > 16 := by rcases hcond with q | q | q; (rw [hE] at q; cases q); exact absurd q hn0; exact q
    simp -implicitDefEqProofs (maxSteps := 1000000) (disch := omega) only [push_cast, simprocAttr, k5', k7', hn0, hn1, ↓gd]
    refine ((hspec _ hat3).as (by simp [wV, wC, enC])).mono ?_
    rintro r S4 ⟨b4, c4, d4, f4, rfl, q4⟩
    have k7'' := q4.upd.get k7' (by simp)
    simp -implicitDefEqProofs (maxSteps := 1000000) (disch := omega) only [push_cast, simprocAttr, k5', k7', k7'', ↓gd]
    refine ((lkWorld_self hXB (hX3.upd0 q4.upd) q4.at_).as (by simp [wV, wC, enC])).to ?_
    simp -implicitDefEqProofs (maxSteps := 1000000) (disch := omega) only [push_cast, simprocAttr, ↓gd]
    exact ⟨_, _, Wk.refl _ _ _, rfl⟩
 have hE : woOk w = true := by cases q : woOk w; exact absurd (.inl q) hcond; rfl
 have hn0 : ¬ n < 0 := fun q => hcond (.inr (.inl q))
 have hn1 : ¬ n > 16 := fun q => hcond (.inr (.inr q))
 clear hspec hcond
 obtain ⟨N, rfl⟩ := Int.eq_ofNat_of_zero_le (show 0 ≤ n by omega)
 have hA := hP.all hE
 have htm : Int.tmod (more.length : Int) ((N : Int) + 1) = ((more.length % (N + 1) : Nat) : Int) := tmod_nat more.length (N + 1)
 have hk : more.length % (N + 1) ≤ N := by have := Nat.mod_lt more.length (show N + 1 > 0 by omega); omega
 generalize more.length % (N + 1) = k at hk htm
 have hx2 : x = roundsM N w := by rw [← hx, worldCalm_in hE (by omega)]; rfl
 have hcY := fun (Z : List Blk) (q : WoAt Z b c d f w) => WorldCalm_ok woAll_stays hB (fun h => hP.all h) k q
 have hYA : WoAll (worldCalmM w k) := by rw [worldCalm_in hE (by omega)]; exact WoAll.rounds k w hA
 have hyx : worldCalmM (worldCalmM w k) ((N : Int) - k) = x := by
  rw [worldCalm_in hYA.ok (by omega), worldCalm_in hE (by omega), hx2, show ((N : Int) - k).toNat = N - k by omega, show ((k : Int)).toNat = k by omega, ← roundsM_add, show k + (N - k) = N by omega]
 generalize worldCalmM w k = y at *
 have hYB : WoB y := hYA.1.b (by decide)
 have hcZ := fun (Z : List Blk) (b c d f : Nat) (q : WoAt Z b c d f y) => WorldCalm_ok woAll_stays hYB (fun h => hYA) ((N : Int) - k) q
 rw [hyx] at hcZ
 clear hx hx2 hyx
 simp -implicitDefEqProofs (maxSteps := 1000000) (disch := omega) only [push_cast, simprocAttr, k5', k7', hn0, hn1, htm, hE, ↓gd]
 repeat refine And.intro (by omega) ?_
 refine ((hcY _ hat3).as (by simp [wV, wC, enC])).mono ?_
 rintro r S4 ⟨b4, c4, d4, f4, rfl, q4⟩
 have m7 := q4.upd.get k7' (by simp)
 have hX4 := (hX3.upd0 q4.upd).app [.cells 0 (wC b4 c4 d4 f4 y)]
 have hY4 := q4.at_.app [.cells 0 (wC b4 c4 d4 f4 y)]
 have l7 := lt_of_some m7
 simp -implicitDefEqProofs (maxSteps := 1000000) (disch := omega) only [push_cast, simprocAttr, m7, ↓gd]
 refine ((WorldOk_ok hYB hY4).as (by simp [wV, wC, enC])).to ?_
 have hyok := hYA.ok
 simp -implicitDefEqProofs (maxSteps := 1000000) (disch := omega) only [push_cast, simprocAttr, m7, hyok, ↓gd]
 repeat refine And.intro (by omega) ?_
 refine ((hcZ _ _ _ _ _ hY4).as (by simp [wV, wC, enC])).mono ?_
 rintro r S5 ⟨b5, c5, d5, f5, rfl, q5⟩
 have m7' := q5.upd.get (j := S2.length) (B := .cells 0 (wC b2 c2 d2 f2 x)) (by simp -implicitDefEqProofs (maxSteps := 1000000) (disch := omega) only [push_cast, simprocAttr, m7, ↓gd]) (by simp)
 simp -implicitDefEqProofs (maxSteps := 1000000) (disch := omega) only [push_cast, simprocAttr, m7, m7', ↓gd]
 refine ((lkWorld_self hXB (hX4.upd0 q5.upd) q5.at_).as (by simp [wV, wC, enC])).to ?_
 simp -implicitDefEqProofs (maxSteps := 1000000) (disch := omega) only [push_cast, simprocAttr, ↓gd]
 exact ⟨_, _, Wk.refl _ _ _, rfl⟩
end
end Go.Proofs.YtodjmflbakfmjaaGreatDoor
