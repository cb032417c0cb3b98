/- A part of the proof: contracts of functions, or plain facts on which these lean. -/
import Derived.Test.YtodjmflbakfmjaaGreatDoorMa38
import Derived.Test.YtodjmflbakfmjaaGreatDoorMaLwC
namespace Go.Proofs.YtodjmflbakfmjaaGreatDoor
open Go
set_option linter.unusedVariables false
set_option linter.unusedSimpArgs false
set_option maxRecDepth 100000
set_option maxHeartbeats 16000000

section
open Go
theorem en0_b : EnB en0 := ⟨by simp [en0], by simp [en0], by simp [en0], ⟨by simp [en0], by simp [en0]⟩, ⟨by simp [en0], by simp [en0]⟩, by simp [en0]⟩
theorem endHearM_b (e : En) (bs : List UInt8) : EnB (endHearM e bs) := by
 rw [endHearM]
 split
 ·exact en0_b
 ·rename_i h
  have hE : endOk e = true := by cases hq : endOk e <;> simp_all
  exact (hearWM_w ((endOk_w hE).mono (show 60 ≤ 642 by decide)) (by decide) bs).1.b (by decide)
theorem hear_bad {e : En} (hE : endOk e = true) {bs : List UInt8} (h : bs.length ≤ 300) : endHearM { e with bad := true } bs = { e with bad := true } := by
 have : endOk { e with bad := true } = true := hE
 rw [endHearM, if_neg (by rw [this]; simp; omega), hearWM, if_pos (Or.inl rfl)]
theorem write_bad {e : En} (hE : endOk e = true) : endWriteM { e with bad := true } = ({ e with bad := true }, []) := by
 have : endOk { e with bad := true } = true := hE
 rw [endWriteM_ok this, if_pos rfl]
theorem fresh_bad : (endHearM (newEn true) [255, 1, 0, 1]).bad = true := by decide +kernel
theorem fresh_well : (endHearM (newEn true) []).bad = false := by decide +kernel
theorem newEn_b (a : Bool) : EnB (newEn a) := ⟨by simp [newEn], by simp [newEn], by simp [newEn], ⟨by simp [newEn], by simp [newEn]⟩, ⟨by simp [newEn], by simp [newEn]⟩, by simp [newEn]⟩
theorem FnHearBad_ok (code : List UInt8) (S : List Blk) : VCall Tryz.prog 14 [.rows none (code.map u8V)] S fun r S' => r = .bool true := by
 refine VCall.ex hDe (fun _ => false) (fun id => if id = 5 then [4, 3, 3, 4, 8, 8, 8, 8, 11, 11, 11] else if id = 6 then [4, 3, 3, 4, 6, 6] else []) Tryz.func14 Tryz.ntmps14 Tryz.results14 ?_
 by_cases hc : (code.length : Int) > 1048576
 ·simp -implicitDefEqProofs (disch := omega) only [push_cast, simprocAttr, hc, ↓gd]
  exact ⟨_, _, Wk.refl _ _ _, rfl⟩
 simp -implicitDefEqProofs (disch := omega) only [push_cast, simprocAttr, hc, ↓gd]
 refine (DrawEndHear_ok code (by omega) _).mono ?_
 rintro r S1 ⟨e, bs, b, c, ⟨wire, hw⟩, hbs, rfl, q1⟩
 have hB := hw.b.1
 simp -implicitDefEqProofs (disch := omega) only [push_cast, simprocAttr, ↓gd]
 have hEH := fun (Z : List Blk) (q : EnAt Z b c e) => EndHear_ok hB bs (by omega) q
 have hspec := fun (Z : List Blk) (q : EnAt Z b c e) => sEndHear_ok hB bs (by omega) q
 have hXB := endHearM_b e bs
 generalize endHearM e bs = x at *
 refine ((hEH _ (q1.at_.app _)).as (by simp [eV, enV, enC])).mono ?_
 rintro r S2 ⟨b2, c2, rfl, q2⟩
 have k5 : S2[S1.length]? = some (.cells 0 (enC (.heap b e.strs.length) (.heap c e.wait.length) e)) := q2.upd.get (by simp -implicitDefEqProofs (disch := omega) only [push_cast, simprocAttr, ↓gd]) (by simp)
 have hat2 := (q1.at_.app [.cells 0 (enC (.heap b e.strs.length) (.heap c e.wait.length) e)]).upd q2.upd (by simp) (by simp)
 have l5 := lt_of_some k5
 have hX := q2.at_
 simp -implicitDefEqProofs (disch := omega) only [push_cast, simprocAttr, k5, ↓gd]
 refine ((hspec _ (hat2.app _)).as (by simp [eV, enV, enC])).mono ?_
 rintro r S3 ⟨b3, c3, rfl, q3⟩
 have k5' := q3.upd.get (j := S1.length) (B := .cells 0 (enC (.heap b e.strs.length) (.heap c e.wait.length) e)) (by simp -implicitDefEqProofs (disch := omega) only [push_cast, simprocAttr, k5, ↓gd]) (by simp)
 have k7' := q3.upd.get (j := S2.length) (B := .cells 0 (enC (.heap b2 x.strs.length) (.heap c2 x.wait.length) x)) (by simp -implicitDefEqProofs (disch := omega) only [push_cast, simprocAttr, ↓gd]) (by simp)
 have hat3 := (hat2.app [.cells 0 (enC (.heap b2 x.strs.length) (.heap c2 x.wait.length) x)]).upd q3.upd (by simp) (by simp)
 have hX3 := (hX.app [.cells 0 (enC (.heap b2 x.strs.length) (.heap c2 x.wait.length) x)]).upd q3.upd (by simp) (by simp)
 simp -implicitDefEqProofs (disch := omega) only [push_cast, simprocAttr, k5, k5', k7', ↓gd]
 refine ((lkEnd_self hXB hX3 q3.at_).as (by simp [eV, enV, enC])).to ?_
 simp -implicitDefEqProofs (disch := omega) only [push_cast, simprocAttr, k5', k7', ↓gd]
 refine ((sEndOk_at hB hat3).as (by simp [eV, enV, enC])).to ?_
 cases hE : endOk e
 ·simp -implicitDefEqProofs (disch := omega) only [push_cast, simprocAttr, k5', k7', ↓gd]
  refine ((hspec _ hat3).as (by simp [eV, enV, enC])).mono ?_
  rintro r S4 ⟨b4, c4, rfl, q4⟩
  have k7'' := q4.upd.get k7' (by simp)
  simp -implicitDefEqProofs (disch := omega) only [push_cast, simprocAttr, k5', k7', k7'', ↓gd]
  refine ((lkEnd_self hXB (hX3.upd q4.upd (by simp) (by simp)) q4.at_).as (by simp [eV, enV, enC])).to ?_
  simp -implicitDefEqProofs (disch := omega) only [push_cast, simprocAttr, ↓gd]
  exact ⟨_, _, Wk.refl _ _ _, rfl⟩
 clear hspec hEH
 have l5' := lt_of_some k5'
 have hBb : EnB { e with bad := true } := by obtain ⟨g1, g2, g3, g4, g5, g6⟩ := hB; exact ⟨g1, g2, g3, g4, g5, g6⟩
 have hEH := fun (Z : List Blk) (q : EnAt Z b c e) => EndHear_ok hBb bs (by omega) (b := b) (c := c) (S := Z) q
 have hEW := fun (Z : List Blk) (q : EnAt Z b c e) => EndWrite_ok hBb (b := b) (c := c) (S := Z) q
 rw [hear_bad hE hbs] at hEH
 rw [write_bad hE] at hEW
 simp -implicitDefEqProofs (disch := omega) only [push_cast, simprocAttr, k5', ↓gd]
 refine ((hEH _ (hat3.app _)).as (by simp [eV, enV, enC])).mono ?_
 rintro r S4 ⟨b4, c4, rfl, q4⟩
 have m4 := q4.upd.get (j := S3.length) (B := .cells 0 (enC (.heap b e.strs.length) (.heap c e.wait.length) { e with bad := true })) (by simp -implicitDefEqProofs (disch := omega) only [push_cast, simprocAttr, ↓gd]) (by simp)
 have hat4 := (hat3.app [.cells 0 (enC (.heap b e.strs.length) (.heap c e.wait.length) { e with bad := true })]).upd q4.upd (by simp) (by simp)
 have l4 := lt_of_some m4
 simp -implicitDefEqProofs (disch := omega) only [push_cast, simprocAttr, m4, ↓gd]
 refine ((hEW _ (hat4.app _)).as (by simp [eV, enV, enC])).mono ?_
 rintro r S5 ⟨_, rfl, b5, c5, rfl, q5⟩
 have m5 := q5.upd.get (j := S4.length) (B := .cells 0 (enC (.heap b4 e.strs.length) (.heap c4 e.wait.length) { e with bad := true })) (by simp -implicitDefEqProofs (disch := omega) only [push_cast, simprocAttr, ↓gd]) (by simp)
 simp -implicitDefEqProofs (disch := omega) only [push_cast, simprocAttr, ↓gd]
 refine (EndNew_ok true _).mono ?_
 rintro r S6 ⟨b6, c6, rfl, q6⟩
 have m6 := q6.upd.get (j := S4.length) (B := .cells 0 (enC (.heap b4 e.strs.length) (.heap c4 e.wait.length) { e with bad := true })) (by simp -implicitDefEqProofs (disch := omega) only [push_cast, simprocAttr, m5, ↓gd]) (by simp)
 have hEH := fun (Z : List Blk) (q : EnAt Z b6 c6 (newEn true)) => EndHear_ok (newEn_b true) [255, 1, 0, 1] (by simp) q
 have hfb := fresh_bad
 generalize endHearM (newEn true) [255, 1, 0, 1] = Z1 at *
 simp -implicitDefEqProofs (disch := omega) only [push_cast, simprocAttr, ↓gd]
 refine ((hEH _ q6.at_).as (by simp [eV, enV, enC])).mono ?_
 rintro r S7 ⟨b7, c7, rfl, q7⟩
 have m7 := q7.upd.get (j := S4.length) (B := .cells 0 (enC (.heap b4 e.strs.length) (.heap c4 e.wait.length) { e with bad := true })) m6 (by simp)
 have l7 := lt_of_some m7
 simp -implicitDefEqProofs (disch := omega) only [push_cast, simprocAttr, m7, hfb, ↓gd]
 refine (EndNew_ok true _).mono ?_
 rintro r S8 ⟨b8, c8, rfl, q8⟩
 have hEH := fun (Z : List Blk) (q : EnAt Z b8 c8 (newEn true)) => EndHear_ok (newEn_b true) [] (by simp) q
 have hfw := fresh_well
 generalize endHearM (newEn true) [] = Z2 at *
 simp -implicitDefEqProofs (disch := omega) only [push_cast, simprocAttr, ↓gd]
 refine ((hEH _ q8.at_).as (by simp [eV, enV, enC])).mono ?_
 rintro r S9 ⟨b9, c9, rfl, q9⟩
 simp -implicitDefEqProofs (disch := omega) only [push_cast, simprocAttr, hfw, ↓gd]
 exact ⟨_, _, Wk.refl _ _ _, rfl⟩
end
end Go.Proofs.YtodjmflbakfmjaaGreatDoor
