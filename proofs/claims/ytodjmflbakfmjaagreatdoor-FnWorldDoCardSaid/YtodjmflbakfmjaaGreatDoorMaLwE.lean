/- A part of the proof: contracts of functions, or plain facts on which these lean. -/
import Derived.Test.YtodjmflbakfmjaaGreatDoorMa39
import Derived.Test.YtodjmflbakfmjaaGreatDoorMaLwA
namespace Go.Proofs.YtodjmflbakfmjaaGreatDoor
open Go
set_option linter.unusedVariables false
set_option linter.unusedSimpArgs false
set_option maxRecDepth 100000
set_option maxHeartbeats 16000000

section
open Go
theorem FnWorldDo_ok (code : List UInt8) (S : List Blk) : VCall Tryz.prog 12 [.rows none (code.map u8V)] S fun r S' => r = .bool true := by
 refine VCall.ex hDe (fun _ => false) (fun id => if id = 5 then [4, 3, 3, 4, 8, 8, 8, 8, 16, 16, 16, 16, 16, 16, 16, 16] else if id = 6 then [4, 3, 3, 4, 6, 6] else []) Tryz.func12 Tryz.ntmps12 Tryz.results12 ?_
 by_cases hc : (code.length : Int) > 1048576
 ·simp -implicitDefEqProofs (maxSteps := 1000000) (disch := omega) only [push_cast, simprocAttr, hc, ↓gd]
  exact ⟨_, _, Wk.refl _ _ _, rfl⟩
 simp -implicitDefEqProofs (maxSteps := 1000000) (disch := omega) only [push_cast, simprocAttr, hc, ↓gd]
 refine (DrawWorldDo_ok code (by omega) _).mono ?_
 rintro r S1 ⟨w, v, b, c, d, f, hw, hv, rfl, q1⟩
 have hB := hw.b
 simp -implicitDefEqProofs (maxSteps := 1000000) (disch := omega) only [push_cast, simprocAttr, ↓gd]
 refine ((WorldDo_ok hB v hv (q1.at_.app _)).as (by simp [wV, wC, enC, evV])).mono ?_
 rintro r S2 ⟨b2, c2, d2, f2, rfl, q2⟩
 have k5 : S2[S1.length]? = some (.cells 0 (wC b c d f w)) := q2.upd.get (by simp -implicitDefEqProofs (maxSteps := 1000000) (disch := omega) only [push_cast, simprocAttr, ↓gd]) (by simp)
 have k6 : S2[S1.length + 1]? = some (.cells 0 [.int .i64 v.kind, .int .i64 v.a, .int .i64 v.b, .str v.path, .str v.text]) := q2.upd.get (by simp -implicitDefEqProofs (maxSteps := 1000000) (disch := omega) only [push_cast, simprocAttr, ↓gd]) (by simp)
 have hat2 := (q1.at_.app _).upd0 q2.upd
 have l5 := lt_of_some k5
 have l6 := lt_of_some k6
 have hX := q2.at_
 have hXB := worldDoM_b hB v
 have hall : woOk w = true → WoAll (worldDoM w v) ∧ EnGrow w.caller (worldDoM w v).caller ∧ (worldDoM w v).caller.strs.length ≤ w.caller.strs.length + 1 := fun h => by
  have h1 := hw.p.all h
  have h2 : worldDoM w v = doM w v := by rw [worldDoM, if_neg (by rw [h]; simp)]
  rw [h2]
  exact ⟨h1.step v, doM_grow h1.1 v⟩
 have hspec := fun (Z : List Blk) (q : WoAt Z b c d f w) => sWorldDo_ok hB v hv q
 generalize worldDoM w v = x at *
 simp -implicitDefEqProofs (maxSteps := 1000000) (disch := omega) only [push_cast, simprocAttr, k5, k6, ↓gd]
 refine ((hspec _ (hat2.app _)).as (by simp [wV, wC, enC, evV])).mono ?_
 rintro r S3 ⟨b3, c3, d3, f3, rfl, q3⟩
 have k5' := q3.upd.get (j := S1.length) (B := .cells 0 (wC b c d f w)) (by simp -implicitDefEqProofs (maxSteps := 1000000) (disch := omega) only [push_cast, simprocAttr, k5, ↓gd]) (by simp)
 have k6' := q3.upd.get (j := S1.length + 1) (B := .cells 0 [.int .i64 v.kind, .int .i64 v.a, .int .i64 v.b, .str v.path, .str v.text]) (by simp -implicitDefEqProofs (maxSteps := 1000000) (disch := omega) only [push_cast, simprocAttr, k6, ↓gd]) (by simp)
 have k7' := q3.upd.get (j := S2.length) (B := .cells 0 (wC b2 c2 d2 f2 x)) (by simp -implicitDefEqProofs (maxSteps := 1000000) (disch := omega) only [push_cast, simprocAttr, ↓gd]) (by simp)
 have hat3 := (hat2.app _).upd0 q3.upd
 have hX3 := (hX.app _).upd0 q3.upd
 simp -implicitDefEqProofs (maxSteps := 1000000) (disch := omega) only [push_cast, simprocAttr, k5, k6, k5', k6', k7', ↓gd]
 refine ((lkWorld_self hXB hX3 q3.at_).as (by simp [wV, wC, enC])).to ?_
 simp -implicitDefEqProofs (maxSteps := 1000000) (disch := omega) only [push_cast, simprocAttr, k5', k6', k7', ↓gd]
 refine ((sWorldOk_ok hB hat3).as (by simp [wV, wC, enC])).to ?_
 have again : ∀ (n : Nat → V), n = n → True := fun _ _ => trivial
 cases hE : woOk w
 ·simp -implicitDefEqProofs (maxSteps := 1000000) (disch := omega) only [push_cast, simprocAttr, k5', k6', k7', ↓gd]
  refine ((hspec _ hat3).as (by simp [wV, wC, enC, evV])).mono ?_
  rintro r S4 ⟨b4, c4, d4, f4, rfl, q4⟩
  have k7'' := q4.upd.get k7' (by simp)
  simp -implicitDefEqProofs (maxSteps := 1000000) (disch := omega) only [push_cast, simprocAttr, k5', k6', k7', k7'', ↓gd]
  refine ((lkWorld_self hXB (hX3.upd0 q4.upd) q4.at_).as (by simp [wV, wC, enC])).to ?_
  simp -implicitDefEqProofs (maxSteps := 1000000) (disch := omega) only [push_cast, simprocAttr, ↓gd]
  exact ⟨_, _, Wk.refl _ _ _, rfl⟩
 cases hbad : w.caller.bad
 case true =>
  simp -implicitDefEqProofs (maxSteps := 1000000) (disch := omega) only [push_cast, simprocAttr, k5', k6', k7', hbad, ↓gd]
  refine ((hspec _ hat3).as (by simp [wV, wC, enC, evV, hbad])).mono ?_
  rintro r S4 ⟨b4, c4, d4, f4, rfl, q4⟩
  have k7'' := q4.upd.get k7' (by simp)
  simp -implicitDefEqProofs (maxSteps := 1000000) (disch := omega) only [push_cast, simprocAttr, k5', k6', k7', k7'', ↓gd]
  refine ((lkWorld_self hXB (hX3.upd0 q4.upd) q4.at_).as (by simp [wV, wC, enC])).to ?_
  simp -implicitDefEqProofs (maxSteps := 1000000) (disch := omega) only [push_cast, simprocAttr, ↓gd]
  exact ⟨_, _, Wk.refl _ _ _, rfl⟩
 clear hspec
 obtain ⟨hxA, hgr, hxl⟩ := hall hE
 have hxok := hxA.ok
 simp -implicitDefEqProofs (maxSteps := 1000000) (disch := omega) only [push_cast, simprocAttr, k5', hbad, ↓gd]
 have hnB := hB.caller.len
 have hmB := hXB.caller.len
 have hlenA := strsC_len w.caller.strs
 have hlenB := strsC_len x.caller.strs
 have hgl := hgr.len
 refine wpV_loop (fun m t S' => ∃ i : Nat, m = w.caller.strs.length - i ∧ i ≤ w.caller.strs.length ∧ t 3 = .ptr S1.length 0 ∧ t 5 = .ptr S2.length 0 ∧ t 6 = .int .i64 i ∧ Upd [] S3 S') w.caller.strs.length ⟨0, by omega, by omega, rfl, rfl, rfl, Upd.refl _ _⟩ ?_
 rintro m t S' ⟨i, rfl, hi, h3, h5, h6, hu⟩
 refine wpV_of0 hDe ?_
 have kw := hu.get k5' (by simp)
 have kx := hu.get k7' (by simp)
 have hsa := hu.get hat3.caller.1 (by simp)
 have hsb := hu.get hX3.caller.1 (by simp)
 have hlw := lt_of_some kw
 have hlx := lt_of_some kx
 have hla := lt_of_some hsa
 have hlb := lt_of_some hsb
 by_cases hil : i < w.caller.strs.length
 ·have hil' : (i : Int) < w.caller.strs.length := by omega
  have hatA := strsC_at hil
  have hatB := strsC_at (show i < x.caller.strs.length by omega)
  have hg := hgr.at_ i hil
  have hta := hB.caller.sts _ (getD_memS hil)
  have htb := hXB.caller.sts _ (getD_memS (show i < x.caller.strs.length by omega))
  simp only [stAt] at hg
  generalize w.caller.strs.getD i st0 = sa at *
  generalize x.caller.strs.getD i st0 = sb at *
  obtain ⟨g1, ⟨tx, g2⟩, g3, g4, g5⟩ := hg
  have hbl := htb.text
  rw [g2, List.length_append] at hbl
  have hBg := fun T => lkBegins_self sa.text tx (by omega) T
  simp -implicitDefEqProofs (maxSteps := 1000000) (disch := omega) only [push_cast, simprocAttr, h3, h5, h6, hil', kw, kx, hsa, hsb, hatA, hatB, g1, g2, g3, ↓gd]
  repeat refine And.intro (by omega) ?_
  refine ((hBg _).as rfl).to ?_
  have hs : ¬ sa.sent > sb.sent := by omega
  have hu3 : ∀ X, ∃ m', m' < w.caller.strs.length - i ∧ ∃ i' : Nat, m' = w.caller.strs.length - i' ∧ i' ≤ w.caller.strs.length ∧ V.int .i64 ((i : Int) + 1) = V.int .i64 (i' : Int) ∧ Upd [] S3 (S' ++ X) := fun X => ⟨w.caller.strs.length - (i + 1), by omega, i + 1, rfl, by omega, by simp, hu.app _⟩
  by_cases h1 : sa.state = 1
  ·simp -implicitDefEqProofs (maxSteps := 1000000) (disch := omega) only [push_cast, simprocAttr, h3, h5, h6, hs, h1, ↓gd]
   exact hu3 _
  ·have h2 := g5 h1
   simp -implicitDefEqProofs (maxSteps := 1000000) (disch := omega) only [push_cast, simprocAttr, h3, h5, h6, hs, h1, h2, ↓gd]
   exact hu3 _
 ·have : i = w.caller.strs.length := by omega
  subst this
  have hil' : ¬ ((w.caller.strs.length : Nat) : Int) < w.caller.strs.length := by omega
  simp -implicitDefEqProofs (maxSteps := 1000000) (disch := omega) only [push_cast, simprocAttr, h3, h5, h6, hil', kw, kx, ↓gd]
  have hX' := hX3.upd0 hu
  refine ((WorldOk_ok hXB hX').as (by simp [wV, wC, enC])).to ?_
  have hle : (x.caller.strs.length : Int) ≤ w.caller.strs.length + 1 := by omega
  simp -implicitDefEqProofs (maxSteps := 1000000) (disch := omega) only [push_cast, simprocAttr, h3, h5, h6, kw, kx, hxok, hle, ↓gd]
  repeat refine And.intro (by omega) ?_
  exact ⟨_, _, Wk.refl _ _ _, rfl⟩
end
end Go.Proofs.YtodjmflbakfmjaaGreatDoor
