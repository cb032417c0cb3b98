/- The contract of slices.Grow at a nil slice, out of the library's own. -/
import Derived.Test.YtblbaniokmgjgaaCaE
import Derived.Shelf.Spec.SlicesGrow
namespace Go.Proofs.Ytblbaniokmgjgaa
open Go
set_option linter.unusedVariables false
set_option linter.unusedSimpArgs false

def growRen : Go.Shelf.Ren := ⟨fun _ => 78, fun t => if t = 0 then 0 else if t = 3 then 3 else if t = 4 then 4 else if t = 9 then 9 else if t = 20 then 20 else if t = 22 then 26 else 50, fun g => g⟩

theorem growLay : Lays8.n4 Try.prog growRen where
  mixed := by kernel_rfl
  f4 := ⟨Try.f78.name, by decide, by kernel_rfl⟩
  t0 := by kernel_rfl
  a0 := Try.isAgg0
  z0 := Try.sizeOf0
  v0 := Try.zeroValue0
  t3 := by kernel_rfl
  a3 := Try.isAgg3
  z3 := Try.sizeOf3
  v3 := Try.zeroValue3
  t4 := by kernel_rfl
  a4 := Try.isAgg4
  z4 := Try.sizeOf4
  v4 := Try.zeroValue4
  t9 := by kernel_rfl
  a9 := Try.isAgg9
  z9 := Try.sizeOf9
  v9 := Try.zeroValue9
  t20 := by kernel_rfl
  a20 := Try.isAgg20
  z20 := Try.sizeOf20
  v20 := Try.zeroValue20
  t22 := by kernel_rfl
  a22 := Try.isAgg26
  z22 := Try.sizeOf26
  v22 := Try.zeroValue26

theorem zeroCells_add (a : Array Value) (n m : Nat) : Builtin.zeroCells a n ++ Builtin.zeroCells a m = Builtin.zeroCells a (n + m) := by
  apply Array.ext
  · simp [Builtin.zeroCells, Nat.add_mul]
  · intro i h1 h2
    rw [Array.getElem_append]
    split
    · simp [Builtin.zeroCells]
    · rename_i h
      simp only [Builtin.zeroCells, Array.size_map, Array.size_range, Nat.not_lt, Array.getElem_map, Array.getElem_range] at h ⊢
      congr 1
      rw [← Nat.sub_add_cancel h, Nat.add_sub_cancel, Nat.add_mul_mod_self_right]

set_option maxRecDepth 100000 in
theorem Grow_ok (n : Nat) (hn : 0 < n) (hn2 : n ≤ 4194304) (S : List Blk) : VCall Try.prog 78 [.nils, .int .i64 n] S fun r S' => r = .rows (some S.length) [] ∧ S' = S ++ [.right 3] := by
  refine .inl ⟨⟨_, Try.func78, rfl, rfl⟩, _, _, ⟨rfl, rfl⟩, ?_⟩
  intro G w cargs hall hR
  obtain ⟨i, z, hi, hisz, hiby, hz, _, _, hzs⟩ := ty_info hD (t := 50) rfl
  have hc : cargs = #[.slice none 0 0, .int .i64 n] := by
    obtain ⟨hl, hv⟩ := hall
    obtain ⟨l⟩ := cargs
    match l, hl with
    | [a, b], _ =>
      have h0 := hv 0 .nils a rfl rfl
      have h1 := hv 1 (.int .i64 n) b rfl rfl
      cases h0; cases h1; rfl
  subst hc
  have hcall := Any8.slices_Grow_grow growLay i z hi hz (by rw [hisz]; decide) none 0 0 n [] w (Nat.le_refl _) (by omega) (by rw [hiby]; show (0 + n) * 40 ≤ _; omega) (by omega) (by simp) (fun _ => rfl) (fun a h => by cases h)
  refine Calls.mono hcall ?_
  rintro e w' ⟨rfl, rfl⟩
  obtain ⟨G', h1, h2, h3⟩ := grow_row hD (e := 50) rfl hR (zs := []) (fun v hv => by cases hv) (c := #[]) ⟨rfl, by simp, by simp⟩ hzs (cap := grownCap w (0 + n) 0 50) (Nat.zero_le _)
  have hG := grownCap_ge w (0 + n) 0 50
  have e : (#[] : Array Value) ++ Builtin.zeroCells z.cells (grownCap w (0 + n) 0 50 - ([] : List V).length) = ([] : List Value).toArray ++ Builtin.zeroCells z.cells (0 + n - 0) ++ Builtin.zeroCells z.cells (grownCap w (0 + n) 0 50 - (0 + n)) := by
    rw [Array.append_assoc, zeroCells_add]
    congr 2
    simp only [List.length_nil]
    omega
  rw [e] at h1 h2 h3
  exact ⟨_, G', rfl, h1, h2, h3⟩

end Go.Proofs.Ytblbaniokmgjgaa
