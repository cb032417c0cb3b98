/- What the two packages reckon, in plain words: numbers that are read. -/
import Derived.Test.YtblbaniokmgjgaaCaC
namespace Go.Proofs.Ytblbaniokmgjgaa
open Go
set_option linter.unusedVariables false
set_option linter.unusedSimpArgs false

/-- The digits behind a full first byte. -/
def tailR : Nat → List UInt8 → Option (Nat × Nat)
  | 0, _ => none
  | _ + 1, [] => none
  | k + 1, c :: r => if c.toNat < 128 then some (c.toNat, 1) else match tailR k r with
    | some (v, n) => some (c.toNat % 128 + 128 * v, n + 1)
    | none => none

def numR (b : List UInt8) (bits : Nat) : Option (Nat × Nat) :=
  match b with
  | [] => none
  | c :: r => if c.toNat % 2 ^ bits < 2 ^ bits - 1 then some (c.toNat % 2 ^ bits, 1) else match tailR 3 r with
    | some (v, n) => if 2 ^ bits - 1 + v ≤ 9999 ∧ numTail v = r.take n then some (2 ^ bits - 1 + v, n + 1) else none
    | none => none

theorem tailR_bound : ∀ (k : Nat) (r : List UInt8) (v n : Nat), tailR k r = some (v, n) → v < 128 ^ k ∧ n ≤ k ∧ n ≤ r.length ∧ 1 ≤ n
  | 0, _, v, n, h => by simp [tailR] at h
  | k + 1, [], v, n, h => by simp [tailR] at h
  | k + 1, c :: r, v, n, h => by
    rw [tailR] at h
    split at h
    · simp only [Option.some.injEq, Prod.mk.injEq] at h
      obtain ⟨rfl, rfl⟩ := h
      have : 0 < 128 ^ k := Nat.pow_pos (by decide)
      rw [Nat.pow_succ]
      refine ⟨by omega, by omega, by simp, by omega⟩
    · split at h
      · rename_i v' n' h'
        simp only [Option.some.injEq, Prod.mk.injEq] at h
        obtain ⟨rfl, rfl⟩ := h
        obtain ⟨h1, h2, h3, h4⟩ := tailR_bound k r v' n' h'
        rw [Nat.pow_succ]
        refine ⟨by omega, by omega, by simpa using h3, by omega⟩
      · cases h

theorem numR_bound {b : List UInt8} {bits v n : Nat} (hb : bits ≤ 7) (h : numR b bits = some (v, n)) : v ≤ 9999 ∧ 1 ≤ n ∧ n ≤ 4 ∧ n ≤ b.length := by
  have hp : 2 ^ bits ≤ 2 ^ 7 := Nat.pow_le_pow_right (by omega) hb
  unfold numR at h
  split at h
  · cases h
  · rename_i c r
    split at h
    · simp only [Option.some.injEq, Prod.mk.injEq] at h
      obtain ⟨rfl, rfl⟩ := h
      refine ⟨by omega, by omega, by omega, by simp⟩
    · split at h
      · rename_i v' n' h'
        split at h
        · rename_i hc
          simp only [Option.some.injEq, Prod.mk.injEq] at h
          obtain ⟨rfl, rfl⟩ := h
          obtain ⟨h1, h2, h3, h4⟩ := tailR_bound 3 r v' n' h'
          refine ⟨hc.1, by omega, by omega, by simpa using h3⟩
        · cases h
      · cases h

theorem by8_toNat {n : Nat} (h : n < 256) : (by8 n).toNat = n := by simp [by8]; omega

theorem tailR_numTail {v : Nat} (h : v < 2097152) (rest : List UInt8) : tailR 3 (numTail v ++ rest) = some (v, (numTail v).length) := by
  rcases Nat.lt_or_ge v 128 with g | g
  · rw [numTail_lt g]
    simp [tailR, by8_toNat (show v < 256 by omega), g]
  · rw [numTail_ge g]
    have e1 := by8_toNat (show v % 128 + 128 < 256 by omega)
    rcases Nat.lt_or_ge (v / 128) 128 with g2 | g2
    · rw [numTail_lt g2]
      simp only [List.cons_append, tailR, e1, by8_toNat (show v / 128 < 256 by omega), if_pos g2, if_neg (show ¬ v % 128 + 128 < 128 by omega), List.nil_append, List.length_cons, List.length_nil]
      congr 2
      omega
    · rw [numTail_ge g2, numTail_lt (show v / 128 / 128 < 128 by omega)]
      have e2 := by8_toNat (show v / 128 % 128 + 128 < 256 by omega)
      have e3 := by8_toNat (show v / 128 / 128 < 256 by omega)
      simp only [List.cons_append, tailR, e1, e2, e3, if_neg (show ¬ v % 128 + 128 < 128 by omega), if_neg (show ¬ v / 128 % 128 + 128 < 128 by omega), if_pos (show v / 128 / 128 < 128 by omega), List.nil_append, List.length_cons, List.length_nil]
      congr 2
      omega

theorem numR_numW {n bits head : Nat} (hn : n ≤ 9999) (hb : bits ≤ 7) (hh : head * 2 ^ bits + 2 ^ bits ≤ 256) (rest : List UInt8) : numR (numW n bits head ++ rest) bits = some (n, (numW n bits head).length) := by
  obtain ⟨p, hp⟩ : ∃ p, p = 2 ^ bits := ⟨_, rfl⟩
  have hp1 : 1 ≤ p := by rw [hp]; exact Nat.one_le_two_pow
  unfold numW
  rw [← hp] at hh ⊢
  split
  · rename_i h
    have e1 : (by8 (head * p + n)).toNat = head * p + n := by8_toNat (by omega)
    have e2 : (head * p + n) % p = n := by rw [Nat.mul_comm, Nat.mul_add_mod, Nat.mod_eq_of_lt (by omega)]
    simp only [numR, List.cons_append, ← hp, e1, e2, if_pos h]
    rfl
  · rename_i h
    have e1 : (by8 (head * p + (p - 1))).toNat = head * p + (p - 1) := by8_toNat (by omega)
    have e2 : (head * p + (p - 1)) % p = p - 1 := by rw [Nat.mul_comm, Nat.mul_add_mod, Nat.mod_eq_of_lt (by omega)]
    simp only [numR, List.cons_append, ← hp, e1, e2, if_neg (Nat.lt_irrefl _)]
    rw [tailR_numTail (by omega)]
    simp only [List.take_left, and_true]
    rw [if_pos (by omega)]
    simp only [List.length_cons]
    congr 2
    omega

end Go.Proofs.Ytblbaniokmgjgaa
