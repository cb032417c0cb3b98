/- What the two packages reckon, in plain words: words that are unpacked. -/
import Derived.Test.YtblbaniokmgjgaaMoB
namespace Go.Proofs.Ytblbaniokmgjgaa
open Go
set_option linter.unusedVariables false
set_option linter.unusedSimpArgs false

def signOf (n : Nat) : UInt8 := signs.getD n 0

/-- Signs out of bits, as far as they go, and the bits behind them. -/
def unB : Nat → List Nat → List UInt8 × List Nat
  | 0, l => ([], l)
  | k + 1, l =>
    if l.length < 5 then ([], l) else
    if numOf (l.take 5) < 24 then (signOf (numOf (l.take 5)) :: (unB k (l.drop 5)).1, (unB k (l.drop 5)).2) else
    if l.length < 7 then ([], l) else
    if 39 ≤ numOf (l.take 7) - 72 then ([], l) else (signOf (numOf (l.take 7) - 72) :: (unB k (l.drop 7)).1, (unB k (l.drop 7)).2)

def bitsB (b : List UInt8) : List Nat := b.flatMap fun c => bitsOf c.toNat 8
def unO (b : List UInt8) : List UInt8 := (unB (bitsB b).length (bitsB b)).1
def unL (b : List UInt8) : List Nat := (unB (bitsB b).length (bitsB b)).2
def unOk (b : List UInt8) : Bool := (unL b).all (fun x => decide (x = 1)) && decide ((unL b).length < 8) && decide ((unO b).length ≤ 16)
def unpackM (b : List UInt8) : Option (List UInt8) := if b.length ≤ 16 then (if unOk b then some (unO b) else none) else none

theorem numOf_cons (a : Nat) (l : List Nat) : numOf (a :: l) = a * 2 ^ l.length + numOf l := by
  have key : ∀ (l : List Nat) (x : Nat), l.foldl (fun n b => 2 * n + b) x = x * 2 ^ l.length + l.foldl (fun n b => 2 * n + b) 0 := by
    intro l
    induction l with
    | nil => intro x; simp
    | cons b l ih =>
      intro x
      simp only [List.foldl_cons, List.length_cons]
      rw [ih, ih (2 * 0 + b), Nat.pow_succ, Nat.add_mul, Nat.add_mul]
      have e : 2 * x * 2 ^ l.length = x * (2 ^ l.length * 2) := by rw [Nat.mul_comm 2 x, Nat.mul_assoc, Nat.mul_comm 2]
      omega
  have := key l (2 * 0 + a)
  simp only [numOf, List.foldl_cons]
  rw [this]
  simp
theorem numOf_bitsOf (n k : Nat) : numOf (bitsOf n k) = n % 2 ^ k := by
  induction k generalizing n with
  | zero => simp [bitsOf, numOf, Nat.mod_one]
  | succ k ih =>
    rw [bitsOf, numOf_append, ih]
    rw [Nat.pow_succ, Nat.mul_comm (2 ^ k) 2, Nat.mod_mul]
    omega
theorem bitsOf_numOf' : ∀ (n : Nat) (l : List Nat), l.length = n → (∀ b ∈ l, b ≤ 1) → bitsOf (numOf l) n = l
  | 0, l, h, _ => by
    have : l = [] := List.length_eq_zero_iff.1 h
    subst this
    rfl
  | n + 1, l, h, hb => by
    have hne : l ≠ [] := fun e => by subst e; simp at h
    have hdl : l.dropLast ++ [l.getLast hne] = l := List.dropLast_concat_getLast hne
    have ha := hb (l.getLast hne) (List.getLast_mem hne)
    have ih := bitsOf_numOf' n l.dropLast (by simp; omega) (fun b hx => hb b (List.dropLast_subset _ hx))
    conv => { lhs; rw [← hdl] }
    rw [numOf_append, bitsOf, show (2 * numOf l.dropLast + l.getLast hne) / 2 = numOf l.dropLast by omega, show (2 * numOf l.dropLast + l.getLast hne) % 2 = l.getLast hne by omega, ih, hdl]
theorem bitsOf_numOf (l : List Nat) (h : ∀ b ∈ l, b ≤ 1) : bitsOf (numOf l) l.length = l := bitsOf_numOf' _ l rfl h
theorem bitsOf_inj {n m k : Nat} (hn : n < 2 ^ k) (hm : m < 2 ^ k) (h : bitsOf n k = bitsOf m k) : n = m := by
  have := congrArg numOf h
  rwa [numOf_bitsOf, numOf_bitsOf, Nat.mod_eq_of_lt hn, Nat.mod_eq_of_lt hm] at this

theorem bitsB_len (b : List UInt8) : (bitsB b).length = 8 * b.length := by
  induction b with
  | nil => rfl
  | cons c b ih => simp only [bitsB, List.flatMap_cons, List.length_append, bitsOf_len, List.length_cons] at ih ⊢; omega
theorem bitsB_le (b : List UInt8) : ∀ x ∈ bitsB b, x ≤ 1 := fun x hx => by
  obtain ⟨c, _, hc⟩ := List.mem_flatMap.1 hx
  exact bitsOf_le _ _ x hc
theorem bytes8_bitsB (b : List UInt8) : bytes8 (bitsB b) = b := by
  induction b with
  | nil => rw [bytes8_end (by simp [bitsB])]
  | cons c b ih =>
    have e : bitsB (c :: b) = bitsOf c.toNat 8 ++ bitsB b := rfl
    rw [e, bytes8_step (by simp [bitsOf_len])]
    rw [List.take_left' (bitsOf_len _ _), List.drop_left' (bitsOf_len _ _), ih, numOf_bitsOf]
    congr 1
    have := c.toNat_lt
    rw [Nat.mod_eq_of_lt (by omega)]
    simp [by8]
theorem bitsB_bytes8 : ∀ (n : Nat) (l : List Nat), l.length = 8 * n → (∀ b ∈ l, b ≤ 1) → bitsB (bytes8 l) = l
  | 0, l, h, _ => by rw [bytes8_end (by omega)]; have : l = [] := List.length_eq_zero_iff.1 (by omega); rw [this]; rfl
  | n + 1, l, h, hb => by
    rw [bytes8_step (by omega)]
    have hl8 : (l.take 8).length = 8 := by simp; omega
    have h8b : ∀ b ∈ l.take 8, b ≤ 1 := fun b hx => hb b (List.mem_of_mem_take hx)
    have hlt := numOf_lt (l.take 8) h8b
    rw [hl8] at hlt
    have ih := bitsB_bytes8 n (l.drop 8) (by simp; omega) (fun b hx => hb b (List.mem_of_mem_drop hx))
    show bitsOf (by8 (numOf (l.take 8))).toNat 8 ++ bitsB (bytes8 (l.drop 8)) = l
    rw [ih, by8_toNat hlt]
    have := bitsOf_numOf (l.take 8) h8b
    rw [hl8] at this
    rw [this, List.take_append_drop]

set_option maxRecDepth 100000 in
theorem sign_at : ∀ v, v < 39 → signAt (signOf v) = v := by decide
theorem indexByte_get : ∀ (l : List UInt8) (c : UInt8) (i : Nat), Lib.indexByte l c = (i : Int) → l[i]? = some c
  | [], c, i, h => by simp [Lib.indexByte] at h
  | b :: l, c, i, h => by
    simp only [Lib.indexByte] at h
    split at h
    · rename_i hbc
      have : i = 0 := by omega
      subst this
      simpa using hbc
    · split at h
      · omega
      · obtain ⟨k, rfl⟩ : ∃ k, i = k + 1 := ⟨i - 1, by
          rename_i h1
          rcases Nat.eq_zero_or_pos i with h0 | h0
          · exfalso
            have h2 := Lib.indexByte_ge l c
            simp at h1
            omega
          · omega⟩
        simp only [List.getElem?_cons_succ]
        exact indexByte_get l c k (by omega)
theorem sign_of {c : UInt8} {v : Nat} (h : signAt c = v) : signOf v = c := by
  have := indexByte_get signs c v h
  rw [signOf, List.getD, this]
  rfl

theorem codeOf_sign {v : Nat} (h : v < 39) : codeOf (signOf v) = if v < 24 then bitsOf v 5 else bitsOf (72 + v) 7 := by
  unfold codeOf
  rw [sign_at v h]
  by_cases g : v < 24
  · rw [if_pos g, if_pos (by omega)]; rfl
  · rw [if_neg g, if_neg (by omega)]; rfl

/-- The bits are those of the signs, and the rest. -/
theorem unB_codes : ∀ (k : Nat) (l : List Nat), (∀ b ∈ l, b ≤ 1) → l = (unB k l).1.flatMap codeOf ++ (unB k l).2 ∧ ∀ c ∈ (unB k l).1, 0 ≤ signAt c
  | 0, l, _ => by simp [unB]
  | k + 1, l, hb => by
    rw [unB]
    split
    · simp
    · rename_i h5
      have hl5 : (l.take 5).length = 5 := by simp; omega
      have hb5 : ∀ b ∈ l.take 5, b ≤ 1 := fun b hx => hb b (List.mem_of_mem_take hx)
      have e5 := bitsOf_numOf (l.take 5) hb5
      rw [hl5] at e5
      split
      · rename_i h24
        obtain ⟨i1, i2⟩ := unB_codes k (l.drop 5) (fun b hx => hb b (List.mem_of_mem_drop hx))
        refine ⟨?_, ?_⟩
        · rw [List.flatMap_cons, codeOf_sign (by omega), if_pos h24, e5, List.append_assoc, ← i1, List.take_append_drop]
        · intro c hc
          rcases List.mem_cons.1 hc with rfl | hc
          · rw [sign_at _ (by omega)]; omega
          · exact i2 c hc
      · rename_i h24
        split
        · simp
        · rename_i h7
          have hl7 : (l.take 7).length = 7 := by simp; omega
          have hb7 : ∀ b ∈ l.take 7, b ≤ 1 := fun b hx => hb b (List.mem_of_mem_take hx)
          have e7 := bitsOf_numOf (l.take 7) hb7
          rw [hl7] at e7
          have h96 : 96 ≤ numOf (l.take 7) := by
            have e : l.take 7 = l.take 5 ++ (l.drop 5).take 2 := by rw [← List.take_add]
            obtain ⟨x, y, hxy⟩ : ∃ x y, (l.drop 5).take 2 = [x, y] := by
              match hq : (l.drop 5).take 2 with
              | [x, y] => exact ⟨x, y, rfl⟩
              | [] => have := congrArg List.length hq; simp at this; omega
              | [x] => have := congrArg List.length hq; simp at this; omega
              | x :: y :: z :: r => have := congrArg List.length hq; simp at this; omega
            rw [e, hxy, show l.take 5 ++ [x, y] = (l.take 5 ++ [x]) ++ [y] by simp, numOf_append, numOf_append]
            omega
          split
          · simp
          · rename_i h39
            obtain ⟨i1, i2⟩ := unB_codes k (l.drop 7) (fun b hx => hb b (List.mem_of_mem_drop hx))
            refine ⟨?_, ?_⟩
            · rw [List.flatMap_cons, codeOf_sign (by omega), if_neg (by omega), show 72 + (numOf (l.take 7) - 72) = numOf (l.take 7) by omega, e7, List.append_assoc, ← i1, List.take_append_drop]
            · intro c hc
              rcases List.mem_cons.1 hc with rfl | hc
              · rw [sign_at _ (by omega)]; omega
              · exact i2 c hc

theorem un_bits (b : List UInt8) : bitsB b = (unO b).flatMap codeOf ++ unL b := (unB_codes _ _ (bitsB_le b)).1
theorem un_signs (b : List UInt8) : ∀ c ∈ unO b, 0 ≤ signAt c := (unB_codes _ _ (bitsB_le b)).2

theorem pad8_len (l : List Nat) : (pad8 l).length % 8 = 0 := by simp [pad8]; omega
theorem pad8_le {l : List Nat} (h : ∀ b ∈ l, b ≤ 1) : ∀ b ∈ pad8 l, b ≤ 1 := by
  intro b hb
  simp only [pad8, List.mem_append] at hb
  rcases hb with hb | hb
  · exact h b hb
  · rw [(List.mem_replicate.1 hb).2]; exact Nat.le_refl _
theorem codes_le (w : List UInt8) : ∀ b ∈ w.flatMap codeOf, b ≤ 1 := fun b hb => by
  obtain ⟨c, _, hc⟩ := List.mem_flatMap.1 hb
  exact codeOf_le c b hc
theorem bitsB_pack (w : List UInt8) : bitsB (pack w) = pad8 (w.flatMap codeOf) := by
  have h := pad8_len (w.flatMap codeOf)
  exact bitsB_bytes8 ((pad8 (w.flatMap codeOf)).length / 8) _ (by omega) (pad8_le (codes_le w))

/-- Both packages' words on what was packed are one. -/
theorem un_pack (b : List UInt8) : pack (unO b) = b ↔ ((unL b).all (fun x => decide (x = 1)) = true ∧ (unL b).length < 8) := by
  have h1 := un_bits b
  have h2 := bitsB_len b
  rw [h1, List.length_append] at h2
  constructor
  · intro h
    have h3 := bitsB_pack (unO b)
    rw [h, h1, pad8] at h3
    have h4 := List.append_cancel_left h3
    rw [h4]
    refine ⟨?_, by rw [List.length_replicate]; omega⟩
    rw [List.all_eq_true]
    intro x hx
    simpa using (List.mem_replicate.1 hx).2
  · rintro ⟨h3, h4⟩
    have h5 : unL b = List.replicate (unL b).length 1 := by
      rw [List.eq_replicate_iff]
      refine ⟨rfl, fun x hx => ?_⟩
      simpa using List.all_eq_true.1 h3 x hx
    have h6 : pad8 ((unO b).flatMap codeOf) = bitsB b := by
      rw [h1, pad8]
      congr 1
      conv => { rhs; rw [h5] }
      congr 1
      omega
    rw [pack, h6, bytes8_bitsB]

/-- A word that was packed is the word again. -/
theorem unB_word : ∀ (w : List UInt8) (k : Nat) (r : List Nat), (∀ c ∈ w, 0 ≤ signAt c) → w.length ≤ k → (∀ x ∈ r, x = 1) → r.length < 8 → unB k (w.flatMap codeOf ++ r) = (w, r)
  | w, 0, r, _, h, _, _ => by
    have : w = [] := List.length_eq_zero_iff.1 (by omega)
    subst this
    rfl
  | [], k + 1, r, _, _, hr, h8 => by
    have hrep : r = List.replicate r.length 1 := by rw [List.eq_replicate_iff]; exact ⟨rfl, hr⟩
    simp only [List.flatMap_nil, List.nil_append]
    generalize r.length = m at hrep h8
    subst hrep
    rcases (by omega : m = 0 ∨ m = 1 ∨ m = 2 ∨ m = 3 ∨ m = 4 ∨ m = 5 ∨ m = 6 ∨ m = 7) with rfl | rfl | rfl | rfl | rfl | rfl | rfl | rfl <;> rfl
  | c :: w, k + 1, r, hs, hk, hr, h8 => by
    have hc := hs c (by simp)
    have ih := unB_word w k r (fun x hx => hs x (by simp [hx])) (by simpa using hk) hr h8
    obtain ⟨v, hv⟩ : ∃ v : Nat, signAt c = v := ⟨(signAt c).toNat, by omega⟩
    have hv38 : v ≤ 38 := by have := signAt_le c; omega
    have hcs : signOf v = c := sign_of hv
    rw [List.flatMap_cons, List.append_assoc]
    have hcode : codeOf c = if v < 24 then bitsOf v 5 else bitsOf (72 + v) 7 := by rw [← hcs]; exact codeOf_sign (by omega)
    rw [hcode, unB]
    split
    · rename_i h24
      have hl : (bitsOf v 5).length = 5 := bitsOf_len _ _
      rw [if_neg (by rw [List.length_append, hl]; omega), List.take_left' hl, List.drop_left' hl, numOf_bitsOf, Nat.mod_eq_of_lt (by omega), if_pos h24, ih, hcs]
    · rename_i h24
      have hl : (bitsOf (72 + v) 7).length = 7 := bitsOf_len _ _
      have e5 : 24 ≤ numOf ((bitsOf (72 + v) 7 ++ (w.flatMap codeOf ++ r)).take 5) := by
        have : (bitsOf (72 + v) 7).take 5 = bitsOf ((72 + v) / 4) 5 := by simp [bitsOf, Nat.div_div_eq_div_mul]
        rw [List.take_append_of_le_length (by omega), this, numOf_bitsOf, Nat.mod_eq_of_lt (by omega)]
        omega
      rw [if_neg (by rw [List.length_append, hl]; omega), if_neg (by omega), if_neg (by rw [List.length_append, hl]; omega), List.take_left' hl, List.drop_left' hl, numOf_bitsOf, Nat.mod_eq_of_lt (by omega), if_neg (by omega), ih]
      rw [show 72 + v - 72 = v by omega, hcs]

end Go.Proofs.Ytblbaniokmgjgaa
