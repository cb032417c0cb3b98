/- A head that was written is read back. -/
import Derived.Test.YtblbaniokmgjgaaCdC
import Derived.Test.YtblbaniokmgjgaaCaL
namespace Go.Proofs.Ytblbaniokmgjgaa
open Go
set_option linter.unusedVariables false
set_option linter.unusedSimpArgs false

theorem unpack_pack {w : List UInt8} (hw : wordOk w = true) (hp : (pack w).length ≤ 16) : unpackM (pack w) = some w := by
  obtain ⟨hs, h16⟩ := wordOk_signs hw
  have hb := bitsB_pack w
  have hlen : w.length ≤ (w.flatMap codeOf).length := by
    clear hb hp hs h16 hw
    induction w with
    | nil => simp
    | cons c w ih =>
      have : 1 ≤ (codeOf c).length := by unfold codeOf; split <;> simp [bitsOf_len]
      simp only [List.flatMap_cons, List.length_append, List.length_cons]; omega
  have hu : unB (bitsB (pack w)).length (bitsB (pack w)) = (w, List.replicate ((8 - (w.flatMap codeOf).length % 8) % 8) 1) := by
    rw [hb]
    refine unB_word w _ _ hs (by simp only [pad8, List.length_append]; omega) (fun x hx => (List.mem_replicate.1 hx).2) (by rw [List.length_replicate]; omega)
  have h1 : unO (pack w) = w := by rw [unO, hu]
  have h2 : unL (pack w) = List.replicate ((8 - (w.flatMap codeOf).length % 8) % 8) 1 := by rw [unL, hu]
  have h3 : unOk (pack w) = true := by
    rw [unOk, h1, h2]
    simp only [Bool.and_eq_true, decide_eq_true_eq, List.length_replicate]
    refine ⟨⟨?_, by omega⟩, h16⟩
    rw [List.all_eq_true]
    intro x hx
    simpa using (List.mem_replicate.1 hx).2
  rw [unpackM, if_pos hp, if_pos h3, h1]

theorem numW_small {n bits head : Nat} (h : n < 2 ^ bits - 1) : numW n bits head = [by8 (head * 2 ^ bits + n)] := by rw [numW, if_pos h]

theorem wordR_wordW {w : List UInt8} (hw : wordOk w = true) (rest : List UInt8) : wordR (wordW w ++ rest) = some (w, (wordW w).length) := by
  obtain ⟨hs, h16⟩ := wordOk_signs hw
  rw [wordW]
  split
  · rename_i hp
    have hn : numW (pack w).length 7 1 = [by8 (1 * 2 ^ 7 + (pack w).length)] := numW_small (by have : (2 : Nat) ^ 7 = 128 := rfl; omega)
    have hr := numR_numW (n := (pack w).length) (bits := 7) (head := 1) (by omega) (by omega) (by decide) (pack w ++ rest)
    rw [List.append_assoc, wordR, hr]
    simp only
    have hlen : (numW (pack w).length 7 1).length = 1 := by rw [hn]; rfl
    have hc : ((numW (pack w).length 7 1 ++ (pack w ++ rest)).getD 0 0).toNat = 1 * 2 ^ 7 + (pack w).length := by
      rw [hn]
      exact by8_toNat (by have : (2 : Nat) ^ 7 = 128 := rfl; omega)
    rw [if_pos ⟨by omega, by simp [List.length_append]⟩, hc, if_pos (by have : (2 : Nat) ^ 7 = 128 := rfl; omega), List.drop_left, List.take_left, unpack_pack hw (by omega)]
    simp
  · have hn : numW w.length 7 0 = [by8 (0 * 2 ^ 7 + w.length)] := numW_small (by have : (2 : Nat) ^ 7 = 128 := rfl; omega)
    have hr := numR_numW (n := w.length) (bits := 7) (head := 0) (by omega) (by omega) (by decide) (w ++ rest)
    rw [List.append_assoc, wordR, hr]
    simp only
    have hlen : (numW w.length 7 0).length = 1 := by rw [hn]; rfl
    have hc : ((numW w.length 7 0 ++ (w ++ rest)).getD 0 0).toNat = 0 * 2 ^ 7 + w.length := by
      rw [hn]
      exact by8_toNat (by have : (2 : Nat) ^ 7 = 128 := rfl; omega)
    rw [if_pos ⟨by omega, by simp [List.length_append]⟩, hc, if_neg (by have : (2 : Nat) ^ 7 = 128 := rfl; omega), List.drop_left, List.take_left, if_pos hw]
    simp

theorem wordW_len17 {w : List UInt8} (hw : wordOk w = true) : (wordW w).length ≤ 17 := by
  obtain ⟨hs, h16⟩ := wordOk_signs hw
  rw [wordW]
  split
  · rw [numW_small (by have : (2 : Nat) ^ 7 = 128 := rfl; omega), List.length_append, List.length_singleton]; omega
  · rw [numW_small (by have : (2 : Nat) ^ 7 = 128 := rfl; omega), List.length_append, List.length_singleton]; omega
theorem numW_len2 {n bits head : Nat} (h : n ≤ 100) : (numW n bits head).length ≤ 2 := by
  rw [numW]
  split
  · simp
  · rw [numTail_lt (by omega)]; simp
theorem nameW_len20 {f : Fd} (hf : fieldOk f = true) {place bits : Nat} (h : place ≤ 100) : (nameW place bits f).length ≤ 19 := by
  obtain ⟨h1, _⟩ := fieldOk_parts hf
  have := wordW_len17 h1
  have := numW_len2 (bits := bits) (head := 1) h
  rw [nameW, List.length_append]
  split
  · omega
  · simp only [List.length_nil]; omega
theorem fieldW_len36 {l : List Fd} {f : Fd} (hf : fieldOk f = true) (hl : l.length ≤ 50) : (fieldW l f).length ≤ 36 := by
  obtain ⟨_, h2, _⟩ := fieldOk_parts hf
  have hp := placeOf_le l f
  have h3 := wordW_len17 h2
  have h4 := nameW_len20 hf (place := placeOf l f) (bits := 4) (by omega)
  have h5 := nameW_len20 hf (place := placeOf l f) (bits := 6) (by omega)
  have h6 := numW_len2 (n := placeOf l f) (bits := 7) (head := 1) (by omega)
  unfold fieldW
  split
  · rw [List.length_append]; omega
  · split
    · omega
    · rw [List.length_append]; omega

theorem findIdx_lt {p : Fd → Bool} {w : List Fd} (h : w.any p = true) : w.findIdx p < w.length ∧ p (w.getD (w.findIdx p) fd0) = true := by
  obtain ⟨x, hx, hp⟩ := List.any_eq_true.1 h
  have hlt : w.findIdx p < w.length := List.findIdx_lt_length_of_exists ⟨x, hx, hp⟩
  refine ⟨hlt, ?_⟩
  rw [List.getD, List.getElem?_eq_getElem hlt, Option.getD_some]
  exact List.findIdx_getElem

/-- What stands at the place of a field. -/
theorem place_found {l : List Fd} {f : Fd} (h : foundIn l f = true) : ∃ g, atR l (placeOf l f) = some g ∧ g.name = f.name ∧ g.val = f.val := by
  unfold foundIn at h
  obtain ⟨h1, h2⟩ := findIdx_lt h
  have hp : placeOf l f = (fixedFds ++ l).findIdx (bothP f) + 1 := by rw [placeOf, if_pos h]
  rw [all_len] at h1
  refine ⟨(fixedFds ++ l).getD ((fixedFds ++ l).findIdx (bothP f)) fd0, ?_, ?_⟩
  · rw [atR, hp, if_pos ⟨by omega, by omega⟩, Nat.add_sub_cancel]
  · simpa [bothP] using h2
theorem place_name {l : List Fd} {f : Fd} (h : placeOf l f ≠ 0) : ∃ g, atR l (placeOf l f) = some g ∧ g.name = f.name := by
  by_cases hf : foundIn l f = true
  · obtain ⟨g, h1, h2, _⟩ := place_found hf
    exact ⟨g, h1, h2⟩
  · unfold foundIn at hf
    have hp : placeOf l f = if (fixedFds ++ l).any (nameP f) then (fixedFds ++ l).findIdx (nameP f) + 1 else 0 := by rw [placeOf, if_neg hf]
    by_cases hn : (fixedFds ++ l).any (nameP f) = true
    · rw [if_pos hn] at hp
      obtain ⟨h1, h2⟩ := findIdx_lt hn
      rw [all_len] at h1
      refine ⟨(fixedFds ++ l).getD ((fixedFds ++ l).findIdx (nameP f)) fd0, ?_, ?_⟩
      · rw [atR, hp, if_pos ⟨by omega, by omega⟩, Nat.add_sub_cancel]
      · simpa [nameP] using h2
    · rw [if_neg hn] at hp
      exact absurd hp h

theorem fieldOk_never (n v : List UInt8) (a b : Bool) : fieldOk ⟨n, v, a⟩ = fieldOk ⟨n, v, b⟩ := rfl

theorem litR_back {l : List Fd} {f : Fd} (hf : fieldOk f = true) (hl : l.length ≤ 50) {bits : Nat} (hb : bits = 4 ∨ bits = 6) (rest : List UInt8) :
    litR l ((nameW (placeOf l f) bits f ++ wordW f.val) ++ rest) bits = some (⟨f.name, f.val, bits == 4⟩, (nameW (placeOf l f) bits f ++ wordW f.val).length, bits) := by
  obtain ⟨hn, hv, _⟩ := fieldOk_parts hf
  have hp := placeOf_le l f
  have hpow : 1 * 2 ^ bits + 2 ^ bits ≤ 256 := by rcases hb with rfl | rfl <;> decide
  have hname : nameW (placeOf l f) bits f = numW (placeOf l f) bits 1 ++ (if placeOf l f = 0 then wordW f.name else []) := rfl
  have hk : fieldOk ⟨f.name, f.val, bits == 4⟩ = true := by rw [fieldOk_never _ _ _ f.never]; exact hf
  rw [litR, hname, List.append_assoc, List.append_assoc, numR_numW (by omega) (by rcases hb with rfl | rfl <;> decide) hpow]
  simp only
  by_cases h0 : placeOf l f = 0
  · rw [nameR, if_pos h0, List.drop_left, if_pos h0, wordR_wordW hn]
    simp only [Option.map_some]
    have hd : List.drop ((numW (placeOf l f) bits 1).length + (wordW f.name).length) (numW (placeOf l f) bits 1 ++ (wordW f.name ++ (wordW f.val ++ rest))) = wordW f.val ++ rest := by
      rw [← List.append_assoc, ← List.length_append, List.drop_left]
    rw [hd, wordR_wordW hv]
    simp only [if_pos hk, List.length_append]
  · obtain ⟨g, hg1, hg2⟩ := place_name h0
    rw [nameR, if_neg h0, if_neg h0, hg1]
    simp only [Option.map_some, hg2, List.nil_append, List.drop_left, wordR_wordW hv, if_pos hk, List.length_append, List.length_nil, Nat.add_zero]

theorem first_lit {n bits : Nat} (hb : bits = 4 ∨ bits = 6) (rest : List UInt8) : 2 ^ bits ≤ ((numW n bits 1 ++ rest).getD 0 0).toNat ∧ ((numW n bits 1 ++ rest).getD 0 0).toNat < 2 * 2 ^ bits := by
  have h2 : 2 ^ bits = 16 ∨ 2 ^ bits = 64 := by rcases hb with rfl | rfl <;> simp
  rw [numW]
  split
  · have : (([by8 (1 * 2 ^ bits + n)] ++ rest).getD 0 0).toNat = 1 * 2 ^ bits + n := by8_toNat (by omega)
    rw [this]; omega
  · have : ((by8 (1 * 2 ^ bits + (2 ^ bits - 1)) :: numTail (n - (2 ^ bits - 1)) ++ rest).getD 0 0).toNat = 1 * 2 ^ bits + (2 ^ bits - 1) := by8_toNat (by omega)
    rw [this]; omega

def bitsW (l : List Fd) (f : Fd) : Nat := if f.never then 4 else if foundIn l f then 7 else 6

theorem fieldR_back {l : List Fd} {f : Fd} (hf : fieldOk f = true) (hl : l.length ≤ 50) (hno : ∀ g ∈ l, g.never = false) (rest : List UInt8) :
    fieldR l (fieldW l f ++ rest) = some (f, (fieldW l f).length, bitsW l f) := by
  have hp := placeOf_le l f
  by_cases hn : f.never = true
  · have hw : fieldW l f = nameW (placeOf l f) 4 f ++ wordW f.val := by rw [fieldW, if_pos hn]
    have hfst := first_lit (n := placeOf l f) (bits := 4) (.inl rfl) ((if placeOf l f = 0 then wordW f.name else []) ++ wordW f.val ++ rest)
    have hc : (fieldW l f ++ rest) = numW (placeOf l f) 4 1 ++ ((if placeOf l f = 0 then wordW f.name else []) ++ wordW f.val ++ rest) := by rw [hw, nameW]; simp [List.append_assoc]
    rw [← hc] at hfst
    have h16 : (2 : Nat) ^ 4 = 16 := rfl
    rw [fieldR, if_neg (by omega), if_neg (by omega), if_pos ⟨by omega, by omega⟩, bitsW, if_pos hn, hw, litR_back hf hl (.inl rfl)]
    congr 2
    cases f
    cases hn
    rfl
  · have hn' : f.never = false := by simpa using hn
    by_cases hfo : foundIn l f = true
    · have hw : fieldW l f = numW (placeOf l f) 7 1 := by rw [fieldW, if_neg hn, if_pos hfo]
      have hs : numW (placeOf l f) 7 1 = [by8 (1 * 2 ^ 7 + placeOf l f)] := numW_small (by have : (2 : Nat) ^ 7 = 128 := rfl; omega)
      have hc : ((fieldW l f ++ rest).getD 0 0).toNat = 1 * 2 ^ 7 + placeOf l f := by
        rw [hw, hs]
        exact by8_toNat (by have : (2 : Nat) ^ 7 = 128 := rfl; omega)
      obtain ⟨g, hg1, hg2, hg3⟩ := place_found hfo
      have hgn : g.never = false := by
        rcases List.mem_append.1 (atR_mem hg1) with h | h
        · exact (fixed_ok g h).2
        · exact hno g h
      have hgf : g = f := fd_ext.1 ⟨hg2, hg3, hgn.trans hn'.symm⟩
      rw [fieldR, if_pos (by have : (2 : Nat) ^ 7 = 128 := rfl; omega), bitsW, if_neg hn, if_pos hfo, idxR, hw, numR_numW (by omega) (by omega) (by decide)]
      simp only [hg1, Option.map_some, hgf]
    · have hw : fieldW l f = nameW (placeOf l f) 6 f ++ wordW f.val := by rw [fieldW, if_neg hn, if_neg hfo]
      have hfst := first_lit (n := placeOf l f) (bits := 6) (.inr rfl) ((if placeOf l f = 0 then wordW f.name else []) ++ wordW f.val ++ rest)
      have hc : (fieldW l f ++ rest) = numW (placeOf l f) 6 1 ++ ((if placeOf l f = 0 then wordW f.name else []) ++ wordW f.val ++ rest) := by rw [hw, nameW]; simp [List.append_assoc]
      rw [← hc] at hfst
      have h64 : (2 : Nat) ^ 6 = 64 := rfl
      rw [fieldR, if_neg (by omega), if_pos (by omega), bitsW, if_neg hn, if_neg hfo, hw, litR_back hf hl (.inr rfl)]
      congr 2
      cases f
      cases hn'
      rfl

theorem headR_back : ∀ (h : List Fd) (l : List Fd) (max : Int) (c k : Nat), (∀ f ∈ h, fieldOk f = true) → l.length + h.length ≤ 50 → (∀ g ∈ l, g.never = false) → c + h.length ≤ 6 → (headW l max h).2.length ≤ k → headR k l max (headW l max h).2 c = some ((headW l max h).1, h)
  | [], l, max, c, k, _, _, _, _, _ => by rw [headW_nil, headR_nil]
  | f :: h, l, max, c, k, hh, hl, hno, hc, hk => by
    have hfo := hh f (by simp)
    simp only [List.length_cons] at hl hc
    have hb := fieldR_back hfo (by omega : l.length ≤ 50) hno (headW (tabW l max f) max h).2
    have e2 : (headW l max (f :: h)).2 = fieldW l f ++ (headW (tabW l max f) max h).2 := rfl
    have e1 : (headW l max (f :: h)).1 = (headW (tabW l max f) max h).1 := rfl
    have hpos : 1 ≤ (fieldW l f).length := by
      have h36 := fieldW_len36 (l := l) hfo (by omega)
      have := (fieldR_bound (l := l) (b := fieldW l f ++ []) (by simp; omega) (fieldR_back hfo (by omega) hno [])).1
      exact this
    rw [e2, List.length_append] at hk
    obtain ⟨k, rfl⟩ : ∃ j, k = j + 1 := ⟨k - 1, by omega⟩
    rw [e2, e1, headR, if_neg (fun e => by have := congrArg List.length e; simp at this; rw [this.1] at hpos; simp at hpos), hb]
    simp only [List.drop_left]
    rw [if_neg (by omega)]
    have htab : (if bitsW l f = 6 then fitL (f :: l) max else l) = tabW l max f := by
      unfold bitsW tabW
      split
      · rfl
      · split <;> rfl
    have hlen := tabW_len l max f
    rw [htab, headR_back h (tabW l max f) max (c + 1) k (fun g hg => hh g (by simp [hg])) (by omega) (fun g hg => ?_) (by omega) (by omega)]
    · rfl
    · unfold tabW at hg
      split at hg
      · exact hno g hg
      · rename_i hn
        split at hg
        · exact hno g hg
        · rcases List.mem_cons.1 ((fitL_sub (f :: l) max).1 g hg) with rfl | h'
          · simpa using hn
          · exact hno g h'

theorem headW_len : ∀ (h : List Fd) (l : List Fd) (max : Int), (∀ f ∈ h, fieldOk f = true) → l.length + h.length ≤ 50 → (headW l max h).2.length ≤ 36 * h.length
  | [], l, max, _, _ => by simp [headW]
  | f :: h, l, max, hh, hl => by
    simp only [List.length_cons] at hl
    have h1 := fieldW_len36 (l := l) (hh f (by simp)) (by omega)
    have h2 := tabW_len l max f
    have h3 := headW_len h (tabW l max f) max (fun g hg => hh g (by simp [hg])) (by omega)
    simp only [headW, List.length_append, List.length_cons]
    omega

/-- A head that was written by a table is read back by it. -/
theorem head_back {l h : List Fd} {max : Int} (ht : tableOk l max = true) (hk : headOk h = true) : hrM l max (headW l max h).2 = some ((headW l max h).1, h) := by
  obtain ⟨t1, t2, t3, t4, t5⟩ := tableOk_parts ht
  obtain ⟨k1, k2⟩ := headOk_parts hk
  have hl := headW_len h l max k1 (by omega)
  rw [hrM, if_pos ⟨ht, by omega⟩]
  exact headR_back h l max 0 _ k1 (by omega) (fun g hg => (t4 g hg).2) (by omega) (Nat.le_refl _)

end Go.Proofs.Ytblbaniokmgjgaa
