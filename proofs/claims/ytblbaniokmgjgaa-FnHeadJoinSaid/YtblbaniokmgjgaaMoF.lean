/- Plain laws of heads: tables stay tables; what is read is a head; bytes of two heads are those of one. -/
import Derived.Test.YtblbaniokmgjgaaMoE
namespace Go.Proofs.Ytblbaniokmgjgaa
open Go
set_option linter.unusedVariables false
set_option linter.unusedSimpArgs false

theorem fitN_size : ∀ (n : Nat) (l : List Fd) (max : Int), 0 ≤ max → l.length ≤ n → ((fdsSize (fitN l max n) : Nat) : Int) ≤ max
  | 0, l, max, hm, hl => by
    have : l = [] := List.length_eq_zero_iff.1 (by omega)
    subst this
    simpa [fitN, fdsSize] using hm
  | n + 1, l, max, hm, hl => by
    rw [fitN]
    split
    · exact fitN_size n l.dropLast max hm (by simp; omega)
    · omega
theorem tableOk_of {l : List Fd} {max : Int} (h1 : ∀ f ∈ l, fieldOk f = true ∧ f.never = false) (h2 : 0 ≤ max ∧ max ≤ 64) (h3 : ((fdsSize l : Nat) : Int) ≤ max) : tableOk l max = true := by
  simp only [tableOk, Bool.and_eq_true, List.all_eq_true, decide_eq_true_eq, Bool.not_eq_true']
  exact ⟨⟨h1, h2⟩, h3⟩
theorem tableOk_tabW {l : List Fd} {max : Int} {f : Fd} (ht : tableOk l max = true) (hf : fieldOk f = true) : tableOk (tabW l max f) max = true := by
  obtain ⟨t1, t2, t3, t4, t5⟩ := tableOk_parts ht
  unfold tabW
  split
  · exact ht
  · rename_i hn
    split
    · exact ht
    · refine tableOk_of (fun g hg => ?_) ⟨t2, t3⟩ (fitN_size _ _ _ t2 (Nat.le_refl _))
      rcases List.mem_cons.1 ((fitL_sub (f :: l) max).1 g hg) with rfl | h'
      · exact ⟨hf, by simpa using hn⟩
      · exact t4 g h'
theorem tableOk_headW : ∀ (h : List Fd) (l : List Fd) (max : Int), tableOk l max = true → (∀ f ∈ h, fieldOk f = true) → tableOk (headW l max h).1 max = true
  | [], l, max, ht, _ => ht
  | f :: h, l, max, ht, hh => tableOk_headW h (tabW l max f) max (tableOk_tabW ht (hh f (by simp))) (fun g hg => hh g (by simp [hg]))

theorem fitL_ok {l : List Fd} {max : Int} {f : Fd} (ht : tableOk l max = true) (hf : fieldOk f = true) (hn : f.never = false) : tableOk (fitL (f :: l) max) max = true := by
  obtain ⟨t1, t2, t3, t4, t5⟩ := tableOk_parts ht
  refine tableOk_of (fun g hg => ?_) ⟨t2, t3⟩ (fitN_size _ _ _ t2 (Nat.le_refl _))
  rcases List.mem_cons.1 ((fitL_sub (f :: l) max).1 g hg) with rfl | h'
  · exact ⟨hf, hn⟩
  · exact t4 g h'

/-- What one field that is read does to the table. -/
theorem field_tab {l : List Fd} {max : Int} {b : List UInt8} {f : Fd} {s bits : Nat} (ht : tableOk l max = true) (hb : b.length ≤ 1000000) (h : fieldR l b = some (f, s, bits)) :
    fieldOk f = true ∧ tableOk (if bits = 6 then fitL (f :: l) max else l) max = true := by
  obtain ⟨t1, t2, t3, t4, t5⟩ := tableOk_parts ht
  obtain ⟨_, _, _, b4⟩ := fieldR_bound hb h
  rcases b4 with ⟨e7, hm⟩ | ⟨_, hk, hn⟩
  · refine ⟨?_, by rw [if_neg (by omega)]; exact ht⟩
    rcases List.mem_append.1 hm with g | g
    · exact (fixed_ok f g).1
    · exact (t4 f g).1
  · refine ⟨hk, ?_⟩
    split
    · rename_i h6
      subst h6
      exact fitL_ok ht hk hn
    · exact ht

theorem headR_good : ∀ (k : Nat) (l : List Fd) (max : Int) (b : List UInt8) (c : Nat) (x h : List Fd), tableOk l max = true → b.length ≤ 1000000 → c ≤ 6 → headR k l max b c = some (x, h) →
    tableOk x max = true ∧ (∀ f ∈ h, fieldOk f = true) ∧ c + h.length ≤ 6
  | 0, l, max, b, c, x, h, ht, hb, hc, he => by
    rw [headR] at he
    split at he
    · cases he; exact ⟨ht, by simp, by simpa using hc⟩
    · cases he
  | k + 1, l, max, b, c, x, h, ht, hb, hc, he => by
    rw [headR] at he
    split at he
    · cases he; exact ⟨ht, by simp, by simpa using hc⟩
    · split at he
      · cases he
      · rename_i f s bits hf
        split at he
        · cases he
        · rename_i hc6
          obtain ⟨g1, g2⟩ := field_tab ht hb hf
          cases hr : headR k (if bits = 6 then fitL (f :: l) max else l) max (b.drop s) (c + 1) with
          | none => rw [hr] at he; cases he
          | some y =>
            obtain ⟨x', h'⟩ := y
            rw [hr] at he
            cases he
            obtain ⟨k1, k2, k3⟩ := headR_good k _ max _ _ _ _ g2 (by simp; omega) (by omega) hr
            refine ⟨k1, fun g hg => ?_, by simp; omega⟩
            rcases List.mem_cons.1 hg with rfl | hg
            · exact g1
            · exact k2 g hg

theorem hrM_good {l : List Fd} {max : Int} {b : List UInt8} {x h : List Fd} (he : hrM l max b = some (x, h)) : tableOk l max = true ∧ b.length ≤ 250 ∧ tableOk x max = true ∧ headOk h = true := by
  unfold hrM at he
  split at he
  · rename_i hc
    obtain ⟨h1, h2, h3⟩ := headR_good _ _ _ _ _ _ _ hc.1 (by omega) (by omega) he
    refine ⟨hc.1, hc.2, h1, ?_⟩
    simp only [headOk, Bool.and_eq_true, List.all_eq_true, decide_eq_true_eq]
    exact ⟨h2, by omega⟩
  · cases he

theorem tailR_app : ∀ (k : Nat) (r q : List UInt8) (v n : Nat), tailR k r = some (v, n) → tailR k (r ++ q) = some (v, n)
  | 0, r, q, v, n, h => by simp [tailR] at h
  | k + 1, [], q, v, n, h => by simp [tailR] at h
  | k + 1, c :: r, q, v, n, h => by
    rw [List.cons_append, tailR]
    rw [tailR] at h
    split at h
    · rename_i hc; rw [if_pos hc]; exact h
    · rename_i hc
      rw [if_neg hc]
      cases ht : tailR k r with
      | none => rw [ht] at h; cases h
      | some y =>
        obtain ⟨v', n'⟩ := y
        rw [ht] at h
        rw [tailR_app k r q v' n' ht]
        exact h

theorem numR_app {b : List UInt8} {bits v n : Nat} (q : List UInt8) (h : numR b bits = some (v, n)) : numR (b ++ q) bits = some (v, n) := by
  cases b with
  | nil => simp [numR] at h
  | cons c r =>
    simp only [List.cons_append, numR] at h ⊢
    split at h
    · rename_i hc; rw [if_pos hc]; exact h
    · rename_i hc
      rw [if_neg hc]
      cases ht : tailR 3 r with
      | none => rw [ht] at h; cases h
      | some y =>
        obtain ⟨v', n'⟩ := y
        rw [ht] at h
        rw [tailR_app 3 r q v' n' ht]
        have hb := tailR_bound 3 r v' n' ht
        simp only at h ⊢
        rw [List.take_append_of_le_length hb.2.2.1]
        exact h

theorem wordR_app {b w : List UInt8} {n : Nat} (q : List UInt8) (h : wordR b = some (w, n)) : wordR (b ++ q) = some (w, n) := by
  unfold wordR at h ⊢
  cases hn : numR b 7 with
  | none => rw [hn] at h; cases h
  | some y =>
    obtain ⟨k, s⟩ := y
    obtain ⟨h1, h2, h3, h4⟩ := numR_bound (by decide) hn
    rw [hn] at h
    rw [numR_app q hn]
    simp only at h ⊢
    split at h
    · rename_i hc
      rw [if_pos ⟨hc.1, by simp; omega⟩]
      have e0 : (b ++ q).getD 0 0 = b.getD 0 0 := by
        cases b with
        | nil => simp at h4; omega
        | cons c r => rfl
      have e1 : ((b ++ q).drop s).take k = (b.drop s).take k := by
        rw [List.drop_append_of_le_length h4, List.take_append_of_le_length (by simp; omega)]
      rw [e0, e1]
      exact h
    · cases h

theorem litR_app {l : List Fd} {b : List UInt8} {w : Nat} {y : Fd × Nat × Nat} (hw : w ≤ 7) (q : List UInt8) (h : litR l b w = some y) : litR l (b ++ q) w = some y := by
  unfold litR at h ⊢
  cases hn : numR b w with
  | none => rw [hn] at h; cases h
  | some z =>
    obtain ⟨p, s⟩ := z
    obtain ⟨h1, h2, h3, h4⟩ := numR_bound hw hn
    rw [hn] at h
    rw [numR_app q hn]
    simp only at h ⊢
    cases hnm : nameR l b p s with
    | none => rw [hnm] at h; cases h
    | some u =>
      obtain ⟨nm, s2⟩ := u
      rw [hnm] at h
      have hn2 : nameR l (b ++ q) p s = some (nm, s2) ∧ s2 ≤ b.length := by
        unfold nameR at hnm ⊢
        split at hnm
        · rename_i hp
          rw [if_pos hp, List.drop_append_of_le_length h4]
          cases hwr : wordR (b.drop s) with
          | none => rw [hwr] at hnm; cases hnm
          | some a =>
            obtain ⟨a, n⟩ := a
            rw [hwr] at hnm
            rw [wordR_app q hwr]
            have := (wordR_bound hwr).2.2
            simp only [List.length_drop] at this
            cases hnm
            exact ⟨rfl, by simp only; omega⟩
        · rename_i hp
          rw [if_neg hp]
          cases hat : atR l p with
          | none => rw [hat] at hnm; cases hnm
          | some g => rw [hat] at hnm; cases hnm; exact ⟨rfl, h4⟩
      rw [hn2.1]
      simp only at h ⊢
      rw [List.drop_append_of_le_length hn2.2]
      cases hv : wordR (b.drop s2) with
      | none => rw [hv] at h; cases h
      | some a =>
        obtain ⟨a, n⟩ := a
        rw [hv] at h
        rw [wordR_app q hv]
        exact h

theorem fieldR_app {l : List Fd} {b : List UInt8} {y : Fd × Nat × Nat} (hne : b ≠ []) (q : List UInt8) (h : fieldR l b = some y) : fieldR l (b ++ q) = some y := by
  unfold fieldR at h ⊢
  have e0 : (b ++ q).getD 0 0 = b.getD 0 0 := by
    cases b with
    | nil => exact absurd rfl hne
    | cons c r => rfl
  rw [e0]
  split at h
  · rename_i hc
    rw [if_pos hc]
    unfold idxR at h ⊢
    cases hn : numR b 7 with
    | none => rw [hn] at h; cases h
    | some z => rw [hn] at h; rw [numR_app q hn]; exact h
  · rename_i hc
    rw [if_neg hc]
    split at h
    · rename_i hc2
      rw [if_pos hc2]; exact litR_app (by decide) q h
    · rename_i hc2
      rw [if_neg hc2]
      split at h
      · rename_i hc3
        rw [if_pos hc3]; exact litR_app (by decide) q h
      · cases h

theorem headR_app : ∀ (n : Nat) (b q : List UInt8), b.length ≤ n → b.length + q.length ≤ 1000000 → ∀ (l : List Fd) (max : Int) (c : Nat) (x h : List Fd), headR b.length l max b c = some (x, h) →
    headR (b ++ q).length l max (b ++ q) c = (headR q.length x max q (c + h.length)).map (fun y => (y.1, h ++ y.2))
  | n, [], q, hn, hq, l, max, c, x, h, he => by
    rw [headR_nil] at he
    cases he
    simp only [List.nil_append, List.length_nil, Nat.add_zero]
    cases headR q.length l max q c <;> rfl
  | 0, a :: r, q, hn, hq, l, max, c, x, h, he => by simp at hn
  | n + 1, a :: r, q, hn, hq, l, max, c, x, h, he => by
    have hne : a :: r ≠ [] := by simp
    simp only [List.length_cons] at hn hq
    have hlen : (a :: r ++ q).length = (r ++ q).length + 1 := by simp
    rw [hlen, headR, if_neg (by simp)]
    rw [List.length_cons, headR, if_neg hne] at he
    cases hf : fieldR l (a :: r) with
    | none => rw [hf] at he; cases he
    | some y =>
      obtain ⟨f, s, bits⟩ := y
      rw [hf] at he
      rw [fieldR_app hne q hf]
      obtain ⟨b1, b2, _⟩ := fieldR_bound (by simp; omega) hf
      simp only [List.length_cons] at b2
      simp only at he ⊢
      split at he
      · cases he
      · rename_i hc6
        rw [if_neg hc6]
        have hdl : ((a :: r).drop s).length = r.length + 1 - s := by simp [List.length_drop]
        rw [headR_fuel (r.length + 1) ((a :: r).drop s) (by omega) (by omega) r.length _ max (c + 1) (by omega)] at he
        cases hr : headR ((a :: r).drop s).length (if bits = 6 then fitL (f :: l) max else l) max ((a :: r).drop s) (c + 1) with
        | none => rw [hr] at he; cases he
        | some z =>
          obtain ⟨x', h'⟩ := z
          rw [hr] at he
          cases he
          have ih := headR_app n ((a :: r).drop s) q (by omega) (by omega) _ max (c + 1) _ _ hr
          have hd : (a :: r ++ q).drop s = (a :: r).drop s ++ q := List.drop_append_of_le_length (by simp; omega)
          rw [hd, headR_fuel (r.length + 1 + q.length) ((a :: r).drop s ++ q) (by rw [List.length_append]; omega) (by rw [List.length_append]; omega) _ _ max (c + 1) (by rw [List.length_append, List.length_append]; omega), ih, Option.map_map]
          rw [List.length_cons, show c + 1 + h'.length = c + (h'.length + 1) by omega]
          rfl

/-- Bytes of two heads, one behind the other, are those of one. -/
theorem head_join {l : List Fd} {max : Int} {b : List UInt8} {x h g : List Fd} (he : hrM l max b = some (x, h)) (hg : ∀ f ∈ g, fieldOk f = true) (hlen : h.length + g.length ≤ 6) (hb : b.length + (headW x max g).2.length ≤ 250) :
    hrM l max (b ++ (headW x max g).2) = some ((headW x max g).1, h ++ g) := by
  obtain ⟨h1, h2, h3, h4⟩ := hrM_good he
  obtain ⟨t1, t2, t3, t4, t5⟩ := tableOk_parts h3
  have he' : headR b.length l max b 0 = some (x, h) := by rw [hrM, if_pos ⟨h1, h2⟩] at he; exact he
  rw [hrM, if_pos ⟨h1, by rw [List.length_append]; exact hb⟩, headR_app b.length b _ (Nat.le_refl _) (by omega) l max 0 x h he', headR_back g x max (0 + h.length) _ hg (by omega) (fun f hf => (t4 f hf).2) (by omega) (Nat.le_refl _)]
  rfl

/-- What begins no field begins no head. -/
theorem hrM_bad {l : List Fd} {max : Int} {b : List UInt8} (hne : b ≠ []) (h : fieldR l b = none) : hrM l max b = none := by
  unfold hrM
  split
  · obtain ⟨k, hk⟩ : ∃ k, b.length = k + 1 := ⟨b.length - 1, by have := List.length_pos_iff.2 hne; omega⟩
    rw [hk, headR, if_neg hne, h]
  · rfl

theorem bad_first {l : List Fd} {c : UInt8} {r : List UInt8} (h : (32 ≤ c.toNat ∧ c.toNat < 64) ∨ c.toNat < 16) : fieldR l (c :: r) = none := by
  unfold fieldR
  have e : ((c :: r).getD 0 0) = c := rfl
  rw [e, if_neg (by omega), if_neg (by omega), if_neg (by omega)]

theorem bad_place {l : List Fd} {c : UInt8} (h1 : 128 ≤ c.toNat) (h2 : c.toNat < 255) (h3 : c.toNat = 128 ∨ l.length + 6 < c.toNat - 128) : fieldR l [c] = none := by
  unfold fieldR
  have e : (([c] : List UInt8).getD 0 0) = c := rfl
  rw [e, if_pos h1, idxR]
  have hn : numR [c] 7 = some (c.toNat - 128, 1) := by
    have e7 : (2 : Nat) ^ 7 = 128 := rfl
    have hm : c.toNat % 2 ^ 7 = c.toNat - 128 := by rw [e7]; omega
    simp only [numR]
    rw [hm, if_pos (by rw [e7]; omega)]
  rw [hn]
  simp only [atR]
  rw [if_neg (by omega)]
  rfl

end Go.Proofs.Ytblbaniokmgjgaa
