/- Contracts: words, of the other package. -/
import Derived.Test.YtblbaniokmgjgaaCaB
namespace Go.Proofs.Ytblbaniokmgjgaa
open Go
set_option linter.unusedVariables false
set_option linter.unusedSimpArgs false

def b8V (n : Nat) : V := u8V (by8 n)
@[push_cast] theorem all_b8_len (l : List Nat) : (l.map b8V).all (lenIs 1) = true := by induction l <;> simp_all [lenIs, b8V, u8V, V.cells]

theorem bitsOf_cons (n m : Nat) : bitsOf n (m + 1) = (n / 2 ^ m % 2) :: bitsOf n m := by
  induction m generalizing n with
  | zero => simp [bitsOf]
  | succ m ih =>
    rw [bitsOf, ih, bitsOf]
    simp [Nat.div_div_eq_div_mul, Nat.pow_succ, Nat.mul_comm]

/-- The bits that a row holds, behind a variable. -/
def RowAt (S : List Blk) (b n0 : Nat) (l : List Nat) : Prop :=
  n0 ≤ b ∧ ((S[b]? = some (.cells 0 [.nils]) ∧ l = []) ∨ ∃ τ, n0 ≤ τ ∧ τ ≠ b ∧ S[b]? = some (.cells 0 [.rows (some τ) (l.map b8V)]) ∧ S[τ]? = some (.right 1))

theorem add_ok (b n many n0 : Nat) (l : List Nat) (hn : n < 256) (hm : many ≤ 8) (hl : l.length ≤ 1000000) (S : List Blk) (hR : RowAt S b n0 l) :
    VCall Try.prog 93 [.ptr b 0, .int .i64 n, .int .i64 many] S fun r S' => RowAt S' b n0 (l ++ bitsOf n many) ∧ S.length ≤ S'.length ∧ ∀ j, j < n0 → S'[j]? = S[j]? := by
  refine VCall.of_ev hD (fun _ => false) (fun id => if id = 3 then [12, 10, 10, 10, 9, 9, 9, 9, 9, 10, 12, 12, 13] else []) (n := 24) Try.func93 rfl rfl Try.ntmps93 (by kernel_rfl) (by kernel_rfl) (congrArg Array.toList Try.results93) (by simp) ?_
  simp (implicitDefEqProofs := false) (disch := omega) only [push_cast, ↓guardK_tt, ↓guardK_ff, ↓guardK_tf, ↓guardK_ft, ↓condK_t, ↓condK_f, ↓reduceIte, Nat.reduceEqDiff, reduceCtorEq, Nat.reduceAdd, Nat.reduceSub, Nat.reduceMul, Nat.reduceLT, Nat.reduceLeDiff, Int.reduceToNat, Int.reduceLE, Int.reduceLT, Int.reduceEq, Int.reduceNe, Int.reduceAdd, Int.reduceSub, Nat.reduceBEq, Option.some.injEq]
  refine wpV_loop (fun m t S' => ∃ d, m ≤ many ∧ d.length ≤ 8 ∧ t 0 = .ptr b 0 ∧ t 1 = .int .i64 n ∧ t 2 = .int .i64 ((m : Int) - 1) ∧ d ++ bitsOf n m = bitsOf n many ∧ RowAt S' b n0 (l ++ d) ∧ S.length ≤ S'.length ∧ ∀ j, j < n0 → S'[j]? = S[j]?) many
    ⟨[], by omega, by simp, rfl, rfl, rfl, rfl, by simpa using hR, by omega, fun _ _ => rfl⟩ ?_
  rintro m t S' ⟨d, hmm, hd8, h0, h1, h2, hbits, ⟨hb0, hrow⟩, hlen, hold⟩
  refine wpV_of hD (fun _ => false) (fun id => if id = 3 then [12, 10, 10, 10, 9, 9, 9, 9, 9, 10, 12, 12, 13] else []) (by kernel_rfl) ?_
  have hbit : ∀ k : Nat, k ≤ 8 → V.int .u8 (IntKind.u8.wrap (intBits .and .i64 (Int.fdiv (n : Int) (2 ^ min k 64)) 1)) = b8V (n / 2 ^ k % 2) := by
    intro k hk
    have h1 : n / 2 ^ k ≤ n := Nat.div_le_self _ _
    rw [show min k 64 = k by omega, fdiv_pow, show (1 : Int) = ((1 : Nat) : Int) from rfl, and_nat (by omega) (by decide), show (1 : Nat) = 2 ^ 1 - 1 from rfl, Nat.and_two_pow_sub_one_eq_mod, u8V_of]
    rfl
  have hbl : b < S'.length := by
    rcases Nat.lt_or_ge b S'.length with g | g
    · exact g
    · rcases hrow with ⟨h, _⟩ | ⟨_, _, _, h, _⟩ <;> (rw [List.getElem?_eq_none g] at h; cases h)
  rcases hrow with ⟨hSb, hl0⟩ | ⟨τ, hτ0, hτb, hSb, hSτ⟩
  · simp (implicitDefEqProofs := false) (disch := omega) only [push_cast, h0, h1, h2, hSb, ↓guardK_tt, ↓guardK_ff, ↓guardK_tf, ↓guardK_ft, ↓condK_t, ↓condK_f, ↓reduceIte, Nat.reduceEqDiff, reduceCtorEq, Nat.reduceAdd, Nat.reduceSub, Nat.reduceMul, Nat.reduceLT, Nat.reduceLeDiff, Int.reduceToNat, Int.reduceLE, Int.reduceLT, Int.reduceEq, Int.reduceNe, Int.reduceAdd, Int.reduceSub, Nat.reduceBEq, Option.some.injEq]
    refine ⟨fun h => ?_, fun h => ?_⟩
    · obtain ⟨k, rfl⟩ : ∃ k, m = k + 1 := ⟨m - 1, by omega⟩
      obtain ⟨hla, hda⟩ := List.append_eq_nil_iff.1 hl0
      subst hla hda
      refine ⟨h, k, by omega, [n / 2 ^ k % 2], by omega, by simp, by congr 1; omega, by rw [← hbits, bitsOf_cons]; simp, ⟨hb0, .inr ⟨S'.length + 1, by omega, by omega, ?_, ?_⟩⟩, by omega, fun j hj => ?_⟩
      · rw [show (((k + 1 : Nat) : Int) - 1).toNat = k by omega, hbit k (by omega), List.getElem?_set_self (by simp; omega)]
        simp
      · rw [List.getElem?_set_ne (by omega), List.getElem?_append_right (by omega)]
        simp
      · rw [List.getElem?_set_ne (by omega), List.getElem?_append_left (by omega)]
        exact hold j hj
    · have : m = 0 := by omega
      subst this
      have hd : d = bitsOf n many := by simpa [bitsOf] using hbits
      exact ⟨_, _, Wk.refl _ _ _, ⟨hb0, .inl ⟨hSb, by rw [← hd]; exact hl0⟩⟩, hlen, hold⟩
  · have hg : ((S' ++ [Blk.right 1]).set τ .dead ++ [.right 1])[b]? = some (Blk.cells 0 [V.rows (some τ) (List.map b8V (l ++ d))]) := by
      rw [List.getElem?_append_left (by simp; omega), List.getElem?_set_ne hτb, List.getElem?_append_left hbl, hSb]
    simp only [List.map_append] at hg
    simp (implicitDefEqProofs := false) (disch := omega) only [push_cast, h0, h1, h2, hSb, hSτ, hg, ↓guardK_tt, ↓guardK_ff, ↓guardK_tf, ↓guardK_ft, ↓condK_t, ↓condK_f, ↓reduceIte, Nat.reduceEqDiff, reduceCtorEq, Nat.reduceAdd, Nat.reduceSub, Nat.reduceMul, Nat.reduceLT, Nat.reduceLeDiff, Int.reduceToNat, Int.reduceLE, Int.reduceLT, Int.reduceEq, Int.reduceNe, Int.reduceAdd, Int.reduceSub, Nat.reduceBEq, Option.some.injEq]
    refine ⟨fun h => ?_, fun h => ?_⟩
    · obtain ⟨k, rfl⟩ : ∃ k, m = k + 1 := ⟨m - 1, by omega⟩
      have hdl : d.length + (k + 1) = many := by have := congrArg List.length hbits; simpa [bitsOf_len] using this
      refine ⟨h, by omega, k, by omega, d ++ [n / 2 ^ k % 2], by omega, by simp; omega, by congr 1; omega, by rw [← hbits, bitsOf_cons]; simp, ⟨hb0, .inr ⟨S'.length + 1, by omega, by omega, ?_, ?_⟩⟩, by omega, fun j hj => ?_⟩
      · rw [show (((k + 1 : Nat) : Int) - 1).toNat = k by omega, hbit k (by omega), List.getElem?_set_self (by simp; omega)]
        simp
      · rw [List.getElem?_set_ne (by omega), List.getElem?_append_right (by simp)]
        simp
      · rw [List.getElem?_set_ne (by omega), List.getElem?_append_left (by simp; omega), List.getElem?_set_ne (by omega), List.getElem?_append_left (by omega)]
        exact hold j hj
    · have : m = 0 := by omega
      subst this
      have hd : d = bitsOf n many := by simpa [bitsOf] using hbits
      exact ⟨_, _, Wk.refl _ _ _, ⟨hb0, .inr ⟨τ, hτ0, hτb, by rw [← hd]; exact hSb, hSτ⟩⟩, hlen, hold⟩

theorem getD_b8 {l : List Nat} {i : Nat} (h : i < l.length) : (l.map b8V).getD i .junk = b8V (l.getD i 0) := by
  simp [List.getD, List.getElem?_eq_getElem h]
theorem b8V_eq {n : Nat} (h : n ≤ 1) : b8V n = .int .u8 (n : Int) := by
  rcases (by omega : n = 0 ∨ n = 1) with rfl | rfl <;> rfl

theorem number_ok (l : List Nat) (a n : Nat) (hl : l.length ≤ 1000000) (han : a + n ≤ l.length) (hn : n ≤ 8) (hb : ∀ b ∈ l, b ≤ 1) (S : List Blk) :
    VCall Try.prog 94 [.rows none (l.map b8V), .int .i64 a, .int .i64 n] S fun r S' => r = .int .i64 (numOf ((l.drop a).take n)) ∧ S' = S := by
  obtain ⟨q, hq⟩ : ∃ q, q = (l.drop a).take n := ⟨_, rfl⟩
  have hqn : q.length = n := by rw [hq]; simp; omega
  have hqb : ∀ b ∈ q, b ≤ 1 := fun b h => by rw [hq] at h; exact hb b (List.mem_of_mem_drop (List.mem_of_mem_take h))
  have ech : List.drop a (List.take (a + n) (l.map b8V)) = q.map b8V := by rw [hq, List.drop_take, Nat.add_sub_cancel_left, List.map_take, List.map_drop]
  have e1 : ((a : Int) + (n : Int)).toNat = a + n := by omega
  rw [← hq]
  refine VCall.of_ev hD (fun _ => false) (fun _ => []) (n := 28) Try.func94 rfl rfl Try.ntmps94 (by kernel_rfl) (by kernel_rfl) (congrArg Array.toList Try.results94) (by simp) ?_
  simp (implicitDefEqProofs := false) (disch := omega) only [push_cast, e1, ech, ↓guardK_tt, ↓guardK_ff, ↓guardK_tf, ↓guardK_ft, ↓condK_t, ↓condK_f, ↓reduceIte, Nat.reduceEqDiff, reduceCtorEq, Nat.reduceAdd, Nat.reduceSub, Nat.reduceMul, Nat.reduceLT, Nat.reduceLeDiff, Int.reduceToNat, Int.reduceLE, Int.reduceLT, Int.reduceEq, Int.reduceNe, Int.reduceAdd, Int.reduceSub, Nat.reduceBEq, Option.some.injEq]
  refine ⟨by omega, by omega, by omega, ?_⟩
  refine wpV_loop (fun m t S' => ∃ i : Nat, m = n - i ∧ i ≤ n ∧ t 7 = .int .i64 (numOf (q.take i)) ∧ t 15 = .rows none (q.map b8V) ∧ t 16 = .int .i64 n ∧ t 17 = .int .i64 i ∧ S' = S) n ⟨0, by omega, by omega, rfl, rfl, congrArg (fun (x : Nat) => V.int .i64 (x : Int)) hqn, rfl, rfl⟩ ?_
  rintro m t S' ⟨i, rfl, hi, h7, h15, h16, h17, rfl⟩
  have hlt := numOf_lt (q.take i) (fun b hbb => hqb b (List.mem_of_mem_take hbb))
  have hp : 2 ^ (q.take i).length ≤ 2 ^ 8 := Nat.pow_le_pow_right (by omega) (by simp; omega)
  refine wpV_of hD (fun _ => false) (fun _ => []) (by kernel_rfl) ?_
  simp (implicitDefEqProofs := false) (disch := omega) only [push_cast, h7, h15, h16, h17, ↓guardK_tt, ↓guardK_ff, ↓guardK_tf, ↓guardK_ft, ↓condK_t, ↓condK_f, ↓reduceIte, Nat.reduceEqDiff, reduceCtorEq, Nat.reduceAdd, Nat.reduceSub, Nat.reduceMul, Nat.reduceLT, Nat.reduceLeDiff, Int.reduceToNat, Int.reduceLE, Int.reduceLT, Int.reduceEq, Int.reduceNe, Int.reduceAdd, Int.reduceSub, Nat.reduceBEq, Option.some.injEq]
  refine ⟨fun h => ?_, fun h => fin0 ?_⟩
  · have hil : i < q.length := by omega
    have hbi : q.getD i 0 ≤ 1 := by rw [List.getD, List.getElem?_eq_getElem hil]; exact hqb _ (List.getElem_mem hil)
    rw [getD_b8 hil, b8V_eq hbi]
    simp (implicitDefEqProofs := false) (disch := omega) only [push_cast, h7, h15, h16, h17, ↓guardK_tt, ↓guardK_ff, ↓guardK_tf, ↓guardK_ft, ↓condK_t, ↓condK_f, ↓reduceIte, Nat.reduceEqDiff, reduceCtorEq, Nat.reduceAdd, Nat.reduceSub, Nat.reduceMul, Nat.reduceLT, Nat.reduceLeDiff, Int.reduceToNat, Int.reduceLE, Int.reduceLT, Int.reduceEq, Int.reduceNe, Int.reduceAdd, Int.reduceSub, Nat.reduceBEq, Option.some.injEq]
    refine ⟨by omega, by omega, n - (i + 1), by omega, i + 1, rfl, by omega, ?_, by simp⟩
    have hx : numOf (q.take i) ≤ 256 := by omega
    have e2 : IntKind.i64.wrap ((numOf (q.take i) : Int) * 2 ^ min 1 64) = ((numOf (q.take i) * 2 : Nat) : Int) := by
      rw [show ((numOf (q.take i) : Int) * 2 ^ min 1 64) = ((numOf (q.take i) * 2 : Nat) : Int) by simp]
      exact i64_fit _ (by omega)
    rw [e2, or_nat (by omega) (by omega), or_add (p := 2) (bits := 1) rfl rfl (by omega), take_getD hil, numOf_append, Nat.mul_comm]
  · have : i = n := by omega
    subst this
    rw [List.take_of_length_le (by omega)]

theorem wordOk_signs {w : List UInt8} (h : wordOk w = true) : (∀ c ∈ w, 0 ≤ signAt c) ∧ w.length ≤ 16 := by
  simp only [wordOk, Bool.and_eq_true, List.all_eq_true, decide_eq_true_eq] at h
  exact h

theorem grown {S S' : List Blk} (h : S.length ≤ S'.length) (ho : ∀ j, j < S.length → S'[j]? = S[j]?) : ∃ X, S' = S ++ X := by
  refine ⟨S'.drop S.length, List.ext_getElem? (fun j => ?_)⟩
  rcases Nat.lt_or_ge j S.length with g | g
  · rw [ho j g, List.getElem?_append_left g]
  · rw [List.getElem?_append_right g, List.getElem?_drop]; congr 1; omega

/-- Bytes that are gathered: none yet, or a slice with its right. -/
def OutAt (S S' : List Blk) (v : V) (o : List UInt8) : Prop := (v = .nils ∧ o = [] ∧ S' = S) ∨ ∃ τ, v = .rows (some τ) (o.map u8V) ∧ Tok S S' τ 1
theorem OutAt.old {S S' : List Blk} {v : V} {o : List UInt8} (h : OutAt S S' v o) (j : Nat) (hj : j < S.length) : S'[j]? = S[j]? := by
  rcases h with ⟨_, _, rfl⟩ | ⟨τ, _, ⟨X, rfl⟩, _, _⟩
  · rfl
  · exact List.getElem?_append_left hj

theorem WordPack_ok (w : List UInt8) (hw : w.length ≤ 1000) (S : List Blk) : VCall Try.prog 95 [.str w] S fun r S' => r = .str (if wordOk w then pack w else []) ∧ S' = S := by
  cases hok : wordOk w with
  | false =>
    refine VCall.of_ev hD (fun _ => false) (fun _ => []) (n := 49) Try.func95 rfl rfl Try.ntmps95 (by kernel_rfl) (by kernel_rfl) (congrArg Array.toList Try.results95) (by simp) ?_
    simp (implicitDefEqProofs := false) (disch := omega) only [push_cast, ↓guardK_tt, ↓guardK_ff, ↓guardK_tf, ↓guardK_ft, ↓condK_t, ↓condK_f, ↓reduceIte, Nat.reduceEqDiff, reduceCtorEq, Nat.reduceAdd, Nat.reduceSub, Nat.reduceMul, Nat.reduceLT, Nat.reduceLeDiff, Int.reduceToNat, Int.reduceLE, Int.reduceLT, Int.reduceEq, Int.reduceNe, Int.reduceAdd, Int.reduceSub, Nat.reduceBEq, Option.some.injEq]
    refine (WordOk_ok w (by omega) S).to ?_
    rw [hok]
    simp (implicitDefEqProofs := false) (disch := omega) only [push_cast, ↓guardK_tt, ↓guardK_ff, ↓guardK_tf, ↓guardK_ft, ↓condK_t, ↓condK_f, ↓reduceIte, Nat.reduceEqDiff, reduceCtorEq, Nat.reduceAdd, Nat.reduceSub, Nat.reduceMul, Nat.reduceLT, Nat.reduceLeDiff, Int.reduceToNat, Int.reduceLE, Int.reduceLT, Int.reduceEq, Int.reduceNe, Int.reduceAdd, Int.reduceSub, Nat.reduceBEq, Option.some.injEq]
    exact fin0 rfl
  | true =>
    obtain ⟨hs, h16⟩ := wordOk_signs hok
    refine VCall.of_ev hD (fun _ => false) (fun _ => []) (n := 49) Try.func95 rfl rfl Try.ntmps95 (by kernel_rfl) (by kernel_rfl) (congrArg Array.toList Try.results95) (by simp) ?_
    simp (implicitDefEqProofs := false) (disch := omega) only [push_cast, ↓guardK_tt, ↓guardK_ff, ↓guardK_tf, ↓guardK_ft, ↓condK_t, ↓condK_f, ↓reduceIte, Nat.reduceEqDiff, reduceCtorEq, Nat.reduceAdd, Nat.reduceSub, Nat.reduceMul, Nat.reduceLT, Nat.reduceLeDiff, Int.reduceToNat, Int.reduceLE, Int.reduceLT, Int.reduceEq, Int.reduceNe, Int.reduceAdd, Int.reduceSub, Nat.reduceBEq, Option.some.injEq]
    refine (WordOk_ok w (by omega) S).to ?_
    rw [hok]
    simp (implicitDefEqProofs := false) (disch := omega) only [push_cast, ↓guardK_tt, ↓guardK_ff, ↓guardK_tf, ↓guardK_ft, ↓condK_t, ↓condK_f, ↓reduceIte, Nat.reduceEqDiff, reduceCtorEq, Nat.reduceAdd, Nat.reduceSub, Nat.reduceMul, Nat.reduceLT, Nat.reduceLeDiff, Int.reduceToNat, Int.reduceLE, Int.reduceLT, Int.reduceEq, Int.reduceNe, Int.reduceAdd, Int.reduceSub, Nat.reduceBEq, Option.some.injEq]
    refine wpV_loop (fun m t S' => ∃ (i : Nat), m = w.length - i ∧ i ≤ w.length ∧ t 0 = .str w ∧ t 3 = .ptr S.length 0 ∧ t 12 = .int .i64 w.length ∧ t 13 = .int .i64 i ∧ RowAt S' S.length S.length ((w.take i).flatMap codeOf) ∧ S.length < S'.length ∧ ∀ j, j < S.length → S'[j]? = S[j]?) w.length
      ⟨0, by omega, by omega, rfl, rfl, rfl, rfl, ⟨Nat.le_refl _, .inl ⟨by simp, by simp⟩⟩, by simp, fun j hj => by rw [List.getElem?_append_left hj]⟩ ?_
    rintro m t S' ⟨i, rfl, hi, h0, h3, h12, h13, hR, hlt, hold⟩
    have hlen : ((w.take i).flatMap codeOf).length ≤ 7000 := by have := codes_len (w.take i); simp only [List.length_take] at this; omega
    refine wpV_of hD (fun _ => false) (fun _ => []) (by kernel_rfl) ?_
    simp (implicitDefEqProofs := false) (disch := omega) only [push_cast, h0, h3, h12, h13, ↓guardK_tt, ↓guardK_ff, ↓guardK_tf, ↓guardK_ft, ↓condK_t, ↓condK_f, ↓reduceIte, Nat.reduceEqDiff, reduceCtorEq, Nat.reduceAdd, Nat.reduceSub, Nat.reduceMul, Nat.reduceLT, Nat.reduceLeDiff, Int.reduceToNat, Int.reduceLE, Int.reduceLT, Int.reduceEq, Int.reduceNe, Int.reduceAdd, Int.reduceSub, Nat.reduceBEq, Option.some.injEq]
    refine ⟨fun h => ⟨by omega, by omega, ?_⟩, fun h => ?_⟩
    · have hil : i < w.length := by omega
      obtain ⟨c, hc⟩ : ∃ c, c = w.getD i 0 := ⟨_, rfl⟩
      have hcm : c ∈ w := by rw [hc, List.getD, List.getElem?_eq_getElem hil]; exact List.getElem_mem hil
      obtain ⟨k, hk⟩ : ∃ k : Nat, signAt c = k := ⟨(signAt c).toNat, by have := hs c hcm; omega⟩
      have hk38 := signAt_le c
      rw [← hc]
      refine (indexByte_ok signs c S').to ?_
      rw [show Lib.indexByte signs c = (k : Int) from hk]
      simp (implicitDefEqProofs := false) (disch := omega) only [push_cast, h0, h3, h12, h13, ↓guardK_tt, ↓guardK_ff, ↓guardK_tf, ↓guardK_ft, ↓condK_t, ↓condK_f, ↓reduceIte, Nat.reduceEqDiff, reduceCtorEq, Nat.reduceAdd, Nat.reduceSub, Nat.reduceMul, Nat.reduceLT, Nat.reduceLeDiff, Int.reduceToNat, Int.reduceLE, Int.reduceLT, Int.reduceEq, Int.reduceNe, Int.reduceAdd, Int.reduceSub, Nat.reduceBEq, Option.some.injEq]
      refine ⟨fun g => ?_, fun g => ?_⟩
      · have hcode : codeOf c = bitsOf k 5 := by unfold codeOf; rw [if_pos (by omega), hk]; rfl
        refine ((add_ok S.length k 5 S.length _ (by omega) (by omega) (by omega) S' hR).as (by simp)).mono ?_
        rintro r S2 ⟨hR2, hl2, ho2⟩
        simp (implicitDefEqProofs := false) (disch := omega) only [push_cast, h0, h3, h12, h13, ↓guardK_tt, ↓guardK_ff, ↓guardK_tf, ↓guardK_ft, ↓condK_t, ↓condK_f, ↓reduceIte, Nat.reduceEqDiff, reduceCtorEq, Nat.reduceAdd, Nat.reduceSub, Nat.reduceMul, Nat.reduceLT, Nat.reduceLeDiff, Int.reduceToNat, Int.reduceLE, Int.reduceLT, Int.reduceEq, Int.reduceNe, Int.reduceAdd, Int.reduceSub, Nat.reduceBEq, Option.some.injEq]
        refine ⟨w.length - (i + 1), by omega, i + 1, rfl, by omega, by simp, ?_, by omega, fun j hj => (ho2 j hj).trans (hold j hj)⟩
        rw [take_get8 hil, List.flatMap_append, ← hc]
        simpa [hcode] using hR2
      · have hcode : codeOf c = bitsOf (72 + k) 7 := by unfold codeOf; rw [if_neg (by omega), hk]; rfl
        refine ((add_ok S.length (72 + k) 7 S.length _ (by omega) (by omega) (by omega) S' hR).as (by simp; omega)).mono ?_
        rintro r S2 ⟨hR2, hl2, ho2⟩
        simp (implicitDefEqProofs := false) (disch := omega) only [push_cast, h0, h3, h12, h13, ↓guardK_tt, ↓guardK_ff, ↓guardK_tf, ↓guardK_ft, ↓condK_t, ↓condK_f, ↓reduceIte, Nat.reduceEqDiff, reduceCtorEq, Nat.reduceAdd, Nat.reduceSub, Nat.reduceMul, Nat.reduceLT, Nat.reduceLeDiff, Int.reduceToNat, Int.reduceLE, Int.reduceLT, Int.reduceEq, Int.reduceNe, Int.reduceAdd, Int.reduceSub, Nat.reduceBEq, Option.some.injEq]
        refine ⟨w.length - (i + 1), by omega, i + 1, rfl, by omega, by simp, ?_, by omega, fun j hj => (ho2 j hj).trans (hold j hj)⟩
        rw [take_get8 hil, List.flatMap_append, ← hc]
        simpa [hcode] using hR2
    · have : i = w.length := by omega
      subst this
      rw [List.take_length] at hR hlen
      refine wpV_loop (fun m t S' => ∃ (l : List Nat), m = (8 - l.length % 8) % 8 ∧ pad8 l = pad8 (w.flatMap codeOf) ∧ l.length + (8 - l.length % 8) % 8 ≤ 7100 ∧ (∀ b ∈ l, b ≤ 1) ∧ t 3 = .ptr S.length 0 ∧ RowAt S' S.length S.length l ∧ S.length < S'.length ∧ ∀ j, j < S.length → S'[j]? = S[j]?) _
        ⟨w.flatMap codeOf, rfl, rfl, by omega, fun b hb => by obtain ⟨c, _, hc⟩ := List.mem_flatMap.1 hb; exact codeOf_le c b hc, h3, hR, hlt, hold⟩ ?_
      clear h0 h3 h12 h13 hR hlt hold hlen h
      rintro m t S' ⟨l, rfl, hpad, hlen, hle, h3, hR, hlt, hold⟩
      have e8 : Int.tmod (l.length : Int) 8 = ((l.length % 8 : Nat) : Int) := tmod_nat l.length 8
      have hRR := hR
      refine wpV_of hD (fun _ => false) (fun _ => []) (by kernel_rfl) ?_
      rcases hR with ⟨_, ⟨hSb, hl0⟩ | ⟨τ, hτ0, hτb, hSb, hSτ⟩⟩
      · simp (implicitDefEqProofs := false) (disch := omega) only [push_cast, h3, hSb, ↓guardK_tt, ↓guardK_ff, ↓guardK_tf, ↓guardK_ft, ↓condK_t, ↓condK_f, ↓reduceIte, Nat.reduceEqDiff, reduceCtorEq, Nat.reduceAdd, Nat.reduceSub, Nat.reduceMul, Nat.reduceLT, Nat.reduceLeDiff, Int.reduceToNat, Int.reduceLE, Int.reduceLT, Int.reduceEq, Int.reduceNe, Int.reduceAdd, Int.reduceSub, Nat.reduceBEq, Option.some.injEq]
        subst hl0
        have hp0 : pack w = [] := by rw [pack, ← hpad]; simp [pad8, bytes8_end]
        refine ⟨fun g => absurd rfl g, fun _ => ?_⟩
        refine wpV_loop (fun m t S2 => t 3 = .ptr S.length 0 ∧ t 6 = .nils ∧ t 7 = .int .i64 0 ∧ S2 = S') 0 ⟨h3, rfl, rfl, rfl⟩ ?_
        rintro m t S2 ⟨h3, h6, h7, rfl⟩
        refine wpV_of hD (fun _ => false) (fun _ => []) (by kernel_rfl) ?_
        simp (implicitDefEqProofs := false) (disch := omega) only [push_cast, h3, h6, h7, hSb, ↓guardK_tt, ↓guardK_ff, ↓guardK_tf, ↓guardK_ft, ↓condK_t, ↓condK_f, ↓reduceIte, Nat.reduceEqDiff, reduceCtorEq, Nat.reduceAdd, Nat.reduceSub, Nat.reduceMul, Nat.reduceLT, Nat.reduceLeDiff, Int.reduceToNat, Int.reduceLE, Int.reduceLT, Int.reduceEq, Int.reduceNe, Int.reduceAdd, Int.reduceSub, Nat.reduceBEq, Option.some.injEq]
        obtain ⟨X, rfl⟩ := grown (by omega) hold
        exact fin1 (.str _) (by rw [hp0])
      · simp (implicitDefEqProofs := false) (disch := omega) only [push_cast, h3, hSb, e8, ↓guardK_tt, ↓guardK_ff, ↓guardK_tf, ↓guardK_ft, ↓condK_t, ↓condK_f, ↓reduceIte, Nat.reduceEqDiff, reduceCtorEq, Nat.reduceAdd, Nat.reduceSub, Nat.reduceMul, Nat.reduceLT, Nat.reduceLeDiff, Int.reduceToNat, Int.reduceLE, Int.reduceLT, Int.reduceEq, Int.reduceNe, Int.reduceAdd, Int.reduceSub, Nat.reduceBEq, Option.some.injEq]
        refine ⟨fun g => ?_, fun g => ?_⟩
        · refine ((add_ok S.length 1 1 S.length l (by omega) (by omega) (by omega) S' hRR).as (by simp)).mono ?_
          rintro r S2 ⟨hR2, hl2, ho2⟩
          simp (implicitDefEqProofs := false) (disch := omega) only [push_cast, h3, ↓guardK_tt, ↓guardK_ff, ↓guardK_tf, ↓guardK_ft, ↓condK_t, ↓condK_f, ↓reduceIte, Nat.reduceEqDiff, reduceCtorEq, Nat.reduceAdd, Nat.reduceSub, Nat.reduceMul, Nat.reduceLT, Nat.reduceLeDiff, Int.reduceToNat, Int.reduceLE, Int.reduceLT, Int.reduceEq, Int.reduceNe, Int.reduceAdd, Int.reduceSub, Nat.reduceBEq, Option.some.injEq]
          refine ⟨(8 - (l.length + 1) % 8) % 8, by omega, l ++ [1], by simp, ?_, by simp; omega, ?_, by simpa [bitsOf] using hR2, by omega, fun j hj => (ho2 j hj).trans (hold j hj)⟩
          · rw [pad8_step (by omega), hpad]
          · intro b hb
            rcases List.mem_append.1 hb with g | g
            · exact hle b g
            · rw [List.mem_singleton.1 g]; exact Nat.le_refl _
        · rw [pad8_done (by omega)] at hpad
          have hl8 : l.length % 8 = 0 := by omega
          clear e8 hRR
          refine wpV_loop (fun m t S2 => ∃ (i : Nat) (o : List UInt8), m = l.length - i ∧ i ≤ l.length ∧ i % 8 = 0 ∧ o.length ≤ i ∧ o ++ bytes8 (l.drop i) = bytes8 l ∧ t 3 = .ptr S.length 0 ∧ OutAt S' S2 (t 6) o ∧ t 7 = .int .i64 i) l.length
            ⟨0, [], by omega, by omega, rfl, by simp, by simp, h3, .inl ⟨rfl, rfl, rfl⟩, rfl⟩ ?_
          clear h3
          rintro m t S2 ⟨i, o, rfl, hi, hi8, ho, hob, h3, h6, h7⟩
          have hltS : ∀ {j : Nat} {B : Blk}, S'[j]? = some B → j < S'.length := fun {j} {B} hj => by
            rcases Nat.lt_or_ge j S'.length with g | g
            · exact g
            · rw [List.getElem?_eq_none g] at hj; cases hj
          have hSb2 : S2[S.length]? = some (.cells 0 [.rows (some τ) (l.map b8V)]) := by rw [h6.old _ hlt]; exact hSb
          refine wpV_of hD (fun _ => false) (fun _ => []) (by kernel_rfl) ?_
          rcases h6 with ⟨h6, rfl, rfl⟩ | ⟨σ, h6, hT⟩
          · simp (implicitDefEqProofs := false) (disch := omega) only [push_cast, h3, h6, h7, hSb2, ↓guardK_tt, ↓guardK_ff, ↓guardK_tf, ↓guardK_ft, ↓condK_t, ↓condK_f, ↓reduceIte, Nat.reduceEqDiff, reduceCtorEq, Nat.reduceAdd, Nat.reduceSub, Nat.reduceMul, Nat.reduceLT, Nat.reduceLeDiff, Int.reduceToNat, Int.reduceLE, Int.reduceLT, Int.reduceEq, Int.reduceNe, Int.reduceAdd, Int.reduceSub, Nat.reduceBEq, Option.some.injEq]
            refine ⟨fun g => ?_, fun g => ?_⟩
            · refine (number_ok l i 8 (by omega) (by omega) (by omega) hle S2).to ?_
              simp (implicitDefEqProofs := false) (disch := omega) only [push_cast, h3, h6, h7, hSb2, ↓guardK_tt, ↓guardK_ff, ↓guardK_tf, ↓guardK_ft, ↓condK_t, ↓condK_f, ↓reduceIte, Nat.reduceEqDiff, reduceCtorEq, Nat.reduceAdd, Nat.reduceSub, Nat.reduceMul, Nat.reduceLT, Nat.reduceLeDiff, Int.reduceToNat, Int.reduceLE, Int.reduceLT, Int.reduceEq, Int.reduceNe, Int.reduceAdd, Int.reduceSub, Nat.reduceBEq, Option.some.injEq]
              refine ⟨l.length - (i + 8), by omega, i + 8, [by8 (numOf ((l.drop i).take 8))], rfl, by omega, by omega, by simp, ?_, .inr ⟨_, ?_, ⟨⟨_, rfl⟩, Nat.le_succ _, by simp⟩⟩, by simp⟩
              · rw [← hob, bytes8_step (l := l.drop i) (by simp; omega)]
                simp [List.drop_drop]
              · simp [u8V_of]
            · have : i = l.length := by omega
              subst this
              rw [List.drop_length, bytes8_end (by simp)] at hob
              obtain ⟨X, rfl⟩ := grown (by omega) hold
              refine fin1 (.str _) ?_
              rw [pack, ← hpad, ← hob]
              rfl
          · have hat := hT.at
            simp (implicitDefEqProofs := false) (disch := omega) only [push_cast, h3, h6, h7, hSb2, hat, ↓guardK_tt, ↓guardK_ff, ↓guardK_tf, ↓guardK_ft, ↓condK_t, ↓condK_f, ↓reduceIte, Nat.reduceEqDiff, reduceCtorEq, Nat.reduceAdd, Nat.reduceSub, Nat.reduceMul, Nat.reduceLT, Nat.reduceLeDiff, Int.reduceToNat, Int.reduceLE, Int.reduceLT, Int.reduceEq, Int.reduceNe, Int.reduceAdd, Int.reduceSub, Nat.reduceBEq, Option.some.injEq]
            refine ⟨fun g => ?_, fun g => ?_⟩
            · refine (number_ok l i 8 (by omega) (by omega) (by omega) hle S2).to ?_
              simp (implicitDefEqProofs := false) (disch := omega) only [push_cast, h3, h6, h7, hSb2, hat, ↓guardK_tt, ↓guardK_ff, ↓guardK_tf, ↓guardK_ft, ↓condK_t, ↓condK_f, ↓reduceIte, Nat.reduceEqDiff, reduceCtorEq, Nat.reduceAdd, Nat.reduceSub, Nat.reduceMul, Nat.reduceLT, Nat.reduceLeDiff, Int.reduceToNat, Int.reduceLE, Int.reduceLT, Int.reduceEq, Int.reduceNe, Int.reduceAdd, Int.reduceSub, Nat.reduceBEq, Option.some.injEq]
              refine ⟨by omega, l.length - (i + 8), by omega, i + 8, o ++ [by8 (numOf ((l.drop i).take 8))], rfl, by omega, by omega, by simp; omega, ?_, .inr ⟨_, ?_, hT.step1 _⟩, by simp⟩
              · rw [← hob, bytes8_step (l := l.drop i) (by simp; omega)]
                simp [List.drop_drop]
              · simp [u8V_of]
            · have : i = l.length := by omega
              subst this
              rw [List.drop_length, bytes8_end (by simp)] at hob
              obtain ⟨X, rfl⟩ := grown (by omega) hold
              obtain ⟨⟨Y, rfl⟩, _, _⟩ := hT
              rw [List.append_assoc]
              refine fin1 (.str _) ?_
              rw [pack, ← hpad, ← hob]
              simp

end Go.Proofs.Ytblbaniokmgjgaa
