/- Contracts: heads that are read by the program. -/
import Derived.Test.YtblbaniokmgjgaaCdA
namespace Go.Proofs.Ytblbaniokmgjgaa
open Go
set_option linter.unusedVariables false
set_option linter.unusedSimpArgs false

def wordR (b : List UInt8) : Option (List UInt8 × Nat) := match numR b 7 with
  | none => none
  | some (n, s) => if n ≤ 16 ∧ s + n ≤ b.length then
      (if 128 ≤ (b.getD 0 0).toNat then (unpackM ((b.drop s).take n)).map (fun x => (x, s + n)) else if wordOk ((b.drop s).take n) = true then some ((b.drop s).take n, s + n) else none) else none
def wrV (o : Option (List UInt8 × Nat)) : V := match o with
  | some (w, n) => .tup [.str w, .int .i64 n, .bool true]
  | none => .tup [.str [], .int .i64 0, .bool false]

theorem unpackM_word {b w : List UInt8} (h : unpackM b = some w) : wordOk w = true := by
  unfold unpackM at h
  split at h
  · split at h
    · rename_i hk
      cases h
      rw [wordOk_un]
      simp only [unOk, Bool.and_eq_true] at hk
      exact hk.2
    · cases h
  · cases h
theorem wordR_bound {b w : List UInt8} {n : Nat} (h : wordR b = some (w, n)) : wordOk w = true ∧ 1 ≤ n ∧ n ≤ b.length := by
  unfold wordR at h
  split at h
  · cases h
  · rename_i n' s hn
    obtain ⟨h1, h2, h3, h4⟩ := numR_bound (by decide) hn
    split at h
    · rename_i hc
      split at h
      · cases hu : unpackM ((b.drop s).take n') with
        | none => rw [hu] at h; cases h
        | some x =>
          rw [hu] at h
          cases h
          exact ⟨unpackM_word hu, by omega, by omega⟩
      · split at h
        · rename_i hw
          cases h
          exact ⟨hw, by omega, by omega⟩
        · cases h
    · cases h

theorem WordRead_ok (b : List UInt8) (hb : b.length ≤ 1000000) (S : List Blk) : VCall Try.prog 56 [.str b] S fun r S' => r = wrV (wordR b) ∧ S' = S := by
  refine VCall.of_ev hD (fun _ => false) (fun _ => []) (n := 54) Try.func56 rfl rfl Try.ntmps56 (by kernel_rfl) (by kernel_rfl) (congrArg Array.toList Try.results56) (by simp) ?_
  simp (implicitDefEqProofs := false) (disch := omega) only [push_cast, ↓guardK_tt, ↓guardK_ff, ↓guardK_tf, ↓guardK_ft, ↓condK_t, ↓condK_f, ↓reduceIte, Nat.reduceEqDiff, reduceCtorEq, Nat.reduceAdd, Nat.reduceSub, Nat.reduceMul, Nat.reduceLT, Nat.reduceLeDiff, Int.reduceToNat, Int.reduceLE, Int.reduceLT, Int.reduceEq, Int.reduceNe, Int.reduceAdd, Int.reduceSub, Nat.reduceBEq, Option.some.injEq]
  refine ((NumRead_ok b 7 (by omega) (by omega) _).as (by simp)).to ?_
  cases hn : numR b 7 with
  | none =>
    simp (implicitDefEqProofs := false) (disch := omega) only [push_cast, nrV, ↓guardK_tt, ↓guardK_ff, ↓guardK_tf, ↓guardK_ft, ↓condK_t, ↓condK_f, ↓reduceIte, Nat.reduceEqDiff, reduceCtorEq, Nat.reduceAdd, Nat.reduceSub, Nat.reduceMul, Nat.reduceLT, Nat.reduceLeDiff, Int.reduceToNat, Int.reduceLE, Int.reduceLT, Int.reduceEq, Int.reduceNe, Int.reduceAdd, Int.reduceSub, Nat.reduceBEq, Option.some.injEq]
    exact fin0 (by rw [wordR, hn]; rfl)
  | some x =>
    obtain ⟨n, s⟩ := x
    obtain ⟨h1, h2, h3, h4⟩ := numR_bound (by decide) hn
    have hw : wordR b = if n ≤ 16 ∧ s + n ≤ b.length then
      (if 128 ≤ (b.getD 0 0).toNat then (unpackM ((b.drop s).take n)).map (fun x => (x, s + n)) else if wordOk ((b.drop s).take n) = true then some ((b.drop s).take n, s + n) else none) else none := by rw [wordR, hn]
    by_cases h16 : n ≤ 16
    · have h16' : ¬ ((n : Int) > 16) := by omega
      by_cases hsn : s + n ≤ b.length
      · have hsn' : ¬ ((s : Int) + n > b.length) := by omega
        rw [if_pos ⟨h16, hsn⟩] at hw
        have hsl : List.drop s (List.take ((s : Int) + n).toNat b) = (b.drop s).take n := by rw [show ((s : Int) + n).toNat = s + n by omega, List.drop_take, Nat.add_sub_cancel_left]
        have hwl : ((b.drop s).take n).length ≤ 1000 := by simp; omega
        generalize hwd : (b.drop s).take n = w at hsl hw hwl
        generalize hc : b.getD 0 0 = c at hw
        have hcn := c.toNat_lt
        by_cases hc8 : 128 ≤ c.toNat
        · rw [if_pos hc8] at hw
          have hc8' : ((c.toNat : Int) ≥ 128) := by omega
          simp (implicitDefEqProofs := false) (disch := omega) only [push_cast, nrV, h16', hsn', hsl, hc, hc8', ↓guardK_tt, ↓guardK_ff, ↓guardK_tf, ↓guardK_ft, ↓condK_t, ↓condK_f, ↓reduceIte, Nat.reduceEqDiff, reduceCtorEq, Nat.reduceAdd, Nat.reduceSub, Nat.reduceMul, Nat.reduceLT, Nat.reduceLeDiff, Int.reduceToNat, Int.reduceLE, Int.reduceLT, Int.reduceEq, Int.reduceNe, Int.reduceAdd, Int.reduceSub, Nat.reduceBEq, Option.some.injEq]
          refine ⟨by omega, by omega, by omega, by omega, (WordUnpack_ok w (by omega) _).to ?_⟩
          cases hu : unpackM w with
          | none =>
            simp (implicitDefEqProofs := false) (disch := omega) only [push_cast, unV, ↓guardK_tt, ↓guardK_ff, ↓guardK_tf, ↓guardK_ft, ↓condK_t, ↓condK_f, ↓reduceIte, Nat.reduceEqDiff, reduceCtorEq, Nat.reduceAdd, Nat.reduceSub, Nat.reduceMul, Nat.reduceLT, Nat.reduceLeDiff, Int.reduceToNat, Int.reduceLE, Int.reduceLT, Int.reduceEq, Int.reduceNe, Int.reduceAdd, Int.reduceSub, Nat.reduceBEq, Option.some.injEq]
            exact fin0 (by rw [hw, hu]; rfl)
          | some x =>
            have hx := unpackM_word hu
            have hxl := (wordOk_signs hx).2
            simp (implicitDefEqProofs := false) (disch := omega) only [push_cast, unV, ↓guardK_tt, ↓guardK_ff, ↓guardK_tf, ↓guardK_ft, ↓condK_t, ↓condK_f, ↓reduceIte, Nat.reduceEqDiff, reduceCtorEq, Nat.reduceAdd, Nat.reduceSub, Nat.reduceMul, Nat.reduceLT, Nat.reduceLeDiff, Int.reduceToNat, Int.reduceLE, Int.reduceLT, Int.reduceEq, Int.reduceNe, Int.reduceAdd, Int.reduceSub, Nat.reduceBEq, Option.some.injEq]
            refine (WordOk_ok x (by omega) _).to ?_
            rw [hx]
            simp (implicitDefEqProofs := false) (disch := omega) only [push_cast, ↓guardK_tt, ↓guardK_ff, ↓guardK_tf, ↓guardK_ft, ↓condK_t, ↓condK_f, ↓reduceIte, Nat.reduceEqDiff, reduceCtorEq, Nat.reduceAdd, Nat.reduceSub, Nat.reduceMul, Nat.reduceLT, Nat.reduceLeDiff, Int.reduceToNat, Int.reduceLE, Int.reduceLT, Int.reduceEq, Int.reduceNe, Int.reduceAdd, Int.reduceSub, Nat.reduceBEq, Option.some.injEq]
            exact fin0 (by rw [hw, hu]; simp [wrV])
        · have hc8' : ¬ ((c.toNat : Int) ≥ 128) := by omega
          rw [if_neg hc8] at hw
          simp (implicitDefEqProofs := false) (disch := omega) only [push_cast, nrV, h16', hsn', hsl, hc, hc8', ↓guardK_tt, ↓guardK_ff, ↓guardK_tf, ↓guardK_ft, ↓condK_t, ↓condK_f, ↓reduceIte, Nat.reduceEqDiff, reduceCtorEq, Nat.reduceAdd, Nat.reduceSub, Nat.reduceMul, Nat.reduceLT, Nat.reduceLeDiff, Int.reduceToNat, Int.reduceLE, Int.reduceLT, Int.reduceEq, Int.reduceNe, Int.reduceAdd, Int.reduceSub, Nat.reduceBEq, Option.some.injEq]
          refine ⟨by omega, by omega, by omega, by omega, (WordOk_ok w (by omega) _).to ?_⟩
          cases hk : wordOk w
          · simp (implicitDefEqProofs := false) (disch := omega) only [push_cast, ↓guardK_tt, ↓guardK_ff, ↓guardK_tf, ↓guardK_ft, ↓condK_t, ↓condK_f, ↓reduceIte, Nat.reduceEqDiff, reduceCtorEq, Nat.reduceAdd, Nat.reduceSub, Nat.reduceMul, Nat.reduceLT, Nat.reduceLeDiff, Int.reduceToNat, Int.reduceLE, Int.reduceLT, Int.reduceEq, Int.reduceNe, Int.reduceAdd, Int.reduceSub, Nat.reduceBEq, Option.some.injEq]
            exact fin0 (by rw [hw, hk]; rfl)
          · simp (implicitDefEqProofs := false) (disch := omega) only [push_cast, ↓guardK_tt, ↓guardK_ff, ↓guardK_tf, ↓guardK_ft, ↓condK_t, ↓condK_f, ↓reduceIte, Nat.reduceEqDiff, reduceCtorEq, Nat.reduceAdd, Nat.reduceSub, Nat.reduceMul, Nat.reduceLT, Nat.reduceLeDiff, Int.reduceToNat, Int.reduceLE, Int.reduceLT, Int.reduceEq, Int.reduceNe, Int.reduceAdd, Int.reduceSub, Nat.reduceBEq, Option.some.injEq]
            exact fin0 (by rw [hw, hk]; simp [wrV])
      · have hsn' : ((s : Int) + n > b.length) := by omega
        simp (implicitDefEqProofs := false) (disch := omega) only [push_cast, nrV, h16', hsn', ↓guardK_tt, ↓guardK_ff, ↓guardK_tf, ↓guardK_ft, ↓condK_t, ↓condK_f, ↓reduceIte, Nat.reduceEqDiff, reduceCtorEq, Nat.reduceAdd, Nat.reduceSub, Nat.reduceMul, Nat.reduceLT, Nat.reduceLeDiff, Int.reduceToNat, Int.reduceLE, Int.reduceLT, Int.reduceEq, Int.reduceNe, Int.reduceAdd, Int.reduceSub, Nat.reduceBEq, Option.some.injEq]
        exact fin0 (by rw [hw, if_neg (fun h => hsn h.2)]; rfl)
    · have h16' : ((n : Int) > 16) := by omega
      simp (implicitDefEqProofs := false) (disch := omega) only [push_cast, nrV, h16', ↓guardK_tt, ↓guardK_ff, ↓guardK_tf, ↓guardK_ft, ↓condK_t, ↓condK_f, ↓reduceIte, Nat.reduceEqDiff, reduceCtorEq, Nat.reduceAdd, Nat.reduceSub, Nat.reduceMul, Nat.reduceLT, Nat.reduceLeDiff, Int.reduceToNat, Int.reduceLE, Int.reduceLT, Int.reduceEq, Int.reduceNe, Int.reduceAdd, Int.reduceSub, Nat.reduceBEq, Option.some.injEq]
      exact fin0 (by rw [hw, if_neg (fun h => h16 h.1)]; rfl)

def atR (l : List Fd) (place : Nat) : Option Fd := if 1 ≤ place ∧ place ≤ l.length + 6 then some ((fixedFds ++ l).getD (place - 1) fd0) else none
def arV (o : Option Fd) : V := match o with
  | some f => .tup [fV f, .bool true]
  | none => .tup [fV fd0, .bool false]
theorem all_len (l : List Fd) : (fixedFds ++ l).length = l.length + 6 := by simp [fixedFds]
set_option maxRecDepth 100000 in
theorem fixed_ok : ∀ f ∈ fixedFds, fieldOk f = true ∧ f.never = false := by decide
theorem atR_mem {l : List Fd} {place : Nat} {f : Fd} (h : atR l place = some f) : f ∈ fixedFds ++ l := by
  unfold atR at h
  split at h
  · rename_i hc
    cases h
    exact getD_fd_mem (by rw [all_len]; omega)
  · cases h

theorem at_ok (l : List Fd) (max : Int) (place : Nat) (hl : l.length ≤ 1000000) (hp : place ≤ 1000000) (S : List Blk) : VCall Try.prog 55 [tV l max, .int .i64 place] S fun r S' => r = arV (atR l place) ∧ S' = S := by
  refine VCall.of_ev hD (fun _ => false) (fun _ => []) (n := 20) Try.func55 rfl rfl Try.ntmps55 (by kernel_rfl) (by kernel_rfl) (congrArg Array.toList Try.results55) (by simp) ?_
  simp (implicitDefEqProofs := false) (disch := omega) only [push_cast, ↓guardK_tt, ↓guardK_ff, ↓guardK_tf, ↓guardK_ft, ↓condK_t, ↓condK_f, ↓reduceIte, Nat.reduceEqDiff, reduceCtorEq, Nat.reduceAdd, Nat.reduceSub, Nat.reduceMul, Nat.reduceLT, Nat.reduceLeDiff, Int.reduceToNat, Int.reduceLE, Int.reduceLT, Int.reduceEq, Int.reduceNe, Int.reduceAdd, Int.reduceSub, Nat.reduceBEq, Option.some.injEq]
  refine (all_ok l max (by omega) _).to ?_
  have hal := all_len l
  generalize hw : fixedFds ++ l = w at hal
  simp (implicitDefEqProofs := false) (disch := omega) only [push_cast, ↓guardK_tt, ↓guardK_ff, ↓guardK_tf, ↓guardK_ft, ↓condK_t, ↓condK_f, ↓reduceIte, Nat.reduceEqDiff, reduceCtorEq, Nat.reduceAdd, Nat.reduceSub, Nat.reduceMul, Nat.reduceLT, Nat.reduceLeDiff, Int.reduceToNat, Int.reduceLE, Int.reduceLT, Int.reduceEq, Int.reduceNe, Int.reduceAdd, Int.reduceSub, Nat.reduceBEq, Option.some.injEq]
  by_cases h : 1 ≤ place ∧ place ≤ l.length + 6
  · have hgd := getD_fV (l := w) (i := place - 1) (by omega)
    have hat : atR l place = some (w.getD (place - 1) fd0) := by rw [atR, if_pos h, hw]
    generalize w.getD (place - 1) fd0 = f at hgd hat
    have hpl : ((place : Int) - 1).toNat = place - 1 := by omega
    refine (in_t (by omega) _).to ?_
    simp (implicitDefEqProofs := false) (disch := omega) only [push_cast, hpl, hgd, ↓guardK_tt, ↓guardK_ff, ↓guardK_tf, ↓guardK_ft, ↓condK_t, ↓condK_f, ↓reduceIte, Nat.reduceEqDiff, reduceCtorEq, Nat.reduceAdd, Nat.reduceSub, Nat.reduceMul, Nat.reduceLT, Nat.reduceLeDiff, Int.reduceToNat, Int.reduceLE, Int.reduceLT, Int.reduceEq, Int.reduceNe, Int.reduceAdd, Int.reduceSub, Nat.reduceBEq, Option.some.injEq]
    refine ⟨by omega, by omega, fin1 (Cl.two (cl_fV _ f) (.bool _)) (by rw [hat]; rfl)⟩
  · refine (in_f (by omega) _).to ?_
    simp (implicitDefEqProofs := false) (disch := omega) only [push_cast, ↓guardK_tt, ↓guardK_ff, ↓guardK_tf, ↓guardK_ft, ↓condK_t, ↓condK_f, ↓reduceIte, Nat.reduceEqDiff, reduceCtorEq, Nat.reduceAdd, Nat.reduceSub, Nat.reduceMul, Nat.reduceLT, Nat.reduceLeDiff, Int.reduceToNat, Int.reduceLE, Int.reduceLT, Int.reduceEq, Int.reduceNe, Int.reduceAdd, Int.reduceSub, Nat.reduceBEq, Option.some.injEq]
    refine fin1 (Cl.two (cl_fV _ fd0) (.bool _)) ?_
    rw [atR, if_neg h]
    rfl

def nameR (l : List Fd) (b : List UInt8) (p s : Nat) : Option (List UInt8 × Nat) := if p = 0 then (wordR (b.drop s)).map (fun x => (x.1, s + x.2)) else (atR l p).map (fun f => (f.name, s))
def litR (l : List Fd) (b : List UInt8) (bits : Nat) : Option (Fd × Nat × Nat) := match numR b bits with
  | none => none
  | some (p, s) => match nameR l b p s with
    | none => none
    | some (nm, s2) => match wordR (b.drop s2) with
      | none => none
      | some (v, n) => if fieldOk ⟨nm, v, bits == 4⟩ = true then some (⟨nm, v, bits == 4⟩, s2 + n, bits) else none
def idxR (l : List Fd) (b : List UInt8) : Option (Fd × Nat × Nat) := match numR b 7 with
  | none => none
  | some (p, s) => (atR l p).map (fun f => (f, s, 7))
def fieldR (l : List Fd) (b : List UInt8) : Option (Fd × Nat × Nat) :=
  if 128 ≤ (b.getD 0 0).toNat then idxR l b else if 64 ≤ (b.getD 0 0).toNat then litR l b 6 else if 16 ≤ (b.getD 0 0).toNat ∧ (b.getD 0 0).toNat < 32 then litR l b 4 else none

def FrRes (o : Option (Fd × Nat × Nat)) (r : V) : Prop := match o with
  | some (f, s, bits) => r = .tup [fV f, .int .i64 s, .int .i64 bits, .bool true]
  | none => ∃ (f : Fd) (s bits : Int), r = .tup [fV f, .int .i64 s, .int .i64 bits, .bool false]

set_option maxHeartbeats 8000000 in
theorem field_ok (l : List Fd) (max : Int) (b : List UInt8) (hl : l.length ≤ 1000000) (hb : b.length ≤ 1000000) (hne : b ≠ []) (hall : ∀ f ∈ fixedFds ++ l, FdB f) (S : List Blk) :
    VCall Try.prog 28 [tV l max, .str b] S fun r S' => FrRes (fieldR l b) r ∧ S' = S := by
  have hpos : 0 < b.length := List.length_pos_iff.2 hne
  obtain ⟨c, hc⟩ : ∃ c, c = b.getD 0 0 := ⟨_, rfl⟩
  have hcn := c.toNat_lt
  have hz : ∀ (X : List Blk), ∃ r S2, Wk S (.tup [.agg [.str [], .str [], .bool false], .int .i64 0, .int .i64 0, .bool false]) (S ++ X) r S2 ∧ FrRes none r ∧ S2 = S :=
    fun X => ⟨_, _, Wk.pure (Cl.four (cl_fV _ fd0) (.int _ _) (.int _ _) (.bool _)), ⟨fd0, 0, 0, rfl⟩, rfl⟩
  refine VCall.of_ev hD (fun _ => false) (fun id => if id = 25 then [10, 14, 14, 14, 14, 8, 8, 8, 10, 14, 14, 14, 14, 14] else []) (n := 103) Try.func28 rfl rfl Try.ntmps28 (by kernel_rfl) (by kernel_rfl) (congrArg Array.toList Try.results28) (by simp) ?_
  simp (implicitDefEqProofs := false) (disch := omega) only [push_cast, ← hc, ↓guardK_tt, ↓guardK_ff, ↓guardK_tf, ↓guardK_ft, ↓condK_t, ↓condK_f, ↓reduceIte, Nat.reduceEqDiff, reduceCtorEq, Nat.reduceAdd, Nat.reduceSub, Nat.reduceMul, Nat.reduceLT, Nat.reduceLeDiff, Int.reduceToNat, Int.reduceLE, Int.reduceLT, Int.reduceEq, Int.reduceNe, Int.reduceAdd, Int.reduceSub, Nat.reduceBEq, Option.some.injEq]
  refine ⟨by omega, ?_⟩
  by_cases h128 : 128 ≤ c.toNat
  · have h128' : (c.toNat : Int) ≥ 128 := by omega
    simp (implicitDefEqProofs := false) (disch := omega) only [push_cast, ← hc, h128', ↓guardK_tt, ↓guardK_ff, ↓guardK_tf, ↓guardK_ft, ↓condK_t, ↓condK_f, ↓reduceIte, Nat.reduceEqDiff, reduceCtorEq, Nat.reduceAdd, Nat.reduceSub, Nat.reduceMul, Nat.reduceLT, Nat.reduceLeDiff, Int.reduceToNat, Int.reduceLE, Int.reduceLT, Int.reduceEq, Int.reduceNe, Int.reduceAdd, Int.reduceSub, Nat.reduceBEq, Option.some.injEq]
    have hf0 : fieldR l b = idxR l b := by rw [fieldR, ← hc, if_pos h128]
    refine ((NumRead_ok b 7 (by omega) (by omega) _).as (by simp)).to ?_
    cases hn : numR b 7 with
    | none =>
      have hfr : fieldR l b = none := by rw [hf0, idxR, hn]
      simp (implicitDefEqProofs := false) (disch := omega) only [push_cast, nrV, ↓guardK_tt, ↓guardK_ff, ↓guardK_tf, ↓guardK_ft, ↓condK_t, ↓condK_f, ↓reduceIte, Nat.reduceEqDiff, reduceCtorEq, Nat.reduceAdd, Nat.reduceSub, Nat.reduceMul, Nat.reduceLT, Nat.reduceLeDiff, Int.reduceToNat, Int.reduceLE, Int.reduceLT, Int.reduceEq, Int.reduceNe, Int.reduceAdd, Int.reduceSub, Nat.reduceBEq, Option.some.injEq]
      rw [hfr]
      exact hz _
    | some x =>
      obtain ⟨q, s⟩ := x
      obtain ⟨g1, g2, g3, g4⟩ := numR_bound (by decide) hn
      have hfr : fieldR l b = (atR l q).map (fun f => (f, s, 7)) := by rw [hf0, idxR, hn]
      simp (implicitDefEqProofs := false) (disch := omega) only [push_cast, nrV, ↓guardK_tt, ↓guardK_ff, ↓guardK_tf, ↓guardK_ft, ↓condK_t, ↓condK_f, ↓reduceIte, Nat.reduceEqDiff, reduceCtorEq, Nat.reduceAdd, Nat.reduceSub, Nat.reduceMul, Nat.reduceLT, Nat.reduceLeDiff, Int.reduceToNat, Int.reduceLE, Int.reduceLT, Int.reduceEq, Int.reduceNe, Int.reduceAdd, Int.reduceSub, Nat.reduceBEq, Option.some.injEq]
      refine ((at_ok l max q hl (by omega) _).as rfl).to ?_
      rw [hfr]
      cases hat : atR l q with
      | none =>
        simp (implicitDefEqProofs := false) (disch := omega) only [push_cast, arV, ↓guardK_tt, ↓guardK_ff, ↓guardK_tf, ↓guardK_ft, ↓condK_t, ↓condK_f, ↓reduceIte, Nat.reduceEqDiff, reduceCtorEq, Nat.reduceAdd, Nat.reduceSub, Nat.reduceMul, Nat.reduceLT, Nat.reduceLeDiff, Int.reduceToNat, Int.reduceLE, Int.reduceLT, Int.reduceEq, Int.reduceNe, Int.reduceAdd, Int.reduceSub, Nat.reduceBEq, Option.some.injEq]
        exact ⟨_, _, Wk.pure (Cl.four (cl_fV _ fd0) (.int _ _) (.int _ _) (.bool _)), ⟨fd0, _, _, rfl⟩, rfl⟩
      | some g =>
        simp (implicitDefEqProofs := false) (disch := omega) only [push_cast, arV, ↓guardK_tt, ↓guardK_ff, ↓guardK_tf, ↓guardK_ft, ↓condK_t, ↓condK_f, ↓reduceIte, Nat.reduceEqDiff, reduceCtorEq, Nat.reduceAdd, Nat.reduceSub, Nat.reduceMul, Nat.reduceLT, Nat.reduceLeDiff, Int.reduceToNat, Int.reduceLE, Int.reduceLT, Int.reduceEq, Int.reduceNe, Int.reduceAdd, Int.reduceSub, Nat.reduceBEq, Option.some.injEq]
        exact ⟨_, _, Wk.pure (Cl.four (cl_fV _ g) (.int _ _) (.int _ _) (.bool _)), rfl, rfl⟩
  have h128' : ¬ (c.toNat : Int) ≥ 128 := by omega
  by_cases h64 : 64 ≤ c.toNat
  · have h64' : (c.toNat : Int) ≥ 64 := by omega
    have hf0 : fieldR l b = litR l b 6 := by rw [fieldR, ← hc, if_neg h128, if_pos h64]
    simp (implicitDefEqProofs := false) (disch := omega) only [push_cast, ← hc, h128', h64', ↓guardK_tt, ↓guardK_ff, ↓guardK_tf, ↓guardK_ft, ↓condK_t, ↓condK_f, ↓reduceIte, Nat.reduceEqDiff, reduceCtorEq, Nat.reduceAdd, Nat.reduceSub, Nat.reduceMul, Nat.reduceLT, Nat.reduceLeDiff, Int.reduceToNat, Int.reduceLE, Int.reduceLT, Int.reduceEq, Int.reduceNe, Int.reduceAdd, Int.reduceSub, Nat.reduceBEq, Option.some.injEq]
    refine ((NumRead_ok b 6 (by omega) (by omega) _).as (by simp)).to ?_
    cases hn : numR b 6 with
    | none =>
      have hfr : fieldR l b = none := by rw [hf0, litR, hn]
      simp (implicitDefEqProofs := false) (disch := omega) only [push_cast, nrV, ↓guardK_tt, ↓guardK_ff, ↓guardK_tf, ↓guardK_ft, ↓condK_t, ↓condK_f, ↓reduceIte, Nat.reduceEqDiff, reduceCtorEq, Nat.reduceAdd, Nat.reduceSub, Nat.reduceMul, Nat.reduceLT, Nat.reduceLeDiff, Int.reduceToNat, Int.reduceLE, Int.reduceLT, Int.reduceEq, Int.reduceNe, Int.reduceAdd, Int.reduceSub, Nat.reduceBEq, Option.some.injEq]
      rw [hfr]
      exact hz _
    | some x =>
      obtain ⟨q, s⟩ := x
      obtain ⟨g1, g2, g3, g4⟩ := numR_bound (by decide) hn
      simp (implicitDefEqProofs := false) (disch := omega) only [push_cast, nrV, ↓guardK_tt, ↓guardK_ff, ↓guardK_tf, ↓guardK_ft, ↓condK_t, ↓condK_f, ↓reduceIte, Nat.reduceEqDiff, reduceCtorEq, Nat.reduceAdd, Nat.reduceSub, Nat.reduceMul, Nat.reduceLT, Nat.reduceLeDiff, Int.reduceToNat, Int.reduceLE, Int.reduceLT, Int.reduceEq, Int.reduceNe, Int.reduceAdd, Int.reduceSub, Nat.reduceBEq, Option.some.injEq]
      refine ((at_ok l max q hl (by omega) _).as rfl).to ?_
      have hlit : fieldR l b = match nameR l b q s with
          | none => none
          | some (nm, s2) => match wordR (b.drop s2) with
            | none => none
            | some (v, n) => if fieldOk ⟨nm, v, false⟩ = true then some (⟨nm, v, false⟩, s2 + n, 6) else none := by rw [hf0, litR, hn]; rfl
      by_cases hq : q = 0
      · have hq' : (q : Int) = 0 := by omega
        have hnm : nameR l b q s = (wordR (b.drop s)).map (fun x => (x.1, s + x.2)) := by rw [nameR, if_pos hq]
        have hat : atR l q = none := by rw [atR, if_neg (by omega)]
        rw [hat]
        rw [hnm] at hlit
        have hds : (b.take b.length).drop s = b.drop s := by rw [List.take_length]
        simp (implicitDefEqProofs := false) (disch := omega) only [push_cast, arV, hq', hds, fd0, ↓guardK_tt, ↓guardK_ff, ↓guardK_tf, ↓guardK_ft, ↓condK_t, ↓condK_f, ↓reduceIte, Nat.reduceEqDiff, reduceCtorEq, Nat.reduceAdd, Nat.reduceSub, Nat.reduceMul, Nat.reduceLT, Nat.reduceLeDiff, Int.reduceToNat, Int.reduceLE, Int.reduceLT, Int.reduceEq, Int.reduceNe, Int.reduceAdd, Int.reduceSub, Nat.reduceBEq, Option.some.injEq]
        refine ⟨by omega, by omega, by omega, (WordRead_ok (b.drop s) (by simp; omega) _).to ?_⟩
        cases hw : wordR (b.drop s) with
        | none =>
          rw [hw] at hlit
          simp (implicitDefEqProofs := false) (disch := omega) only [push_cast, wrV, ↓guardK_tt, ↓guardK_ff, ↓guardK_tf, ↓guardK_ft, ↓condK_t, ↓condK_f, ↓reduceIte, Nat.reduceEqDiff, reduceCtorEq, Nat.reduceAdd, Nat.reduceSub, Nat.reduceMul, Nat.reduceLT, Nat.reduceLeDiff, Int.reduceToNat, Int.reduceLE, Int.reduceLT, Int.reduceEq, Int.reduceNe, Int.reduceAdd, Int.reduceSub, Nat.reduceBEq, Option.some.injEq]
          rw [hlit]
          exact hz _
        | some y =>
          obtain ⟨nm, n⟩ := y
          obtain ⟨w1, w2, w3⟩ := wordR_bound hw
          simp only [List.length_drop] at w3
          have hds2 : (b.take b.length).drop ((s : Int) + n).toNat = b.drop (s + n) := by rw [List.take_length, show ((s : Int) + n).toNat = s + n by omega]
          rw [hw] at hlit
          simp only [Option.map_some] at hlit
          have hnl := (wordOk_signs w1).2
          simp (implicitDefEqProofs := false) (disch := omega) only [push_cast, wrV, hds2, ↓guardK_tt, ↓guardK_ff, ↓guardK_tf, ↓guardK_ft, ↓condK_t, ↓condK_f, ↓reduceIte, Nat.reduceEqDiff, reduceCtorEq, Nat.reduceAdd, Nat.reduceSub, Nat.reduceMul, Nat.reduceLT, Nat.reduceLeDiff, Int.reduceToNat, Int.reduceLE, Int.reduceLT, Int.reduceEq, Int.reduceNe, Int.reduceAdd, Int.reduceSub, Nat.reduceBEq, Option.some.injEq]
          refine ⟨by omega, by omega, by omega, (WordRead_ok (b.drop (s + n)) (by simp; omega) _).to ?_⟩
          cases hv : wordR (b.drop (s + n)) with
          | none =>
            rw [hv] at hlit
            simp (implicitDefEqProofs := false) (disch := omega) only [push_cast, wrV, ↓guardK_tt, ↓guardK_ff, ↓guardK_tf, ↓guardK_ft, ↓condK_t, ↓condK_f, ↓reduceIte, Nat.reduceEqDiff, reduceCtorEq, Nat.reduceAdd, Nat.reduceSub, Nat.reduceMul, Nat.reduceLT, Nat.reduceLeDiff, Int.reduceToNat, Int.reduceLE, Int.reduceLT, Int.reduceEq, Int.reduceNe, Int.reduceAdd, Int.reduceSub, Nat.reduceBEq, Option.some.injEq]
            rw [hlit]
            exact ⟨_, _, Wk.pure (Cl.four (cl_fV _ ⟨nm, [], false⟩) (.int _ _) (.int _ _) (.bool _)), ⟨⟨nm, [], false⟩, _, _, rfl⟩, rfl⟩
          | some z =>
            obtain ⟨v, n2⟩ := z
            obtain ⟨v1, v2, v3⟩ := wordR_bound hv
            simp only [List.length_drop] at v3
            have hvl := (wordOk_signs v1).2
            rw [hv] at hlit
            simp only at hlit
            simp (implicitDefEqProofs := false) (disch := omega) only [push_cast, wrV, ↓guardK_tt, ↓guardK_ff, ↓guardK_tf, ↓guardK_ft, ↓condK_t, ↓condK_f, ↓reduceIte, Nat.reduceEqDiff, reduceCtorEq, Nat.reduceAdd, Nat.reduceSub, Nat.reduceMul, Nat.reduceLT, Nat.reduceLeDiff, Int.reduceToNat, Int.reduceLE, Int.reduceLT, Int.reduceEq, Int.reduceNe, Int.reduceAdd, Int.reduceSub, Nat.reduceBEq, Option.some.injEq]
            refine ((FieldOk_ok ⟨nm, v, false⟩ ⟨by simp only; omega, by simp only; omega⟩ _).as rfl).to ?_
            cases hk : fieldOk ⟨nm, v, false⟩
            · rw [hk, if_neg (by decide)] at hlit
              simp (implicitDefEqProofs := false) (disch := omega) only [push_cast, ↓guardK_tt, ↓guardK_ff, ↓guardK_tf, ↓guardK_ft, ↓condK_t, ↓condK_f, ↓reduceIte, Nat.reduceEqDiff, reduceCtorEq, Nat.reduceAdd, Nat.reduceSub, Nat.reduceMul, Nat.reduceLT, Nat.reduceLeDiff, Int.reduceToNat, Int.reduceLE, Int.reduceLT, Int.reduceEq, Int.reduceNe, Int.reduceAdd, Int.reduceSub, Nat.reduceBEq, Option.some.injEq]
              rw [hlit]
              exact ⟨_, _, Wk.pure (Cl.four (cl_fV _ ⟨nm, v, false⟩) (.int _ _) (.int _ _) (.bool _)), ⟨⟨nm, v, false⟩, _, _, rfl⟩, rfl⟩
            · rw [hk, if_pos rfl] at hlit
              simp (implicitDefEqProofs := false) (disch := omega) only [push_cast, ↓guardK_tt, ↓guardK_ff, ↓guardK_tf, ↓guardK_ft, ↓condK_t, ↓condK_f, ↓reduceIte, Nat.reduceEqDiff, reduceCtorEq, Nat.reduceAdd, Nat.reduceSub, Nat.reduceMul, Nat.reduceLT, Nat.reduceLeDiff, Int.reduceToNat, Int.reduceLE, Int.reduceLT, Int.reduceEq, Int.reduceNe, Int.reduceAdd, Int.reduceSub, Nat.reduceBEq, Option.some.injEq]
              rw [hlit]
              exact ⟨_, _, Wk.pure (Cl.four (cl_fV _ ⟨nm, v, false⟩) (.int _ _) (.int _ _) (.bool _)), by simp [FrRes, fV], rfl⟩
      · have hq' : ¬ (q : Int) = 0 := by omega
        have hnm : nameR l b q s = (atR l q).map (fun f => (f.name, s)) := by rw [nameR, if_neg hq]
        rw [hnm] at hlit
        cases hat : atR l q with
        | none =>
          rw [hat] at hlit
          simp (implicitDefEqProofs := false) (disch := omega) only [push_cast, arV, hq', fd0, ↓guardK_tt, ↓guardK_ff, ↓guardK_tf, ↓guardK_ft, ↓condK_t, ↓condK_f, ↓reduceIte, Nat.reduceEqDiff, reduceCtorEq, Nat.reduceAdd, Nat.reduceSub, Nat.reduceMul, Nat.reduceLT, Nat.reduceLeDiff, Int.reduceToNat, Int.reduceLE, Int.reduceLT, Int.reduceEq, Int.reduceNe, Int.reduceAdd, Int.reduceSub, Nat.reduceBEq, Option.some.injEq]
          rw [hlit]
          exact hz _
        | some g =>
          rw [hat] at hlit
          simp only [Option.map_some] at hlit
          have hgm := hall g (atR_mem hat)
          have hds : (b.take b.length).drop s = b.drop s := by rw [List.take_length]
          simp (implicitDefEqProofs := false) (disch := omega) only [push_cast, arV, hq', hds, ↓guardK_tt, ↓guardK_ff, ↓guardK_tf, ↓guardK_ft, ↓condK_t, ↓condK_f, ↓reduceIte, Nat.reduceEqDiff, reduceCtorEq, Nat.reduceAdd, Nat.reduceSub, Nat.reduceMul, Nat.reduceLT, Nat.reduceLeDiff, Int.reduceToNat, Int.reduceLE, Int.reduceLT, Int.reduceEq, Int.reduceNe, Int.reduceAdd, Int.reduceSub, Nat.reduceBEq, Option.some.injEq]
          refine ⟨by omega, by omega, by omega, (WordRead_ok (b.drop s) (by simp; omega) _).to ?_⟩
          cases hv : wordR (b.drop s) with
          | none =>
            rw [hv] at hlit
            simp (implicitDefEqProofs := false) (disch := omega) only [push_cast, wrV, ↓guardK_tt, ↓guardK_ff, ↓guardK_tf, ↓guardK_ft, ↓condK_t, ↓condK_f, ↓reduceIte, Nat.reduceEqDiff, reduceCtorEq, Nat.reduceAdd, Nat.reduceSub, Nat.reduceMul, Nat.reduceLT, Nat.reduceLeDiff, Int.reduceToNat, Int.reduceLE, Int.reduceLT, Int.reduceEq, Int.reduceNe, Int.reduceAdd, Int.reduceSub, Nat.reduceBEq, Option.some.injEq]
            rw [hlit]
            exact ⟨_, _, Wk.pure (Cl.four (cl_fV _ ⟨g.name, [], false⟩) (.int _ _) (.int _ _) (.bool _)), ⟨⟨g.name, [], false⟩, _, _, rfl⟩, rfl⟩
          | some z =>
            obtain ⟨v, n2⟩ := z
            obtain ⟨v1, v2, v3⟩ := wordR_bound hv
            simp only [List.length_drop] at v3
            have hvl := (wordOk_signs v1).2
            rw [hv] at hlit
            simp only at hlit
            simp (implicitDefEqProofs := false) (disch := omega) only [push_cast, wrV, ↓guardK_tt, ↓guardK_ff, ↓guardK_tf, ↓guardK_ft, ↓condK_t, ↓condK_f, ↓reduceIte, Nat.reduceEqDiff, reduceCtorEq, Nat.reduceAdd, Nat.reduceSub, Nat.reduceMul, Nat.reduceLT, Nat.reduceLeDiff, Int.reduceToNat, Int.reduceLE, Int.reduceLT, Int.reduceEq, Int.reduceNe, Int.reduceAdd, Int.reduceSub, Nat.reduceBEq, Option.some.injEq]
            refine ((FieldOk_ok ⟨g.name, v, false⟩ ⟨hgm.1, by simp only; omega⟩ _).as rfl).to ?_
            cases hk : fieldOk ⟨g.name, v, false⟩
            · rw [hk, if_neg (by decide)] at hlit
              simp (implicitDefEqProofs := false) (disch := omega) only [push_cast, ↓guardK_tt, ↓guardK_ff, ↓guardK_tf, ↓guardK_ft, ↓condK_t, ↓condK_f, ↓reduceIte, Nat.reduceEqDiff, reduceCtorEq, Nat.reduceAdd, Nat.reduceSub, Nat.reduceMul, Nat.reduceLT, Nat.reduceLeDiff, Int.reduceToNat, Int.reduceLE, Int.reduceLT, Int.reduceEq, Int.reduceNe, Int.reduceAdd, Int.reduceSub, Nat.reduceBEq, Option.some.injEq]
              rw [hlit]
              exact ⟨_, _, Wk.pure (Cl.four (cl_fV _ ⟨g.name, v, false⟩) (.int _ _) (.int _ _) (.bool _)), ⟨⟨g.name, v, false⟩, _, _, rfl⟩, rfl⟩
            · rw [hk, if_pos rfl] at hlit
              simp (implicitDefEqProofs := false) (disch := omega) only [push_cast, ↓guardK_tt, ↓guardK_ff, ↓guardK_tf, ↓guardK_ft, ↓condK_t, ↓condK_f, ↓reduceIte, Nat.reduceEqDiff, reduceCtorEq, Nat.reduceAdd, Nat.reduceSub, Nat.reduceMul, Nat.reduceLT, Nat.reduceLeDiff, Int.reduceToNat, Int.reduceLE, Int.reduceLT, Int.reduceEq, Int.reduceNe, Int.reduceAdd, Int.reduceSub, Nat.reduceBEq, Option.some.injEq]
              rw [hlit]
              exact ⟨_, _, Wk.pure (Cl.four (cl_fV _ ⟨g.name, v, false⟩) (.int _ _) (.int _ _) (.bool _)), by simp [FrRes, fV], rfl⟩
  have h64' : ¬ (c.toNat : Int) ≥ 64 := by omega
  by_cases h16 : 16 ≤ c.toNat
  · have h16' : (c.toNat : Int) ≥ 16 := by omega
    by_cases h32 : c.toNat < 32
    · have h32' : (c.toNat : Int) < 32 := by omega
      have hf0 : fieldR l b = litR l b 4 := by rw [fieldR, ← hc, if_neg h128, if_neg h64, if_pos ⟨h16, h32⟩]
      simp (implicitDefEqProofs := false) (disch := omega) only [push_cast, ← hc, h128', h64', h16', h32', ↓guardK_tt, ↓guardK_ff, ↓guardK_tf, ↓guardK_ft, ↓condK_t, ↓condK_f, ↓reduceIte, Nat.reduceEqDiff, reduceCtorEq, Nat.reduceAdd, Nat.reduceSub, Nat.reduceMul, Nat.reduceLT, Nat.reduceLeDiff, Int.reduceToNat, Int.reduceLE, Int.reduceLT, Int.reduceEq, Int.reduceNe, Int.reduceAdd, Int.reduceSub, Nat.reduceBEq, Option.some.injEq]
      refine ((NumRead_ok b 4 (by omega) (by omega) _).as (by simp)).to ?_
      cases hn : numR b 4 with
      | none =>
        have hfr : fieldR l b = none := by rw [hf0, litR, hn]
        simp (implicitDefEqProofs := false) (disch := omega) only [push_cast, nrV, ↓guardK_tt, ↓guardK_ff, ↓guardK_tf, ↓guardK_ft, ↓condK_t, ↓condK_f, ↓reduceIte, Nat.reduceEqDiff, reduceCtorEq, Nat.reduceAdd, Nat.reduceSub, Nat.reduceMul, Nat.reduceLT, Nat.reduceLeDiff, Int.reduceToNat, Int.reduceLE, Int.reduceLT, Int.reduceEq, Int.reduceNe, Int.reduceAdd, Int.reduceSub, Nat.reduceBEq, Option.some.injEq]
        rw [hfr]
        exact hz _
      | some x =>
        obtain ⟨q, s⟩ := x
        obtain ⟨g1, g2, g3, g4⟩ := numR_bound (by decide) hn
        simp (implicitDefEqProofs := false) (disch := omega) only [push_cast, nrV, ↓guardK_tt, ↓guardK_ff, ↓guardK_tf, ↓guardK_ft, ↓condK_t, ↓condK_f, ↓reduceIte, Nat.reduceEqDiff, reduceCtorEq, Nat.reduceAdd, Nat.reduceSub, Nat.reduceMul, Nat.reduceLT, Nat.reduceLeDiff, Int.reduceToNat, Int.reduceLE, Int.reduceLT, Int.reduceEq, Int.reduceNe, Int.reduceAdd, Int.reduceSub, Nat.reduceBEq, Option.some.injEq]
        refine ((at_ok l max q hl (by omega) _).as rfl).to ?_
        have hlit : fieldR l b = match nameR l b q s with
            | none => none
            | some (nm, s2) => match wordR (b.drop s2) with
              | none => none
              | some (v, n) => if fieldOk ⟨nm, v, true⟩ = true then some (⟨nm, v, true⟩, s2 + n, 4) else none := by rw [hf0, litR, hn]; rfl
        by_cases hq : q = 0
        · have hq' : (q : Int) = 0 := by omega
          have hnm : nameR l b q s = (wordR (b.drop s)).map (fun x => (x.1, s + x.2)) := by rw [nameR, if_pos hq]
          have hat : atR l q = none := by rw [atR, if_neg (by omega)]
          rw [hat]
          rw [hnm] at hlit
          have hds : (b.take b.length).drop s = b.drop s := by rw [List.take_length]
          simp (implicitDefEqProofs := false) (disch := omega) only [push_cast, arV, hq', hds, fd0, ↓guardK_tt, ↓guardK_ff, ↓guardK_tf, ↓guardK_ft, ↓condK_t, ↓condK_f, ↓reduceIte, Nat.reduceEqDiff, reduceCtorEq, Nat.reduceAdd, Nat.reduceSub, Nat.reduceMul, Nat.reduceLT, Nat.reduceLeDiff, Int.reduceToNat, Int.reduceLE, Int.reduceLT, Int.reduceEq, Int.reduceNe, Int.reduceAdd, Int.reduceSub, Nat.reduceBEq, Option.some.injEq]
          refine ⟨by omega, by omega, by omega, (WordRead_ok (b.drop s) (by simp; omega) _).to ?_⟩
          cases hw : wordR (b.drop s) with
          | none =>
            rw [hw] at hlit
            simp (implicitDefEqProofs := false) (disch := omega) only [push_cast, wrV, ↓guardK_tt, ↓guardK_ff, ↓guardK_tf, ↓guardK_ft, ↓condK_t, ↓condK_f, ↓reduceIte, Nat.reduceEqDiff, reduceCtorEq, Nat.reduceAdd, Nat.reduceSub, Nat.reduceMul, Nat.reduceLT, Nat.reduceLeDiff, Int.reduceToNat, Int.reduceLE, Int.reduceLT, Int.reduceEq, Int.reduceNe, Int.reduceAdd, Int.reduceSub, Nat.reduceBEq, Option.some.injEq]
            rw [hlit]
            exact hz _
          | some y =>
            obtain ⟨nm, n⟩ := y
            obtain ⟨w1, w2, w3⟩ := wordR_bound hw
            simp only [List.length_drop] at w3
            have hds2 : (b.take b.length).drop ((s : Int) + n).toNat = b.drop (s + n) := by rw [List.take_length, show ((s : Int) + n).toNat = s + n by omega]
            rw [hw] at hlit
            simp only [Option.map_some] at hlit
            have hnl := (wordOk_signs w1).2
            simp (implicitDefEqProofs := false) (disch := omega) only [push_cast, wrV, hds2, ↓guardK_tt, ↓guardK_ff, ↓guardK_tf, ↓guardK_ft, ↓condK_t, ↓condK_f, ↓reduceIte, Nat.reduceEqDiff, reduceCtorEq, Nat.reduceAdd, Nat.reduceSub, Nat.reduceMul, Nat.reduceLT, Nat.reduceLeDiff, Int.reduceToNat, Int.reduceLE, Int.reduceLT, Int.reduceEq, Int.reduceNe, Int.reduceAdd, Int.reduceSub, Nat.reduceBEq, Option.some.injEq]
            refine ⟨by omega, by omega, by omega, (WordRead_ok (b.drop (s + n)) (by simp; omega) _).to ?_⟩
            cases hv : wordR (b.drop (s + n)) with
            | none =>
              rw [hv] at hlit
              simp (implicitDefEqProofs := false) (disch := omega) only [push_cast, wrV, ↓guardK_tt, ↓guardK_ff, ↓guardK_tf, ↓guardK_ft, ↓condK_t, ↓condK_f, ↓reduceIte, Nat.reduceEqDiff, reduceCtorEq, Nat.reduceAdd, Nat.reduceSub, Nat.reduceMul, Nat.reduceLT, Nat.reduceLeDiff, Int.reduceToNat, Int.reduceLE, Int.reduceLT, Int.reduceEq, Int.reduceNe, Int.reduceAdd, Int.reduceSub, Nat.reduceBEq, Option.some.injEq]
              rw [hlit]
              exact ⟨_, _, Wk.pure (Cl.four (cl_fV _ ⟨nm, [], true⟩) (.int _ _) (.int _ _) (.bool _)), ⟨⟨nm, [], true⟩, _, _, rfl⟩, rfl⟩
            | some z =>
              obtain ⟨v, n2⟩ := z
              obtain ⟨v1, v2, v3⟩ := wordR_bound hv
              simp only [List.length_drop] at v3
              have hvl := (wordOk_signs v1).2
              rw [hv] at hlit
              simp only at hlit
              simp (implicitDefEqProofs := false) (disch := omega) only [push_cast, wrV, ↓guardK_tt, ↓guardK_ff, ↓guardK_tf, ↓guardK_ft, ↓condK_t, ↓condK_f, ↓reduceIte, Nat.reduceEqDiff, reduceCtorEq, Nat.reduceAdd, Nat.reduceSub, Nat.reduceMul, Nat.reduceLT, Nat.reduceLeDiff, Int.reduceToNat, Int.reduceLE, Int.reduceLT, Int.reduceEq, Int.reduceNe, Int.reduceAdd, Int.reduceSub, Nat.reduceBEq, Option.some.injEq]
              refine ((FieldOk_ok ⟨nm, v, true⟩ ⟨by simp only; omega, by simp only; omega⟩ _).as rfl).to ?_
              cases hk : fieldOk ⟨nm, v, true⟩
              · rw [hk, if_neg (by decide)] at hlit
                simp (implicitDefEqProofs := false) (disch := omega) only [push_cast, ↓guardK_tt, ↓guardK_ff, ↓guardK_tf, ↓guardK_ft, ↓condK_t, ↓condK_f, ↓reduceIte, Nat.reduceEqDiff, reduceCtorEq, Nat.reduceAdd, Nat.reduceSub, Nat.reduceMul, Nat.reduceLT, Nat.reduceLeDiff, Int.reduceToNat, Int.reduceLE, Int.reduceLT, Int.reduceEq, Int.reduceNe, Int.reduceAdd, Int.reduceSub, Nat.reduceBEq, Option.some.injEq]
                rw [hlit]
                exact ⟨_, _, Wk.pure (Cl.four (cl_fV _ ⟨nm, v, true⟩) (.int _ _) (.int _ _) (.bool _)), ⟨⟨nm, v, true⟩, _, _, rfl⟩, rfl⟩
              · rw [hk, if_pos rfl] at hlit
                simp (implicitDefEqProofs := false) (disch := omega) only [push_cast, ↓guardK_tt, ↓guardK_ff, ↓guardK_tf, ↓guardK_ft, ↓condK_t, ↓condK_f, ↓reduceIte, Nat.reduceEqDiff, reduceCtorEq, Nat.reduceAdd, Nat.reduceSub, Nat.reduceMul, Nat.reduceLT, Nat.reduceLeDiff, Int.reduceToNat, Int.reduceLE, Int.reduceLT, Int.reduceEq, Int.reduceNe, Int.reduceAdd, Int.reduceSub, Nat.reduceBEq, Option.some.injEq]
                rw [hlit]
                exact ⟨_, _, Wk.pure (Cl.four (cl_fV _ ⟨nm, v, true⟩) (.int _ _) (.int _ _) (.bool _)), by simp [FrRes, fV], rfl⟩
        · have hq' : ¬ (q : Int) = 0 := by omega
          have hnm : nameR l b q s = (atR l q).map (fun f => (f.name, s)) := by rw [nameR, if_neg hq]
          rw [hnm] at hlit
          cases hat : atR l q with
          | none =>
            rw [hat] at hlit
            simp (implicitDefEqProofs := false) (disch := omega) only [push_cast, arV, hq', fd0, ↓guardK_tt, ↓guardK_ff, ↓guardK_tf, ↓guardK_ft, ↓condK_t, ↓condK_f, ↓reduceIte, Nat.reduceEqDiff, reduceCtorEq, Nat.reduceAdd, Nat.reduceSub, Nat.reduceMul, Nat.reduceLT, Nat.reduceLeDiff, Int.reduceToNat, Int.reduceLE, Int.reduceLT, Int.reduceEq, Int.reduceNe, Int.reduceAdd, Int.reduceSub, Nat.reduceBEq, Option.some.injEq]
            rw [hlit]
            exact hz _
          | some g =>
            rw [hat] at hlit
            simp only [Option.map_some] at hlit
            have hgm := hall g (atR_mem hat)
            have hds : (b.take b.length).drop s = b.drop s := by rw [List.take_length]
            simp (implicitDefEqProofs := false) (disch := omega) only [push_cast, arV, hq', hds, ↓guardK_tt, ↓guardK_ff, ↓guardK_tf, ↓guardK_ft, ↓condK_t, ↓condK_f, ↓reduceIte, Nat.reduceEqDiff, reduceCtorEq, Nat.reduceAdd, Nat.reduceSub, Nat.reduceMul, Nat.reduceLT, Nat.reduceLeDiff, Int.reduceToNat, Int.reduceLE, Int.reduceLT, Int.reduceEq, Int.reduceNe, Int.reduceAdd, Int.reduceSub, Nat.reduceBEq, Option.some.injEq]
            refine ⟨by omega, by omega, by omega, (WordRead_ok (b.drop s) (by simp; omega) _).to ?_⟩
            cases hv : wordR (b.drop s) with
            | none =>
              rw [hv] at hlit
              simp (implicitDefEqProofs := false) (disch := omega) only [push_cast, wrV, ↓guardK_tt, ↓guardK_ff, ↓guardK_tf, ↓guardK_ft, ↓condK_t, ↓condK_f, ↓reduceIte, Nat.reduceEqDiff, reduceCtorEq, Nat.reduceAdd, Nat.reduceSub, Nat.reduceMul, Nat.reduceLT, Nat.reduceLeDiff, Int.reduceToNat, Int.reduceLE, Int.reduceLT, Int.reduceEq, Int.reduceNe, Int.reduceAdd, Int.reduceSub, Nat.reduceBEq, Option.some.injEq]
              rw [hlit]
              exact ⟨_, _, Wk.pure (Cl.four (cl_fV _ ⟨g.name, [], true⟩) (.int _ _) (.int _ _) (.bool _)), ⟨⟨g.name, [], true⟩, _, _, rfl⟩, rfl⟩
            | some z =>
              obtain ⟨v, n2⟩ := z
              obtain ⟨v1, v2, v3⟩ := wordR_bound hv
              simp only [List.length_drop] at v3
              have hvl := (wordOk_signs v1).2
              rw [hv] at hlit
              simp only at hlit
              simp (implicitDefEqProofs := false) (disch := omega) only [push_cast, wrV, ↓guardK_tt, ↓guardK_ff, ↓guardK_tf, ↓guardK_ft, ↓condK_t, ↓condK_f, ↓reduceIte, Nat.reduceEqDiff, reduceCtorEq, Nat.reduceAdd, Nat.reduceSub, Nat.reduceMul, Nat.reduceLT, Nat.reduceLeDiff, Int.reduceToNat, Int.reduceLE, Int.reduceLT, Int.reduceEq, Int.reduceNe, Int.reduceAdd, Int.reduceSub, Nat.reduceBEq, Option.some.injEq]
              refine ((FieldOk_ok ⟨g.name, v, true⟩ ⟨hgm.1, by simp only; omega⟩ _).as rfl).to ?_
              cases hk : fieldOk ⟨g.name, v, true⟩
              · rw [hk, if_neg (by decide)] at hlit
                simp (implicitDefEqProofs := false) (disch := omega) only [push_cast, ↓guardK_tt, ↓guardK_ff, ↓guardK_tf, ↓guardK_ft, ↓condK_t, ↓condK_f, ↓reduceIte, Nat.reduceEqDiff, reduceCtorEq, Nat.reduceAdd, Nat.reduceSub, Nat.reduceMul, Nat.reduceLT, Nat.reduceLeDiff, Int.reduceToNat, Int.reduceLE, Int.reduceLT, Int.reduceEq, Int.reduceNe, Int.reduceAdd, Int.reduceSub, Nat.reduceBEq, Option.some.injEq]
                rw [hlit]
                exact ⟨_, _, Wk.pure (Cl.four (cl_fV _ ⟨g.name, v, true⟩) (.int _ _) (.int _ _) (.bool _)), ⟨⟨g.name, v, true⟩, _, _, rfl⟩, rfl⟩
              · rw [hk, if_pos rfl] at hlit
                simp (implicitDefEqProofs := false) (disch := omega) only [push_cast, ↓guardK_tt, ↓guardK_ff, ↓guardK_tf, ↓guardK_ft, ↓condK_t, ↓condK_f, ↓reduceIte, Nat.reduceEqDiff, reduceCtorEq, Nat.reduceAdd, Nat.reduceSub, Nat.reduceMul, Nat.reduceLT, Nat.reduceLeDiff, Int.reduceToNat, Int.reduceLE, Int.reduceLT, Int.reduceEq, Int.reduceNe, Int.reduceAdd, Int.reduceSub, Nat.reduceBEq, Option.some.injEq]
                rw [hlit]
                exact ⟨_, _, Wk.pure (Cl.four (cl_fV _ ⟨g.name, v, true⟩) (.int _ _) (.int _ _) (.bool _)), by simp [FrRes, fV], rfl⟩
    · have h32' : ¬ (c.toNat : Int) < 32 := by omega
      have hf0 : fieldR l b = none := by rw [fieldR, ← hc, if_neg h128, if_neg h64, if_neg (fun h => h32 h.2)]
      simp (implicitDefEqProofs := false) (disch := omega) only [push_cast, ← hc, h128', h64', h16', h32', ↓guardK_tt, ↓guardK_ff, ↓guardK_tf, ↓guardK_ft, ↓condK_t, ↓condK_f, ↓reduceIte, Nat.reduceEqDiff, reduceCtorEq, Nat.reduceAdd, Nat.reduceSub, Nat.reduceMul, Nat.reduceLT, Nat.reduceLeDiff, Int.reduceToNat, Int.reduceLE, Int.reduceLT, Int.reduceEq, Int.reduceNe, Int.reduceAdd, Int.reduceSub, Nat.reduceBEq, Option.some.injEq]
      rw [hf0]
      exact hz _
  · have h16' : ¬ (c.toNat : Int) ≥ 16 := by omega
    have hf0 : fieldR l b = none := by rw [fieldR, ← hc, if_neg h128, if_neg h64, if_neg (fun h => h16 h.1)]
    simp (implicitDefEqProofs := false) (disch := omega) only [push_cast, ← hc, h128', h64', h16', ↓guardK_tt, ↓guardK_ff, ↓guardK_tf, ↓guardK_ft, ↓condK_t, ↓condK_f, ↓reduceIte, Nat.reduceEqDiff, reduceCtorEq, Nat.reduceAdd, Nat.reduceSub, Nat.reduceMul, Nat.reduceLT, Nat.reduceLeDiff, Int.reduceToNat, Int.reduceLE, Int.reduceLT, Int.reduceEq, Int.reduceNe, Int.reduceAdd, Int.reduceSub, Nat.reduceBEq, Option.some.injEq]
    rw [hf0]
    exact hz _

end Go.Proofs.Ytblbaniokmgjgaa
