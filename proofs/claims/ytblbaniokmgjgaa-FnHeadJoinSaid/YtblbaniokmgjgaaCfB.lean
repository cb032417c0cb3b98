/- Contracts: words that are read by the specification. -/
import Derived.Test.YtblbaniokmgjgaaCfA
import Derived.Test.YtblbaniokmgjgaaCdB
namespace Go.Proofs.Ytblbaniokmgjgaa
open Go
set_option linter.unusedVariables false
set_option linter.unusedSimpArgs false

set_option maxHeartbeats 8000000 in
theorem l2Unpack_ok (b : List UInt8) (hb : b.length ≤ 16) (S : List Blk) : VCall Try.prog 104 [.str b] S fun r S' => r = .tup [.str (unO b), .bool (unOk b)] ∧ S' = S := by
  have hL := bitsB_len b
  obtain ⟨L, hLd⟩ : ∃ L, L = bitsB b := ⟨_, rfl⟩
  have hLle : ∀ x ∈ L, x ≤ 1 := by rw [hLd]; exact bitsB_le b
  rw [← hLd] at hL
  refine VCall.of_ev hD (fun _ => false) (fun _ => []) (n := 78) Try.func104 rfl rfl Try.ntmps104 (by kernel_rfl) (by kernel_rfl) (congrArg Array.toList Try.results104) (by simp) ?_
  simp (implicitDefEqProofs := false) (disch := omega) only [push_cast, ↓guardK_tt, ↓guardK_ff, ↓guardK_tf, ↓guardK_ft, ↓condK_t, ↓condK_f, ↓reduceIte, Nat.reduceEqDiff, reduceCtorEq, Nat.reduceAdd, Nat.reduceSub, Nat.reduceMul, Nat.reduceLT, Nat.reduceLeDiff, Int.reduceToNat, Int.reduceLE, Int.reduceLT, Int.reduceEq, Int.reduceNe, Int.reduceAdd, Int.reduceSub, Nat.reduceBEq, Option.some.injEq]
  refine wpV_loop (fun m t S' => ∃ (i τ : Nat), m = b.length - i ∧ i ≤ b.length ∧ t 0 = .str b ∧ t 4 = .rows (some τ) ((bitsB (b.take i)).map iV) ∧ t 5 = .int .i64 i ∧ Tok S S' τ 1) b.length ⟨0, S.length, by omega, by omega, rfl, rfl, rfl, Tok.new _ _⟩ ?_
  rintro m t S' ⟨i, τ, rfl, hi, h0, h4, h5, hT⟩
  have hat := hT.at
  have hbl := bitsB_len (b.take i)
  have hti : (b.take i).length ≤ 16 := by simp; omega
  refine wpV_of hD (fun _ => false) (fun _ => []) (by kernel_rfl) ?_
  by_cases hil : i < b.length
  · have hil' : (i : Int) < b.length := by omega
    obtain ⟨c, hc⟩ : ∃ c, c = b.getD i 0 := ⟨_, rfl⟩
    have hc256 := c.toNat_lt
    have hcw : IntKind.i64.wrap (c.toNat : Int) = c.toNat := i64_fit _ (by omega)
    simp (implicitDefEqProofs := false) (disch := omega) only [push_cast, h0, h4, h5, hil', ← hc, hcw, ↓guardK_tt, ↓guardK_ff, ↓guardK_tf, ↓guardK_ft, ↓condK_t, ↓condK_f, ↓reduceIte, Nat.reduceEqDiff, reduceCtorEq, Nat.reduceAdd, Nat.reduceSub, Nat.reduceMul, Nat.reduceLT, Nat.reduceLeDiff, Int.reduceToNat, Int.reduceLE, Int.reduceLT, Int.reduceEq, Int.reduceNe, Int.reduceAdd, Int.reduceSub, Nat.reduceBEq, Option.some.injEq]
    refine ⟨by omega, ((l2Bits_ok c.toNat 8 (by omega) (by omega) _).as (by simp)).to ?_⟩
    simp (implicitDefEqProofs := false) (disch := omega) only [push_cast, h0, h4, h5, hat, ↓guardK_tt, ↓guardK_ff, ↓guardK_tf, ↓guardK_ft, ↓condK_t, ↓condK_f, ↓reduceIte, Nat.reduceEqDiff, reduceCtorEq, Nat.reduceAdd, Nat.reduceSub, Nat.reduceMul, Nat.reduceLT, Nat.reduceLeDiff, Int.reduceToNat, Int.reduceLE, Int.reduceLT, Int.reduceEq, Int.reduceNe, Int.reduceAdd, Int.reduceSub, Nat.reduceBEq, Option.some.injEq]
    refine ⟨by rw [bitsOf_len]; omega, by omega, b.length - (i + 1), by omega, i + 1, S'.length, rfl, by omega, ?_, by simp, hT.step⟩
    rw [take_get8 hil, ← hc]
    simp [bitsB]
  · have hil' : ¬ (i : Int) < b.length := by omega
    have : i = b.length := by omega
    subst this
    rw [List.take_length, ← hLd] at h4
    simp (implicitDefEqProofs := false) (disch := omega) only [push_cast, h0, h4, h5, hil', ↓guardK_tt, ↓guardK_ff, ↓guardK_tf, ↓guardK_ft, ↓condK_t, ↓condK_f, ↓reduceIte, Nat.reduceEqDiff, reduceCtorEq, Nat.reduceAdd, Nat.reduceSub, Nat.reduceMul, Nat.reduceLT, Nat.reduceLeDiff, Int.reduceToNat, Int.reduceLE, Int.reduceLT, Int.reduceEq, Int.reduceNe, Int.reduceAdd, Int.reduceSub, Nat.reduceBEq, Option.some.injEq]
    refine wpV_mono (k := fun e t S2 => e = .exit 2 ∧ t 6 = .str (unO b) ∧ (∃ tk, t 4 = .rows tk ((unL b).map iV)) ∧ S2 = S') ?_ ?_
    · refine wpV_loop (fun m t S2 => ∃ (x : List Nat) (f : Nat) (o : List UInt8), m = x.length ∧ x.length ≤ f ∧ x.length ≤ 128 ∧ o.length ≤ 128 - x.length ∧ (∀ y ∈ x, y ≤ 1) ∧ unO b = o ++ (unB f x).1 ∧ unL b = (unB f x).2 ∧ (∃ tk, t 4 = .rows tk (x.map iV)) ∧ t 6 = .str o ∧ S2 = S') L.length
        ⟨L, L.length, [], rfl, Nat.le_refl _, by omega, by simp, hLle, by rw [unO, ← hLd]; rfl, by rw [unL, ← hLd], ⟨_, by simpa [putT] using h4⟩, rfl, rfl⟩ ?_
      clear h0 h4 h5 hT hat
      rintro m t S2 ⟨x, f, o, rfl, hxf, hx128, hol, hxb, hun, hul, ⟨tk, h4⟩, h6, rfl⟩
      have hstop : unB f x = ([], x) → V.str o = .str (unO b) ∧ ∃ tk', V.rows tk (x.map iV) = .rows tk' ((unL b).map iV) := fun e => by
        rw [hun, hul, e]
        exact ⟨by rw [List.append_nil], tk, rfl⟩
      refine wpV_of hD (fun _ => false) (fun _ => []) (by kernel_rfl) ?_
      have hs5 : List.take 5 (List.map iV x) = List.map iV (x.take 5) := by rw [List.map_take]
      have hs7 : List.take 7 (List.map iV x) = List.map iV (x.take 7) := by rw [List.map_take]
      have hd5 : List.drop 5 (List.take x.length (List.map iV x)) = List.map iV (x.drop 5) := by rw [List.take_of_length_le (by simp), List.map_drop]
      have hd7 : List.drop 7 (List.take x.length (List.map iV x)) = List.map iV (x.drop 7) := by rw [List.take_of_length_le (by simp), List.map_drop]
      by_cases h5l : 5 ≤ x.length
      · have h5l' : (x.length : Int) ≥ 5 := by omega
        obtain ⟨k, rfl⟩ : ∃ k, f = k + 1 := ⟨f - 1, by omega⟩
        simp (implicitDefEqProofs := false) (disch := omega) only [push_cast, h4, h6, h5l', hs5, ↓guardK_tt, ↓guardK_ff, ↓guardK_tf, ↓guardK_ft, ↓condK_t, ↓condK_f, ↓reduceIte, Nat.reduceEqDiff, reduceCtorEq, Nat.reduceAdd, Nat.reduceSub, Nat.reduceMul, Nat.reduceLT, Nat.reduceLeDiff, Int.reduceToNat, Int.reduceLE, Int.reduceLT, Int.reduceEq, Int.reduceNe, Int.reduceAdd, Int.reduceSub, Nat.reduceBEq, Option.some.injEq]
        refine (l2Num_ok (x.take 5) (by simp; omega) (fun y hy => hxb y (List.mem_of_mem_take hy)) _).to ?_
        by_cases h24 : numOf (x.take 5) < 24
        · have hst := unB_5 (k := k) h5l h24
          generalize numOf (x.take 5) = w at h24 hst
          have h24' : ¬ (w : Int) ≥ 24 := by omega
          have h39' : ¬ (w : Int) ≥ 39 := by omega
          have hnx : unB (k + 1) x = (signOf w :: (unB k (x.drop 5)).1, (unB k (x.drop 5)).2) := hst
          simp (implicitDefEqProofs := false) (disch := omega) only [push_cast, h4, h6, hs5, h24', h39', ↓guardK_tt, ↓guardK_ff, ↓guardK_tf, ↓guardK_ft, ↓condK_t, ↓condK_f, ↓reduceIte, Nat.reduceEqDiff, reduceCtorEq, Nat.reduceAdd, Nat.reduceSub, Nat.reduceMul, Nat.reduceLT, Nat.reduceLeDiff, Int.reduceToNat, Int.reduceLE, Int.reduceLT, Int.reduceEq, Int.reduceNe, Int.reduceAdd, Int.reduceSub, Nat.reduceBEq, Option.some.injEq]
          refine ⟨by omega, by omega, ?_⟩
          generalize hc : (List.getD (α := UInt8) _ w 0) = c
          have hcs : signOf w = c := hc
          have hc256 := c.toNat_lt
          rw [i64_fit _ (by omega)]
          refine (l1Byte_ok c.toNat _).to ?_
          simp (implicitDefEqProofs := false) (disch := omega) only [push_cast, h4, h6, hd5, ↓guardK_tt, ↓guardK_ff, ↓guardK_tf, ↓guardK_ft, ↓condK_t, ↓condK_f, ↓reduceIte, Nat.reduceEqDiff, reduceCtorEq, Nat.reduceAdd, Nat.reduceSub, Nat.reduceMul, Nat.reduceLT, Nat.reduceLeDiff, Int.reduceToNat, Int.reduceLE, Int.reduceLT, Int.reduceEq, Int.reduceNe, Int.reduceAdd, Int.reduceSub, Nat.reduceBEq, Option.some.injEq]
          refine ⟨by omega, by omega, by omega, (x.drop 5).length, by simp; omega, x.drop 5, k, o ++ [c], rfl, by simp; omega, by simp; omega, by simp; omega, fun y hy => hxb y (List.mem_of_mem_drop hy), ?_, ?_, ⟨_, rfl⟩, ?_⟩
          · rw [hun, hnx, hcs, List.append_assoc]; rfl
          · rw [hul, hnx]
          · simp [by8]
        · have h24' : ((numOf (x.take 5) : Nat) : Int) ≥ 24 := by omega
          by_cases h7l : 7 ≤ x.length
          · have h7l' : ¬ (x.length : Int) < 7 := by omega
            obtain ⟨n1, n2, n3⟩ := num57 h7l hxb
            simp (implicitDefEqProofs := false) (disch := omega) only [push_cast, h4, h6, h24', h7l', hs7, ↓guardK_tt, ↓guardK_ff, ↓guardK_tf, ↓guardK_ft, ↓condK_t, ↓condK_f, ↓reduceIte, Nat.reduceEqDiff, reduceCtorEq, Nat.reduceAdd, Nat.reduceSub, Nat.reduceMul, Nat.reduceLT, Nat.reduceLeDiff, Int.reduceToNat, Int.reduceLE, Int.reduceLT, Int.reduceEq, Int.reduceNe, Int.reduceAdd, Int.reduceSub, Nat.reduceBEq, Option.some.injEq]
            refine ⟨by omega, (l2Num_ok (x.take 7) (by simp; omega) (fun y hy => hxb y (List.mem_of_mem_take hy)) _).to ?_⟩
            by_cases h39 : 39 ≤ numOf (x.take 7) - 72
            · have hst := hstop (unB_bad (k := k) h7l h24 h39)
              generalize numOf (x.take 7) = v at n1 n2 n3 h39
              have ev : (v : Int) - 96 + 24 = ((v - 72 : Nat) : Int) := by omega
              have h39' : ((v - 72 : Nat) : Int) ≥ 39 := by omega
              generalize v - 72 = w at ev h39'
              simp (implicitDefEqProofs := false) (disch := omega) only [push_cast, h4, h6, ev, h39', ↓guardK_tt, ↓guardK_ff, ↓guardK_tf, ↓guardK_ft, ↓condK_t, ↓condK_f, ↓reduceIte, Nat.reduceEqDiff, reduceCtorEq, Nat.reduceAdd, Nat.reduceSub, Nat.reduceMul, Nat.reduceLT, Nat.reduceLeDiff, Int.reduceToNat, Int.reduceLE, Int.reduceLT, Int.reduceEq, Int.reduceNe, Int.reduceAdd, Int.reduceSub, Nat.reduceBEq, Option.some.injEq]
              exact hst
            · have hst := unB_7 (k := k) h7l h24 h39
              generalize numOf (x.take 7) = v at n1 n2 n3 h39 hst
              have ev : (v : Int) - 96 + 24 = ((v - 72 : Nat) : Int) := by omega
              have h39' : ¬ ((v - 72 : Nat) : Int) ≥ 39 := by omega
              generalize v - 72 = w at ev h39' hst
              have hnx : unB (k + 1) x = (signOf w :: (unB k (x.drop 7)).1, (unB k (x.drop 7)).2) := hst
              simp (implicitDefEqProofs := false) (disch := omega) only [push_cast, h4, h6, hs7, ev, h39', ↓guardK_tt, ↓guardK_ff, ↓guardK_tf, ↓guardK_ft, ↓condK_t, ↓condK_f, ↓reduceIte, Nat.reduceEqDiff, reduceCtorEq, Nat.reduceAdd, Nat.reduceSub, Nat.reduceMul, Nat.reduceLT, Nat.reduceLeDiff, Int.reduceToNat, Int.reduceLE, Int.reduceLT, Int.reduceEq, Int.reduceNe, Int.reduceAdd, Int.reduceSub, Nat.reduceBEq, Option.some.injEq]
              refine ⟨by omega, by omega, ?_⟩
              generalize hc : (List.getD (α := UInt8) _ w 0) = c
              have hcs : signOf w = c := hc
              have hc256 := c.toNat_lt
              rw [i64_fit _ (by omega)]
              refine (l1Byte_ok c.toNat _).to ?_
              simp (implicitDefEqProofs := false) (disch := omega) only [push_cast, h4, h6, hd7, ↓guardK_tt, ↓guardK_ff, ↓guardK_tf, ↓guardK_ft, ↓condK_t, ↓condK_f, ↓reduceIte, Nat.reduceEqDiff, reduceCtorEq, Nat.reduceAdd, Nat.reduceSub, Nat.reduceMul, Nat.reduceLT, Nat.reduceLeDiff, Int.reduceToNat, Int.reduceLE, Int.reduceLT, Int.reduceEq, Int.reduceNe, Int.reduceAdd, Int.reduceSub, Nat.reduceBEq, Option.some.injEq]
              refine ⟨by omega, by omega, by omega, (x.drop 7).length, by simp; omega, x.drop 7, k, o ++ [c], rfl, by simp; omega, by simp; omega, by simp; omega, fun y hy => hxb y (List.mem_of_mem_drop hy), ?_, ?_, ⟨_, rfl⟩, ?_⟩
              · rw [hun, hnx, hcs, List.append_assoc]; rfl
              · rw [hul, hnx]
              · simp [by8]
          · have h7l' : (x.length : Int) < 7 := by omega
            simp (implicitDefEqProofs := false) (disch := omega) only [push_cast, h4, h6, h24', h7l', ↓guardK_tt, ↓guardK_ff, ↓guardK_tf, ↓guardK_ft, ↓condK_t, ↓condK_f, ↓reduceIte, Nat.reduceEqDiff, reduceCtorEq, Nat.reduceAdd, Nat.reduceSub, Nat.reduceMul, Nat.reduceLT, Nat.reduceLeDiff, Int.reduceToNat, Int.reduceLE, Int.reduceLT, Int.reduceEq, Int.reduceNe, Int.reduceAdd, Int.reduceSub, Nat.reduceBEq, Option.some.injEq]
            exact hstop (unB_lt7 (by omega) h24)
      · have h5l' : ¬ (x.length : Int) ≥ 5 := by omega
        simp (implicitDefEqProofs := false) (disch := omega) only [push_cast, h4, h6, h5l', ↓guardK_tt, ↓guardK_ff, ↓guardK_tf, ↓guardK_ft, ↓condK_t, ↓condK_f, ↓reduceIte, Nat.reduceEqDiff, reduceCtorEq, Nat.reduceAdd, Nat.reduceSub, Nat.reduceMul, Nat.reduceLT, Nat.reduceLeDiff, Int.reduceToNat, Int.reduceLE, Int.reduceLT, Int.reduceEq, Int.reduceNe, Int.reduceAdd, Int.reduceSub, Nat.reduceBEq, Option.some.injEq]
        refine hstop ?_
        cases f with
        | zero =>
          have : x = [] := List.length_eq_zero_iff.1 (by omega)
          subst this
          rfl
        | succ k => exact unB_lt5 (by omega)
    · rintro _ t2 S2 ⟨rfl, h6, ⟨tk, h4⟩, rfl⟩
      have hul := congrArg List.length (un_bits b)
      rw [List.length_append, ← hLd] at hul
      have hol : (unO b).length ≤ 1000 := by
        have h3 : ∀ w : List UInt8, w.length ≤ (w.flatMap codeOf).length := by
          intro w
          induction w with
          | nil => simp
          | cons c w ih =>
            have : 1 ≤ (codeOf c).length := by unfold codeOf; split <;> simp [bitsOf_len]
            simp only [List.flatMap_cons, List.length_append, List.length_cons]; omega
        have := h3 (unO b)
        omega
      have huk : unOk b = ((unL b).all (fun x => decide (x = 1)) && decide ((unL b).length < 8) && decide ((unO b).length ≤ 16)) := rfl
      generalize unL b = l at h4 hul huk
      generalize unO b = o at h6 hol huk
      simp (implicitDefEqProofs := false) (disch := omega) only [push_cast, h4, h6, ↓guardK_tt, ↓guardK_ff, ↓guardK_tf, ↓guardK_ft, ↓condK_t, ↓condK_f, ↓reduceIte, Nat.reduceEqDiff, reduceCtorEq, Nat.reduceAdd, Nat.reduceSub, Nat.reduceMul, Nat.reduceLT, Nat.reduceLeDiff, Int.reduceToNat, Int.reduceLE, Int.reduceLT, Int.reduceEq, Int.reduceNe, Int.reduceAdd, Int.reduceSub, Nat.reduceBEq, Option.some.injEq]
      refine wpV_loop (fun m t S3 => ∃ i : Nat, m = l.length - i ∧ i ≤ l.length ∧ t 4 = .rows tk (l.map iV) ∧ t 6 = .str o ∧ t 9 = .bool ((l.take i).all (fun x => decide (x = 1))) ∧ t 10 = .int .i64 i ∧ S3 = S2) l.length ⟨0, by omega, by omega, h4, h6, rfl, rfl, rfl⟩ ?_
      clear h4 h6 h0 h5
      rintro m t S3 ⟨i, rfl, hi, h4, h6, h9, h10, rfl⟩
      refine wpV_of hD (fun _ => false) (fun _ => []) (by kernel_rfl) ?_
      by_cases hil : i < l.length
      · have hil' : (i : Int) < l.length := by omega
        have hgd := getD_iV hil
        rw [iV_eq] at hgd
        have htk : (l.take (i + 1)).all (fun x => decide (x = 1)) = ((l.take i).all (fun x => decide (x = 1)) && decide (l.getD i 0 = 1)) := by
          rw [take_getD hil, List.all_append]; simp
        generalize l.getD i 0 = y at hgd htk
        cases hal : (l.take i).all (fun x => decide (x = 1))
        · rw [hal] at h9 htk
          simp (implicitDefEqProofs := false) (disch := omega) only [push_cast, h4, h6, h9, h10, hil', ↓guardK_tt, ↓guardK_ff, ↓guardK_tf, ↓guardK_ft, ↓condK_t, ↓condK_f, ↓reduceIte, Nat.reduceEqDiff, reduceCtorEq, Nat.reduceAdd, Nat.reduceSub, Nat.reduceMul, Nat.reduceLT, Nat.reduceLeDiff, Int.reduceToNat, Int.reduceLE, Int.reduceLT, Int.reduceEq, Int.reduceNe, Int.reduceAdd, Int.reduceSub, Nat.reduceBEq, Option.some.injEq]
          exact ⟨l.length - (i + 1), by omega, i + 1, rfl, by omega, by rw [htk]; rfl, by simp⟩
        · rw [hal] at h9 htk
          by_cases hy : y = 1
          · have hy' : (y : Int) = 1 := by omega
            rw [decide_eq_true hy] at htk
            simp (implicitDefEqProofs := false) (disch := omega) only [push_cast, h4, h6, h9, h10, hil', hgd, hy', ↓guardK_tt, ↓guardK_ff, ↓guardK_tf, ↓guardK_ft, ↓condK_t, ↓condK_f, ↓reduceIte, Nat.reduceEqDiff, reduceCtorEq, Nat.reduceAdd, Nat.reduceSub, Nat.reduceMul, Nat.reduceLT, Nat.reduceLeDiff, Int.reduceToNat, Int.reduceLE, Int.reduceLT, Int.reduceEq, Int.reduceNe, Int.reduceAdd, Int.reduceSub, Nat.reduceBEq, Option.some.injEq]
            exact ⟨by omega, l.length - (i + 1), by omega, i + 1, rfl, by omega, by rw [htk]; simp, by simp⟩
          · have hy' : ¬ (y : Int) = 1 := by omega
            rw [decide_eq_false hy] at htk
            simp (implicitDefEqProofs := false) (disch := omega) only [push_cast, h4, h6, h9, h10, hil', hgd, hy', ↓guardK_tt, ↓guardK_ff, ↓guardK_tf, ↓guardK_ft, ↓condK_t, ↓condK_f, ↓reduceIte, Nat.reduceEqDiff, reduceCtorEq, Nat.reduceAdd, Nat.reduceSub, Nat.reduceMul, Nat.reduceLT, Nat.reduceLeDiff, Int.reduceToNat, Int.reduceLE, Int.reduceLT, Int.reduceEq, Int.reduceNe, Int.reduceAdd, Int.reduceSub, Nat.reduceBEq, Option.some.injEq]
            exact ⟨by omega, l.length - (i + 1), by omega, i + 1, rfl, by omega, by rw [htk]; simp, by simp⟩
      · have hil' : ¬ (i : Int) < l.length := by omega
        have : i = l.length := by omega
        subst this
        rw [List.take_length] at h9
        cases hal : l.all (fun x => decide (x = 1))
        · rw [hal] at h9 huk
          simp (implicitDefEqProofs := false) (disch := omega) only [push_cast, h4, h6, h9, h10, hil', ↓guardK_tt, ↓guardK_ff, ↓guardK_tf, ↓guardK_ft, ↓condK_t, ↓condK_f, ↓reduceIte, Nat.reduceEqDiff, reduceCtorEq, Nat.reduceAdd, Nat.reduceSub, Nat.reduceMul, Nat.reduceLT, Nat.reduceLeDiff, Int.reduceToNat, Int.reduceLE, Int.reduceLT, Int.reduceEq, Int.reduceNe, Int.reduceAdd, Int.reduceSub, Nat.reduceBEq, Option.some.injEq]
          exact hT.fin (Cl.two (.str _) (.bool _)) (by rw [huk]; rfl)
        · rw [hal] at h9 huk
          by_cases h8 : l.length < 8
          · have h8' : (l.length : Int) < 8 := by omega
            simp (implicitDefEqProofs := false) (disch := omega) only [push_cast, h4, h6, h9, h10, hil', h8', ↓guardK_tt, ↓guardK_ff, ↓guardK_tf, ↓guardK_ft, ↓condK_t, ↓condK_f, ↓reduceIte, Nat.reduceEqDiff, reduceCtorEq, Nat.reduceAdd, Nat.reduceSub, Nat.reduceMul, Nat.reduceLT, Nat.reduceLeDiff, Int.reduceToNat, Int.reduceLE, Int.reduceLT, Int.reduceEq, Int.reduceNe, Int.reduceAdd, Int.reduceSub, Nat.reduceBEq, Option.some.injEq]
            refine hT.fin (Cl.two (.str _) (.bool _)) ?_
            rw [huk]
            simp [h8]
            omega
          · have h8' : ¬ (l.length : Int) < 8 := by omega
            simp (implicitDefEqProofs := false) (disch := omega) only [push_cast, h4, h6, h9, h10, hil', h8', ↓guardK_tt, ↓guardK_ff, ↓guardK_tf, ↓guardK_ft, ↓condK_t, ↓condK_f, ↓reduceIte, Nat.reduceEqDiff, reduceCtorEq, Nat.reduceAdd, Nat.reduceSub, Nat.reduceMul, Nat.reduceLT, Nat.reduceLeDiff, Int.reduceToNat, Int.reduceLE, Int.reduceLT, Int.reduceEq, Int.reduceNe, Int.reduceAdd, Int.reduceSub, Nat.reduceBEq, Option.some.injEq]
            exact hT.fin (Cl.two (.str _) (.bool _)) (by rw [huk]; simp [h8])

theorem sWordUnpack_ok (b : List UInt8) (hb : b.length ≤ 1000000) (S : List Blk) : VCall Try.prog 102 [.str b] S fun r S' => r = unV (unpackM b) ∧ S' = S := by
  by_cases h16 : b.length ≤ 16
  · have h16' : ¬ (b.length : Int) > 16 := by omega
    refine VCall.of_ev hD (fun _ => false) (fun _ => []) (n := 17) Try.func102 rfl rfl Try.ntmps102 (by kernel_rfl) (by kernel_rfl) (congrArg Array.toList Try.results102) (by simp) ?_
    simp (implicitDefEqProofs := false) (disch := omega) only [push_cast, h16', ↓guardK_tt, ↓guardK_ff, ↓guardK_tf, ↓guardK_ft, ↓condK_t, ↓condK_f, ↓reduceIte, Nat.reduceEqDiff, reduceCtorEq, Nat.reduceAdd, Nat.reduceSub, Nat.reduceMul, Nat.reduceLT, Nat.reduceLeDiff, Int.reduceToNat, Int.reduceLE, Int.reduceLT, Int.reduceEq, Int.reduceNe, Int.reduceAdd, Int.reduceSub, Nat.reduceBEq, Option.some.injEq]
    refine (l2Unpack_ok b h16 _).to ?_
    cases hu : unOk b
    · simp (implicitDefEqProofs := false) (disch := omega) only [push_cast, ↓guardK_tt, ↓guardK_ff, ↓guardK_tf, ↓guardK_ft, ↓condK_t, ↓condK_f, ↓reduceIte, Nat.reduceEqDiff, reduceCtorEq, Nat.reduceAdd, Nat.reduceSub, Nat.reduceMul, Nat.reduceLT, Nat.reduceLeDiff, Int.reduceToNat, Int.reduceLE, Int.reduceLT, Int.reduceEq, Int.reduceNe, Int.reduceAdd, Int.reduceSub, Nat.reduceBEq, Option.some.injEq]
      exact fin0 (by rw [unpackM, if_pos h16, hu]; rfl)
    · simp (implicitDefEqProofs := false) (disch := omega) only [push_cast, ↓guardK_tt, ↓guardK_ff, ↓guardK_tf, ↓guardK_ft, ↓condK_t, ↓condK_f, ↓reduceIte, Nat.reduceEqDiff, reduceCtorEq, Nat.reduceAdd, Nat.reduceSub, Nat.reduceMul, Nat.reduceLT, Nat.reduceLeDiff, Int.reduceToNat, Int.reduceLE, Int.reduceLT, Int.reduceEq, Int.reduceNe, Int.reduceAdd, Int.reduceSub, Nat.reduceBEq, Option.some.injEq]
      exact fin0 (by rw [unpackM, if_pos h16, hu]; rfl)
  · have h16' : (b.length : Int) > 16 := by omega
    refine VCall.of_ev hD (fun _ => false) (fun _ => []) (n := 17) Try.func102 rfl rfl Try.ntmps102 (by kernel_rfl) (by kernel_rfl) (congrArg Array.toList Try.results102) (by simp) ?_
    simp (implicitDefEqProofs := false) (disch := omega) only [push_cast, h16', ↓guardK_tt, ↓guardK_ff, ↓guardK_tf, ↓guardK_ft, ↓condK_t, ↓condK_f, ↓reduceIte, Nat.reduceEqDiff, reduceCtorEq, Nat.reduceAdd, Nat.reduceSub, Nat.reduceMul, Nat.reduceLT, Nat.reduceLeDiff, Int.reduceToNat, Int.reduceLE, Int.reduceLT, Int.reduceEq, Int.reduceNe, Int.reduceAdd, Int.reduceSub, Nat.reduceBEq, Option.some.injEq]
    exact fin0 (by rw [unpackM, if_neg h16]; rfl)

theorem l2Read_ok (b : List UInt8) (hb : b.length ≤ 1000000) (S : List Blk) : VCall Try.prog 91 [.str b] S fun r S' => r = wrV (wordR b) ∧ S' = S := by
  refine VCall.of_ev hD (fun _ => false) (fun _ => []) (n := 58) Try.func91 rfl rfl Try.ntmps91 (by kernel_rfl) (by kernel_rfl) (congrArg Array.toList Try.results91) (by simp) ?_
  simp (implicitDefEqProofs := false) (disch := omega) only [push_cast, ↓guardK_tt, ↓guardK_ff, ↓guardK_tf, ↓guardK_ft, ↓condK_t, ↓condK_f, ↓reduceIte, Nat.reduceEqDiff, reduceCtorEq, Nat.reduceAdd, Nat.reduceSub, Nat.reduceMul, Nat.reduceLT, Nat.reduceLeDiff, Int.reduceToNat, Int.reduceLE, Int.reduceLT, Int.reduceEq, Int.reduceNe, Int.reduceAdd, Int.reduceSub, Nat.reduceBEq, Option.some.injEq]
  refine ((l1Read_ok b 7 (by omega) (by omega) _).as (by simp)).to ?_
  cases hn : numR b 7 with
  | none =>
    simp (implicitDefEqProofs := false) (disch := omega) only [push_cast, nrV, ↓guardK_tt, ↓guardK_ff, ↓guardK_tf, ↓guardK_ft, ↓condK_t, ↓condK_f, ↓reduceIte, Nat.reduceEqDiff, reduceCtorEq, Nat.reduceAdd, Nat.reduceSub, Nat.reduceMul, Nat.reduceLT, Nat.reduceLeDiff, Int.reduceToNat, Int.reduceLE, Int.reduceLT, Int.reduceEq, Int.reduceNe, Int.reduceAdd, Int.reduceSub, Nat.reduceBEq, Option.some.injEq]
    exact fin0 (by rw [wordR, hn]; rfl)
  | some x =>
    obtain ⟨n, s⟩ := x
    obtain ⟨h1, h2, h3, h4⟩ := numR_bound (by decide) hn
    have hw : wordR b = if n ≤ 16 ∧ s + n ≤ b.length then
      (if 128 ≤ (b.getD 0 0).toNat then (unpackM ((b.drop s).take n)).map (fun x => (x, s + n)) else if wordOk ((b.drop s).take n) = true then some ((b.drop s).take n, s + n) else none) else none := by rw [wordR, hn]
    by_cases h16 : n ≤ 16
    · have h16' : ¬ ((n : Int) > 16) := by omega
      by_cases hsn : s + n ≤ b.length
      · have hsn' : ¬ ((s : Int) + n > b.length) := by omega
        rw [if_pos ⟨h16, hsn⟩] at hw
        have hsl : List.drop s (List.take ((s : Int) + n).toNat b) = (b.drop s).take n := by rw [show ((s : Int) + n).toNat = s + n by omega, List.drop_take, Nat.add_sub_cancel_left]
        have hwl : ((b.drop s).take n).length ≤ 1000 := by simp; omega
        generalize hwd : (b.drop s).take n = w at hsl hw hwl
        generalize hc : b.getD 0 0 = c at hw
        have hcn := c.toNat_lt
        by_cases hc8 : 128 ≤ c.toNat
        · rw [if_pos hc8] at hw
          have hc8' : ((c.toNat : Int) ≥ 128) := by omega
          simp (implicitDefEqProofs := false) (disch := omega) only [push_cast, nrV, h16', hsn', hsl, hc, hc8', ↓guardK_tt, ↓guardK_ff, ↓guardK_tf, ↓guardK_ft, ↓condK_t, ↓condK_f, ↓reduceIte, Nat.reduceEqDiff, reduceCtorEq, Nat.reduceAdd, Nat.reduceSub, Nat.reduceMul, Nat.reduceLT, Nat.reduceLeDiff, Int.reduceToNat, Int.reduceLE, Int.reduceLT, Int.reduceEq, Int.reduceNe, Int.reduceAdd, Int.reduceSub, Nat.reduceBEq, Option.some.injEq]
          refine ⟨by omega, by omega, by omega, by omega, (sWordUnpack_ok w (by omega) _).to ?_⟩
          cases hu : unpackM w with
          | none =>
            simp (implicitDefEqProofs := false) (disch := omega) only [push_cast, unV, ↓guardK_tt, ↓guardK_ff, ↓guardK_tf, ↓guardK_ft, ↓condK_t, ↓condK_f, ↓reduceIte, Nat.reduceEqDiff, reduceCtorEq, Nat.reduceAdd, Nat.reduceSub, Nat.reduceMul, Nat.reduceLT, Nat.reduceLeDiff, Int.reduceToNat, Int.reduceLE, Int.reduceLT, Int.reduceEq, Int.reduceNe, Int.reduceAdd, Int.reduceSub, Nat.reduceBEq, Option.some.injEq]
            exact fin0 (by rw [hw, hu]; rfl)
          | some x =>
            simp (implicitDefEqProofs := false) (disch := omega) only [push_cast, unV, ↓guardK_tt, ↓guardK_ff, ↓guardK_tf, ↓guardK_ft, ↓condK_t, ↓condK_f, ↓reduceIte, Nat.reduceEqDiff, reduceCtorEq, Nat.reduceAdd, Nat.reduceSub, Nat.reduceMul, Nat.reduceLT, Nat.reduceLeDiff, Int.reduceToNat, Int.reduceLE, Int.reduceLT, Int.reduceEq, Int.reduceNe, Int.reduceAdd, Int.reduceSub, Nat.reduceBEq, Option.some.injEq]
            exact fin0 (by rw [hw, hu]; simp [wrV])
        · have hc8' : ¬ ((c.toNat : Int) ≥ 128) := by omega
          rw [if_neg hc8] at hw
          simp (implicitDefEqProofs := false) (disch := omega) only [push_cast, nrV, h16', hsn', hsl, hc, hc8', ↓guardK_tt, ↓guardK_ff, ↓guardK_tf, ↓guardK_ft, ↓condK_t, ↓condK_f, ↓reduceIte, Nat.reduceEqDiff, reduceCtorEq, Nat.reduceAdd, Nat.reduceSub, Nat.reduceMul, Nat.reduceLT, Nat.reduceLeDiff, Int.reduceToNat, Int.reduceLE, Int.reduceLT, Int.reduceEq, Int.reduceNe, Int.reduceAdd, Int.reduceSub, Nat.reduceBEq, Option.some.injEq]
          refine ⟨by omega, by omega, by omega, by omega, (sWordOk_ok w (by omega) _).to ?_⟩
          cases hk : wordOk w
          · simp (implicitDefEqProofs := false) (disch := omega) only [push_cast, ↓guardK_tt, ↓guardK_ff, ↓guardK_tf, ↓guardK_ft, ↓condK_t, ↓condK_f, ↓reduceIte, Nat.reduceEqDiff, reduceCtorEq, Nat.reduceAdd, Nat.reduceSub, Nat.reduceMul, Nat.reduceLT, Nat.reduceLeDiff, Int.reduceToNat, Int.reduceLE, Int.reduceLT, Int.reduceEq, Int.reduceNe, Int.reduceAdd, Int.reduceSub, Nat.reduceBEq, Option.some.injEq]
            exact fin0 (by rw [hw, hk]; rfl)
          · simp (implicitDefEqProofs := false) (disch := omega) only [push_cast, ↓guardK_tt, ↓guardK_ff, ↓guardK_tf, ↓guardK_ft, ↓condK_t, ↓condK_f, ↓reduceIte, Nat.reduceEqDiff, reduceCtorEq, Nat.reduceAdd, Nat.reduceSub, Nat.reduceMul, Nat.reduceLT, Nat.reduceLeDiff, Int.reduceToNat, Int.reduceLE, Int.reduceLT, Int.reduceEq, Int.reduceNe, Int.reduceAdd, Int.reduceSub, Nat.reduceBEq, Option.some.injEq]
            exact fin0 (by rw [hw, hk]; simp [wrV])
      · have hsn' : ((s : Int) + n > b.length) := by omega
        simp (implicitDefEqProofs := false) (disch := omega) only [push_cast, nrV, h16', hsn', ↓guardK_tt, ↓guardK_ff, ↓guardK_tf, ↓guardK_ft, ↓condK_t, ↓condK_f, ↓reduceIte, Nat.reduceEqDiff, reduceCtorEq, Nat.reduceAdd, Nat.reduceSub, Nat.reduceMul, Nat.reduceLT, Nat.reduceLeDiff, Int.reduceToNat, Int.reduceLE, Int.reduceLT, Int.reduceEq, Int.reduceNe, Int.reduceAdd, Int.reduceSub, Nat.reduceBEq, Option.some.injEq]
        exact fin0 (by rw [hw, if_neg (fun h => hsn h.2)]; rfl)
    · have h16' : ((n : Int) > 16) := by omega
      simp (implicitDefEqProofs := false) (disch := omega) only [push_cast, nrV, h16', ↓guardK_tt, ↓guardK_ff, ↓guardK_tf, ↓guardK_ft, ↓condK_t, ↓condK_f, ↓reduceIte, Nat.reduceEqDiff, reduceCtorEq, Nat.reduceAdd, Nat.reduceSub, Nat.reduceMul, Nat.reduceLT, Nat.reduceLeDiff, Int.reduceToNat, Int.reduceLE, Int.reduceLT, Int.reduceEq, Int.reduceNe, Int.reduceAdd, Int.reduceSub, Nat.reduceBEq, Option.some.injEq]
      exact fin0 (by rw [hw, if_neg (fun h => h16 h.1)]; rfl)

end Go.Proofs.Ytblbaniokmgjgaa
