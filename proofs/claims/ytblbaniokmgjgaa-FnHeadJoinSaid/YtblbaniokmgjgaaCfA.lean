/- Contracts: numbers that are read by the specification. -/
import Derived.Test.YtblbaniokmgjgaaCdA
namespace Go.Proofs.Ytblbaniokmgjgaa
open Go
set_option linter.unusedVariables false
set_option linter.unusedSimpArgs false

theorem tailR_zero : ∀ (K : Nat) (r : List UInt8) (k : Nat), tailR K r = some (0, k) → (r.getD (k - 1) 0).toNat = 0
  | 0, r, k, h => by simp [tailR] at h
  | K + 1, [], k, h => by simp [tailR] at h
  | K + 1, c :: r, k, h => by
    rw [tailR] at h
    split at h
    · simp only [Option.some.injEq, Prod.mk.injEq] at h
      obtain ⟨h1, rfl⟩ := h
      simpa using h1
    · split at h
      · rename_i v' k' h'
        simp only [Option.some.injEq, Prod.mk.injEq] at h
        obtain ⟨h1, rfl⟩ := h
        have hv : v' = 0 := by omega
        subst hv
        have hb := tailR_bound K r 0 k' h'
        have ih := tailR_zero K r k' h'
        obtain ⟨j, rfl⟩ : ∃ j, k' = j + 1 := ⟨k' - 1, by omega⟩
        simpa using ih
      · cases h

theorem tailR_canon : ∀ (K : Nat) (r : List UInt8) (v k : Nat), tailR K r = some (v, k) → (numTail v = r.take k ↔ (k = 1 ∨ (r.getD (k - 1) 0).toNat ≠ 0))
  | 0, r, v, k, h => by simp [tailR] at h
  | K + 1, [], v, k, h => by simp [tailR] at h
  | K + 1, c :: r, v, k, h => by
    have hc := c.toNat_lt
    rw [tailR] at h
    split at h
    · rename_i h128
      simp only [Option.some.injEq, Prod.mk.injEq] at h
      obtain ⟨rfl, rfl⟩ := h
      refine ⟨fun _ => .inl rfl, fun _ => ?_⟩
      rw [numTail_lt h128]
      simp [by8]
    · rename_i h128
      split at h
      · rename_i v' k' h'
        simp only [Option.some.injEq, Prod.mk.injEq] at h
        obtain ⟨rfl, rfl⟩ := h
        obtain ⟨b1, b2, b3, b4⟩ := tailR_bound K r v' k' h'
        have ih := tailR_canon K r v' k' h'
        obtain ⟨j, rfl⟩ : ∃ j, k' = j + 1 := ⟨k' - 1, by omega⟩
        have hgd : (c :: r).getD (j + 1 + 1 - 1) 0 = r.getD (j + 1 - 1) 0 := rfl
        rw [hgd]
        by_cases hv : v' = 0
        · subst hv
          have hz := tailR_zero K r _ h'
          refine ⟨fun e => ?_, fun e => ?_⟩
          · exfalso
            have := congrArg List.length e
            rw [numTail_lt (by omega), List.length_singleton, List.length_take, List.length_cons] at this
            omega
          · rcases e with e | e
            · omega
            · exact absurd hz e
        · have e1 : numTail (c.toNat % 128 + 128 * v') = c :: numTail v' := by
            rw [numTail_ge (by omega), show (c.toNat % 128 + 128 * v') % 128 + 128 = c.toNat by omega, show (c.toNat % 128 + 128 * v') / 128 = v' by omega]
            simp [by8]
          rw [e1, List.take_succ_cons]
          refine ⟨fun e => .inr ?_, fun e => ?_⟩
          · have e2 := ih.1 (List.cons.inj e).2
            rcases e2 with e2 | e2
            · have : j = 0 := by omega
              subst this
              obtain ⟨K', rfl⟩ : ∃ m, K = m + 1 := ⟨K - 1, by omega⟩
              cases r with
              | nil => simp [tailR] at h'
              | cons d r =>
                rw [tailR] at h'
                split at h'
                · simp only [Option.some.injEq, Prod.mk.injEq] at h'
                  simpa using (by omega : d.toNat ≠ 0)
                · split at h'
                  · rename_i v2 k2 h2
                    have := tailR_bound K' r v2 k2 h2
                    simp only [Option.some.injEq, Prod.mk.injEq] at h'
                    omega
                  · cases h'
            · exact e2
          · rcases e with e | e
            · omega
            · rw [ih.2 (.inr e)]
      · cases h

set_option maxHeartbeats 8000000 in
theorem l1Read_ok (b : List UInt8) (bits : Nat) (hb : 3 ≤ bits ∧ bits ≤ 7) (hl : b.length ≤ 1000000000) (S : List Blk) :
    VCall Try.prog 73 [.str b, .int .i64 bits] S fun r S' => r = nrV (numR b bits) ∧ S' = S := by
  cases b with
  | nil =>
    refine VCall.of_ev hD (fun _ => false) (fun _ => []) (n := 66) Try.func73 rfl rfl Try.ntmps73 (by kernel_rfl) (by kernel_rfl) (congrArg Array.toList Try.results73) (by simp) ?_
    simp (implicitDefEqProofs := false) (disch := omega) only [push_cast, ↓guardK_tt, ↓guardK_ff, ↓guardK_tf, ↓guardK_ft, ↓condK_t, ↓condK_f, ↓reduceIte, Nat.reduceEqDiff, reduceCtorEq, Nat.reduceAdd, Nat.reduceSub, Nat.reduceMul, Nat.reduceLT, Nat.reduceLeDiff, Int.reduceToNat, Int.reduceLE, Int.reduceLT, Int.reduceEq, Int.reduceNe, Int.reduceAdd, Int.reduceSub, Nat.reduceBEq, Option.some.injEq]
    exact fin0 rfl
  | cons c r =>
    obtain ⟨p, hp⟩ : ∃ p, p = 2 ^ bits := ⟨_, rfl⟩
    have hp2 : p ≤ 2 ^ 7 := by rw [hp]; exact Nat.pow_le_pow_right (by omega) (by omega)
    have hp1 : 2 ≤ p := by rw [hp, show bits = (bits - 1) + 1 by omega, Nat.pow_succ]; have := Nat.one_le_two_pow (n := bits - 1); omega
    have hc := c.toNat_lt
    have hw : IntKind.i64.wrap (c.toNat : Int) = c.toNat := i64_fit _ (by omega)
    obtain ⟨m, hm⟩ : ∃ m, m = c.toNat % p := ⟨_, rfl⟩
    have hmp : m < p := by rw [hm]; exact Nat.mod_lt _ (by omega)
    have htm : Int.tmod (c.toNat : Int) ((p : Int) - 1 + 1) = m := by rw [show (p : Int) - 1 + 1 = p by omega, hm]; exact tmod_nat _ _
    have hp0 : ¬ ((p : Int) - 1 + 1 = 0) := by omega
    have h0 : (c :: r).getD 0 0 = c := rfl
    have hne : (c :: r = []) = False := by simp
    have hl' : r.length ≤ 1000000000 := by simp at hl; omega
    refine VCall.of_ev hD (fun _ => false) (fun _ => []) (n := 66) Try.func73 rfl rfl Try.ntmps73 (by kernel_rfl) (by kernel_rfl) (congrArg Array.toList Try.results73) (by simp) ?_
    simp (implicitDefEqProofs := false) (disch := omega) only [push_cast, hne, h0, ↓guardK_tt, ↓guardK_ff, ↓guardK_tf, ↓guardK_ft, ↓condK_t, ↓condK_f, ↓reduceIte, Nat.reduceEqDiff, reduceCtorEq, Nat.reduceAdd, Nat.reduceSub, Nat.reduceMul, Nat.reduceLT, Nat.reduceLeDiff, Int.reduceToNat, Int.reduceLE, Int.reduceLT, Int.reduceEq, Int.reduceNe, Int.reduceAdd, Int.reduceSub, Nat.reduceBEq, Option.some.injEq]
    refine ((l1Top_ok bits (by omega) _).as (by simp)).to ?_
    rw [← hp]
    simp (implicitDefEqProofs := false) (disch := omega) only [push_cast, hne, h0, hw, htm, hp0, ↓guardK_tt, ↓guardK_ff, ↓guardK_tf, ↓guardK_ft, ↓condK_t, ↓condK_f, ↓reduceIte, Nat.reduceEqDiff, reduceCtorEq, Nat.reduceAdd, Nat.reduceSub, Nat.reduceMul, Nat.reduceLT, Nat.reduceLeDiff, Int.reduceToNat, Int.reduceLE, Int.reduceLT, Int.reduceEq, Int.reduceNe, Int.reduceAdd, Int.reduceSub, Nat.reduceBEq, Option.some.injEq]
    refine ⟨by omega, fun hmt => fin0 ?_, fun hmt => ?_⟩
    · rw [numR, ← hp, ← hm, if_pos (by omega)]
      rfl
    have hnr : ∀ v k : Nat, tailR 3 r = some (v, k) → numR (c :: r) bits = if p - 1 + v ≤ 9999 ∧ numTail v = r.take k then some (p - 1 + v, k + 1) else none := by
      intro v k ht
      rw [numR, ← hp, ← hm, if_neg (by omega), ht]
    have hnn : tailR 3 r = none → numR (c :: r) bits = none := by
      intro ht
      rw [numR, ← hp, ← hm, if_neg (by omega), ht]
    refine wpV_loop (fun x t S' => ∃ k z w q acc : Nat, x = 3 - k ∧ k ≤ 3 ∧ k ≤ r.length ∧ z = 1 + k ∧ q = 128 ^ k ∧ w = p - 1 + acc ∧ acc < q ∧ tailR 3 r = (tailR (3 - k) (r.drop k)).map (fun y => (acc + q * y.1, k + y.2)) ∧ t 0 = .str (c :: r) ∧ t 8 = .int .i64 w ∧ t 9 = .int .i64 q ∧ t 10 = .int .i64 z ∧ S' = S) 3
      ⟨0, 1, p - 1, 1, 0, rfl, by omega, by omega, rfl, rfl, rfl, by omega, by simp, rfl, ?_, rfl, rfl, rfl⟩ ?_
    · simp only [putT]
      simp
      omega
    rintro x t S' ⟨k, z, w, q, acc, rfl, hk3, hkr, hz, hq, hw', hacc, htr, h0', h8, h9, h10, rfl⟩
    have hq3 : q ≤ 2097152 := by rw [hq]; exact Nat.pow_le_pow_right (by decide) hk3
    refine wpV_of hD (fun _ => false) (fun _ => []) (by kernel_rfl) ?_
    by_cases hlast : k = r.length
    · have htn : tailR 3 r = none := by
        rw [htr, hlast, List.drop_length]
        cases hx : 3 - r.length <;> rfl
      have hz' : ¬ (z : Int) < (r.length : Int) + 1 := by omega
      simp (implicitDefEqProofs := false) (disch := omega) only [push_cast, h0', h8, h9, h10, hz', ↓guardK_tt, ↓guardK_ff, ↓guardK_tf, ↓guardK_ft, ↓condK_t, ↓condK_f, ↓reduceIte, Nat.reduceEqDiff, reduceCtorEq, Nat.reduceAdd, Nat.reduceSub, Nat.reduceMul, Nat.reduceLT, Nat.reduceLeDiff, Int.reduceToNat, Int.reduceLE, Int.reduceLT, Int.reduceEq, Int.reduceNe, Int.reduceAdd, Int.reduceSub, Nat.reduceBEq, Option.some.injEq]
      exact fin0 (by rw [hnn htn]; rfl)
    have hz' : (z : Int) < (r.length : Int) + 1 := by omega
    by_cases h3 : k = 3
    · have htn : tailR 3 r = none := by rw [htr, h3]; rfl
      have hs' : ¬ (z : Int) ≤ 3 := by omega
      simp (implicitDefEqProofs := false) (disch := omega) only [push_cast, h0', h8, h9, h10, hz', hs', ↓guardK_tt, ↓guardK_ff, ↓guardK_tf, ↓guardK_ft, ↓condK_t, ↓condK_f, ↓reduceIte, Nat.reduceEqDiff, reduceCtorEq, Nat.reduceAdd, Nat.reduceSub, Nat.reduceMul, Nat.reduceLT, Nat.reduceLeDiff, Int.reduceToNat, Int.reduceLE, Int.reduceLT, Int.reduceEq, Int.reduceNe, Int.reduceAdd, Int.reduceSub, Nat.reduceBEq, Option.some.injEq]
      exact fin0 (by rw [hnn htn]; rfl)
    have hs' : (z : Int) ≤ 3 := by omega
    obtain ⟨d, hd⟩ : ∃ d, d = r.getD k 0 := ⟨_, rfl⟩
    have hzd : (c :: r).getD z 0 = d := by rw [hz, Nat.add_comm, hd]; rfl
    have hz0 : (0 : Int) ≤ z := by omega
    have hdl := d.toNat_lt
    have hdw : IntKind.i64.wrap (d.toNat : Int) = d.toNat := i64_fit _ (by omega)
    obtain ⟨u, hu⟩ : ∃ u, u = d.toNat % 128 := ⟨_, rfl⟩
    have hda : Int.tmod (d.toNat : Int) 128 = u := by rw [hu]; exact tmod_nat _ 128
    have hq2 : q ≤ 16384 := by rw [hq]; exact Nat.pow_le_pow_right (by decide) (by omega : k ≤ 2)
    obtain ⟨g, hg⟩ : ∃ g, g = u * q := ⟨_, rfl⟩
    have hug : (q : Int) * (u : Int) = g := by rw [hg, Nat.mul_comm]; simp
    have hgb : g ≤ 127 * 16384 := by rw [hg]; exact Nat.mul_le_mul (by omega) hq2
    have hrd : r.drop k = d :: r.drop (k + 1) := by
      rw [List.drop_eq_getElem_cons (by omega), hd, List.getD, List.getElem?_eq_getElem (by omega)]; rfl
    have htd : tailR (3 - k) (r.drop k) = if d.toNat < 128 then some (d.toNat, 1) else (tailR (3 - (k + 1)) (r.drop (k + 1))).map (fun y => (u + 128 * y.1, y.2 + 1)) := by
      rw [hrd, show 3 - k = (3 - (k + 1)) + 1 by omega, tailR]
      split
      · rfl
      · rw [hu]
        cases tailR (3 - (k + 1)) (r.drop (k + 1)) <;> rfl
    by_cases hd128 : d.toNat < 128
    · have hd128' : (d.toNat : Int) < 128 := by omega
      have hud : u = d.toNat := by omega
      obtain ⟨v, hv⟩ : ∃ v, v = acc + g := ⟨_, rfl⟩
      have ht3 : tailR 3 r = some (v, k + 1) := by
        rw [htr, htd, if_pos (by omega), Option.map_some, hv, hg, hud, Nat.mul_comm q]
      have hnr2 := hnr v (k + 1) ht3
      have hcan := tailR_canon 3 r v (k + 1) ht3
      rw [Nat.add_sub_cancel, ← hd] at hcan
      by_cases hbad : d.toNat = 0 ∧ z > 1
      · have hb1 : (d.toNat : Int) = 0 := by omega
        have hb2 : (z : Int) > 1 := by omega
        have : ¬ numTail v = r.take (k + 1) := fun e => by rcases hcan.1 e with h | h <;> omega
        rw [if_neg (fun h => this h.2)] at hnr2
        simp (implicitDefEqProofs := false) (disch := omega) only [push_cast, h0', h8, h9, h10, hz', hs', hz0, hzd, hdw, hda, hug, hd128', hb1, hb2, ↓guardK_tt, ↓guardK_ff, ↓guardK_tf, ↓guardK_ft, ↓condK_t, ↓condK_f, ↓reduceIte, Nat.reduceEqDiff, reduceCtorEq, Nat.reduceAdd, Nat.reduceSub, Nat.reduceMul, Nat.reduceLT, Nat.reduceLeDiff, Int.reduceToNat, Int.reduceLE, Int.reduceLT, Int.reduceEq, Int.reduceNe, Int.reduceAdd, Int.reduceSub, Nat.reduceBEq, Option.some.injEq]
        exact fin0 (by rw [hnr2]; rfl)
      · have hcan2 : numTail v = r.take (k + 1) := hcan.2 (by omega)
        by_cases g9 : p - 1 + v ≤ 9999
        · rw [if_pos ⟨g9, hcan2⟩] at hnr2
          have h9999 : ¬ ((w : Int) + g > 9999) := by omega
          by_cases hdz : d.toNat = 0
          · have hb1 : ((d.toNat : Int) = 0) = True := eq_true (by omega)
            have hb2 : ¬ (z : Int) > 1 := by omega
            simp (implicitDefEqProofs := false) (disch := omega) only [push_cast, h0', h8, h9, h10, hz', hs', hz0, hzd, hdw, hda, hug, hd128', hb1, hb2, h9999, ↓guardK_tt, ↓guardK_ff, ↓guardK_tf, ↓guardK_ft, ↓condK_t, ↓condK_f, ↓reduceIte, Nat.reduceEqDiff, reduceCtorEq, Nat.reduceAdd, Nat.reduceSub, Nat.reduceMul, Nat.reduceLT, Nat.reduceLeDiff, Int.reduceToNat, Int.reduceLE, Int.reduceLT, Int.reduceEq, Int.reduceNe, Int.reduceAdd, Int.reduceSub, Nat.reduceBEq, Option.some.injEq]
            refine fin0 ?_
            rw [hnr2, nrV]
            congr 3
            · omega
            · congr 2; omega
          · have hb1 : ¬ (d.toNat : Int) = 0 := by omega
            simp (implicitDefEqProofs := false) (disch := omega) only [push_cast, h0', h8, h9, h10, hz', hs', hz0, hzd, hdw, hda, hug, hd128', hb1, h9999, ↓guardK_tt, ↓guardK_ff, ↓guardK_tf, ↓guardK_ft, ↓condK_t, ↓condK_f, ↓reduceIte, Nat.reduceEqDiff, reduceCtorEq, Nat.reduceAdd, Nat.reduceSub, Nat.reduceMul, Nat.reduceLT, Nat.reduceLeDiff, Int.reduceToNat, Int.reduceLE, Int.reduceLT, Int.reduceEq, Int.reduceNe, Int.reduceAdd, Int.reduceSub, Nat.reduceBEq, Option.some.injEq]
            refine fin0 ?_
            rw [hnr2, nrV]
            congr 3
            · omega
            · congr 2; omega
        · rw [if_neg (fun h => g9 h.1)] at hnr2
          have h9999 : ((w : Int) + g > 9999) := by omega
          by_cases hdz : d.toNat = 0
          · have hb1 : ((d.toNat : Int) = 0) = True := eq_true (by omega)
            have hb2 : ¬ (z : Int) > 1 := by omega
            simp (implicitDefEqProofs := false) (disch := omega) only [push_cast, h0', h8, h9, h10, hz', hs', hz0, hzd, hdw, hda, hug, hd128', hb1, hb2, h9999, ↓guardK_tt, ↓guardK_ff, ↓guardK_tf, ↓guardK_ft, ↓condK_t, ↓condK_f, ↓reduceIte, Nat.reduceEqDiff, reduceCtorEq, Nat.reduceAdd, Nat.reduceSub, Nat.reduceMul, Nat.reduceLT, Nat.reduceLeDiff, Int.reduceToNat, Int.reduceLE, Int.reduceLT, Int.reduceEq, Int.reduceNe, Int.reduceAdd, Int.reduceSub, Nat.reduceBEq, Option.some.injEq]
            exact fin0 (by rw [hnr2]; rfl)
          · have hb1 : ¬ (d.toNat : Int) = 0 := by omega
            simp (implicitDefEqProofs := false) (disch := omega) only [push_cast, h0', h8, h9, h10, hz', hs', hz0, hzd, hdw, hda, hug, hd128', hb1, h9999, ↓guardK_tt, ↓guardK_ff, ↓guardK_tf, ↓guardK_ft, ↓condK_t, ↓condK_f, ↓reduceIte, Nat.reduceEqDiff, reduceCtorEq, Nat.reduceAdd, Nat.reduceSub, Nat.reduceMul, Nat.reduceLT, Nat.reduceLeDiff, Int.reduceToNat, Int.reduceLE, Int.reduceLT, Int.reduceEq, Int.reduceNe, Int.reduceAdd, Int.reduceSub, Nat.reduceBEq, Option.some.injEq]
            exact fin0 (by rw [hnr2]; rfl)
    · have hd128' : ¬ (d.toNat : Int) < 128 := by omega
      simp (implicitDefEqProofs := false) (disch := omega) only [push_cast, h0', h8, h9, h10, hz', hs', hz0, hzd, hdw, hda, hug, hd128', ↓guardK_tt, ↓guardK_ff, ↓guardK_tf, ↓guardK_ft, ↓condK_t, ↓condK_f, ↓reduceIte, Nat.reduceEqDiff, reduceCtorEq, Nat.reduceAdd, Nat.reduceSub, Nat.reduceMul, Nat.reduceLT, Nat.reduceLeDiff, Int.reduceToNat, Int.reduceLE, Int.reduceLT, Int.reduceEq, Int.reduceNe, Int.reduceAdd, Int.reduceSub, Nat.reduceBEq, Option.some.injEq]
      have hgq : g ≤ 127 * q := by rw [hg]; exact Nat.mul_le_mul_right _ (by omega)
      refine ⟨3 - (k + 1), by omega, k + 1, z + 1, w + g, q * 128, acc + g, rfl, by omega, by omega, by omega, by rw [hq, Nat.pow_succ], by omega, by omega, ?_, by simp, by simp; omega, by simp⟩
      rw [htr, htd, if_neg (by omega), Option.map_map]
      congr 1
      funext y
      simp only [Function.comp_apply, Prod.mk.injEq]
      refine ⟨?_, by omega⟩
      rw [Nat.mul_add, hg, Nat.mul_comm u q, Nat.mul_assoc]
      omega

end Go.Proofs.Ytblbaniokmgjgaa
