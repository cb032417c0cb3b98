/- Contracts: heads that are read by the specification. -/
import Derived.Test.YtblbaniokmgjgaaCfB
import Derived.Test.YtblbaniokmgjgaaCdC
namespace Go.Proofs.Ytblbaniokmgjgaa
open Go
set_option linter.unusedVariables false
set_option linter.unusedSimpArgs false

theorem finOne {S X : List Blk} {v : V} {q : V → Prop} (hc : Cl S.length (eraseT v)) (h : q (eraseT v)) : ∃ r S2, Wk S v (S ++ X) r S2 ∧ q r ∧ S2 = S := ⟨_, S, (Wk.eraseT _ _ _).trans (Wk.pure hc), h, rfl⟩

theorem l3At_ok (l : List Fd) (max : Int) (place : Nat) (hl : l.length ≤ 1000000) (hp : place ≤ 1000000) (S : List Blk) : VCall Try.prog 74 [tV l max, .int .i64 place] S fun r S' => r = arV (atR l place) ∧ S' = S := by
  refine VCall.of_ev hD (fun _ => false) (fun _ => []) (n := 20) Try.func74 rfl rfl Try.ntmps74 (by kernel_rfl) (by kernel_rfl) (congrArg Array.toList Try.results74) (by simp) ?_
  simp (implicitDefEqProofs := false) (disch := omega) only [push_cast, ↓guardK_tt, ↓guardK_ff, ↓guardK_tf, ↓guardK_ft, ↓condK_t, ↓condK_f, ↓reduceIte, Nat.reduceEqDiff, reduceCtorEq, Nat.reduceAdd, Nat.reduceSub, Nat.reduceMul, Nat.reduceLT, Nat.reduceLeDiff, Int.reduceToNat, Int.reduceLE, Int.reduceLT, Int.reduceEq, Int.reduceNe, Int.reduceAdd, Int.reduceSub, Nat.reduceBEq, Option.some.injEq]
  refine (l3All_ok l max (by omega) _).to ?_
  have hal := all_len l
  generalize hw : fixedFds ++ l = w at hal
  simp (implicitDefEqProofs := false) (disch := omega) only [push_cast, ↓guardK_tt, ↓guardK_ff, ↓guardK_tf, ↓guardK_ft, ↓condK_t, ↓condK_f, ↓reduceIte, Nat.reduceEqDiff, reduceCtorEq, Nat.reduceAdd, Nat.reduceSub, Nat.reduceMul, Nat.reduceLT, Nat.reduceLeDiff, Int.reduceToNat, Int.reduceLE, Int.reduceLT, Int.reduceEq, Int.reduceNe, Int.reduceAdd, Int.reduceSub, Nat.reduceBEq, Option.some.injEq]
  refine (l6In_ok place 1 w.length _).to ?_
  by_cases h : 1 ≤ place ∧ place ≤ l.length + 6
  · have hgd := getD_fV (l := w) (i := place - 1) (by omega)
    have hat : atR l place = some (w.getD (place - 1) fd0) := by rw [atR, if_pos h, hw]
    generalize w.getD (place - 1) fd0 = f at hgd hat
    have hpl : ((place : Int) - 1).toNat = place - 1 := by omega
    have hin : (decide ((1 : Int) ≤ (place : Int)) && decide ((place : Int) ≤ (w.length : Int))) = true := by simp; omega
    rw [hin]
    simp (implicitDefEqProofs := false) (disch := omega) only [push_cast, hpl, hgd, ↓guardK_tt, ↓guardK_ff, ↓guardK_tf, ↓guardK_ft, ↓condK_t, ↓condK_f, ↓reduceIte, Nat.reduceEqDiff, reduceCtorEq, Nat.reduceAdd, Nat.reduceSub, Nat.reduceMul, Nat.reduceLT, Nat.reduceLeDiff, Int.reduceToNat, Int.reduceLE, Int.reduceLT, Int.reduceEq, Int.reduceNe, Int.reduceAdd, Int.reduceSub, Nat.reduceBEq, Option.some.injEq]
    exact ⟨by omega, by omega, fin1 (Cl.two (cl_fV _ f) (.bool _)) (by rw [hat]; rfl)⟩
  · have hin : (decide ((1 : Int) ≤ (place : Int)) && decide ((place : Int) ≤ (w.length : Int))) = false := by simp; omega
    rw [hin]
    simp (implicitDefEqProofs := false) (disch := omega) only [push_cast, ↓guardK_tt, ↓guardK_ff, ↓guardK_tf, ↓guardK_ft, ↓condK_t, ↓condK_f, ↓reduceIte, Nat.reduceEqDiff, reduceCtorEq, Nat.reduceAdd, Nat.reduceSub, Nat.reduceMul, Nat.reduceLT, Nat.reduceLeDiff, Int.reduceToNat, Int.reduceLE, Int.reduceLT, Int.reduceEq, Int.reduceNe, Int.reduceAdd, Int.reduceSub, Nat.reduceBEq, Option.some.injEq]
    refine fin1 (Cl.two (cl_fV _ fd0) (.bool _)) ?_
    rw [atR, if_neg h]
    rfl

def LitRes (o : Option (Fd × Nat × Nat)) (r : V) : Prop := match o with
  | some (f, s, _) => r = .tup [fV ⟨f.name, f.val, false⟩, .int .i64 s, .bool true]
  | none => ∃ (g : Fd) (s : Int), r = .tup [fV g, .int .i64 s, .bool false]

set_option maxHeartbeats 8000000 in
theorem l11Lit_ok (l : List Fd) (max : Int) (b : List UInt8) (bits : Nat) (hbits : 3 ≤ bits ∧ bits ≤ 7) (hl : l.length ≤ 1000000) (hb : b.length ≤ 1000000) (hall : ∀ f ∈ fixedFds ++ l, fieldOk f = true) (S : List Blk) :
    VCall Try.prog 75 [tV l max, .str b, .int .i64 bits] S fun r S' => LitRes (litR l b bits) r ∧ S' = S := by
  have hz : ∀ (X : List Blk), ∃ r S2, Wk S (.tup [.agg [.str [], .str [], .bool false], .int .i64 0, .bool false]) (S ++ X) r S2 ∧ LitRes none r ∧ S2 = S :=
    fun X => ⟨_, _, Wk.pure (Cl.three (cl_fV _ fd0) (.int _ _) (.bool _)), ⟨fd0, 0, rfl⟩, rfl⟩
  have hfin : ∀ (X : List Blk) (nm v : List UInt8) (s : Nat) (si : Int), si = s → litR l b bits = some (⟨nm, v, bits == 4⟩, s, bits) → ∃ r S2, Wk S (.tup [.agg [.str nm, .str v, .bool false], .int .i64 si, .bool true]) (S ++ X) r S2 ∧ LitRes (litR l b bits) r ∧ S2 = S :=
    fun X nm v s si e h => ⟨_, _, Wk.pure (Cl.three (cl_fV _ ⟨nm, v, false⟩) (.int _ _) (.bool _)), by rw [h, e]; rfl, rfl⟩
  have hbad : ∀ (X : List Blk) (nm v : List UInt8) (s : Int), litR l b bits = none → ∃ r S2, Wk S (.tup [.agg [.str nm, .str v, .bool false], .int .i64 s, .bool false]) (S ++ X) r S2 ∧ LitRes (litR l b bits) r ∧ S2 = S :=
    fun X nm v s h => ⟨_, _, Wk.pure (Cl.three (cl_fV _ ⟨nm, v, false⟩) (.int _ _) (.bool _)), by rw [h]; exact ⟨⟨nm, v, false⟩, s, rfl⟩, rfl⟩
  refine VCall.of_ev hD (fun _ => false) (fun _ => []) (n := 81) Try.func75 rfl rfl Try.ntmps75 (by kernel_rfl) (by kernel_rfl) (congrArg Array.toList Try.results75) (by simp) ?_
  simp (implicitDefEqProofs := false) (disch := omega) only [push_cast, ↓guardK_tt, ↓guardK_ff, ↓guardK_tf, ↓guardK_ft, ↓condK_t, ↓condK_f, ↓reduceIte, Nat.reduceEqDiff, reduceCtorEq, Nat.reduceAdd, Nat.reduceSub, Nat.reduceMul, Nat.reduceLT, Nat.reduceLeDiff, Int.reduceToNat, Int.reduceLE, Int.reduceLT, Int.reduceEq, Int.reduceNe, Int.reduceAdd, Int.reduceSub, Nat.reduceBEq, Option.some.injEq]
  refine (l1Read_ok b bits hbits (by omega) _).to ?_
  cases hn : numR b bits with
  | none =>
    have hlit : litR l b bits = none := by rw [litR, hn]
    simp (implicitDefEqProofs := false) (disch := omega) only [push_cast, nrV, ↓guardK_tt, ↓guardK_ff, ↓guardK_tf, ↓guardK_ft, ↓condK_t, ↓condK_f, ↓reduceIte, Nat.reduceEqDiff, reduceCtorEq, Nat.reduceAdd, Nat.reduceSub, Nat.reduceMul, Nat.reduceLT, Nat.reduceLeDiff, Int.reduceToNat, Int.reduceLE, Int.reduceLT, Int.reduceEq, Int.reduceNe, Int.reduceAdd, Int.reduceSub, Nat.reduceBEq, Option.some.injEq]
    rw [hlit]
    exact hz _
  | some x =>
    obtain ⟨q, s⟩ := x
    obtain ⟨g1, g2, g3, g4⟩ := numR_bound hbits.2 hn
    have hlit : litR l b bits = match nameR l b q s with
        | none => none
        | some (nm, s2) => match wordR (b.drop s2) with
          | none => none
          | some (v, n) => if fieldOk ⟨nm, v, bits == 4⟩ = true then some (⟨nm, v, bits == 4⟩, s2 + n, bits) else none := by rw [litR, hn]; rfl
    have hds : (b.take b.length).drop s = b.drop s := by rw [List.take_length]
    by_cases hq : q = 0
    · have hq' : (q : Int) = 0 := by omega
      have hnm : nameR l b q s = (wordR (b.drop s)).map (fun x => (x.1, s + x.2)) := by rw [nameR, if_pos hq]
      rw [hnm] at hlit
      simp (implicitDefEqProofs := false) (disch := omega) only [push_cast, nrV, hq', hds, ↓guardK_tt, ↓guardK_ff, ↓guardK_tf, ↓guardK_ft, ↓condK_t, ↓condK_f, ↓reduceIte, Nat.reduceEqDiff, reduceCtorEq, Nat.reduceAdd, Nat.reduceSub, Nat.reduceMul, Nat.reduceLT, Nat.reduceLeDiff, Int.reduceToNat, Int.reduceLE, Int.reduceLT, Int.reduceEq, Int.reduceNe, Int.reduceAdd, Int.reduceSub, Nat.reduceBEq, Option.some.injEq]
      refine ⟨by omega, by omega, by omega, (l2Read_ok (b.drop s) (by simp; omega) _).to ?_⟩
      cases hw : wordR (b.drop s) with
      | none =>
        rw [hw] at hlit
        simp (implicitDefEqProofs := false) (disch := omega) only [push_cast, wrV, ↓guardK_tt, ↓guardK_ff, ↓guardK_tf, ↓guardK_ft, ↓condK_t, ↓condK_f, ↓reduceIte, Nat.reduceEqDiff, reduceCtorEq, Nat.reduceAdd, Nat.reduceSub, Nat.reduceMul, Nat.reduceLT, Nat.reduceLeDiff, Int.reduceToNat, Int.reduceLE, Int.reduceLT, Int.reduceEq, Int.reduceNe, Int.reduceAdd, Int.reduceSub, Nat.reduceBEq, Option.some.injEq]
        rw [hlit]
        exact hz _
      | some y =>
        obtain ⟨nm, n⟩ := y
        obtain ⟨w1, w2, w3⟩ := wordR_bound hw
        simp only [List.length_drop] at w3
        have hds2 : (b.take b.length).drop ((s : Int) + n).toNat = b.drop (s + n) := by rw [List.take_length, show ((s : Int) + n).toNat = s + n by omega]
        rw [hw] at hlit
        simp only [Option.map_some] at hlit
        have hnl := (wordOk_signs w1).2
        by_cases hnm0 : nm = []
        · have hno : litR l b bits = none := by
            rw [hlit]
            cases wordR (b.drop (s + n)) with
            | none => rfl
            | some z =>
              obtain ⟨v, n2⟩ := z
              simp only
              rw [if_neg (by rw [hnm0]; simp [fieldOk])]
          simp (implicitDefEqProofs := false) (disch := omega) only [push_cast, wrV, hnm0, ↓guardK_tt, ↓guardK_ff, ↓guardK_tf, ↓guardK_ft, ↓condK_t, ↓condK_f, ↓reduceIte, Nat.reduceEqDiff, reduceCtorEq, Nat.reduceAdd, Nat.reduceSub, Nat.reduceMul, Nat.reduceLT, Nat.reduceLeDiff, Int.reduceToNat, Int.reduceLE, Int.reduceLT, Int.reduceEq, Int.reduceNe, Int.reduceAdd, Int.reduceSub, Nat.reduceBEq, Option.some.injEq]
          rw [hno]
          exact hz _
        · have hnm0' : (nm = []) = False := by simp [hnm0]
          simp (implicitDefEqProofs := false) (disch := omega) only [push_cast, wrV, hnm0', hds2, ↓guardK_tt, ↓guardK_ff, ↓guardK_tf, ↓guardK_ft, ↓condK_t, ↓condK_f, ↓reduceIte, Nat.reduceEqDiff, reduceCtorEq, Nat.reduceAdd, Nat.reduceSub, Nat.reduceMul, Nat.reduceLT, Nat.reduceLeDiff, Int.reduceToNat, Int.reduceLE, Int.reduceLT, Int.reduceEq, Int.reduceNe, Int.reduceAdd, Int.reduceSub, Nat.reduceBEq, Option.some.injEq]
          refine ⟨by omega, by omega, by omega, (l2Read_ok (b.drop (s + n)) (by simp; omega) _).to ?_⟩
          cases hv : wordR (b.drop (s + n)) with
          | none =>
            rw [hv] at hlit
            simp (implicitDefEqProofs := false) (disch := omega) only [push_cast, wrV, ↓guardK_tt, ↓guardK_ff, ↓guardK_tf, ↓guardK_ft, ↓condK_t, ↓condK_f, ↓reduceIte, Nat.reduceEqDiff, reduceCtorEq, Nat.reduceAdd, Nat.reduceSub, Nat.reduceMul, Nat.reduceLT, Nat.reduceLeDiff, Int.reduceToNat, Int.reduceLE, Int.reduceLT, Int.reduceEq, Int.reduceNe, Int.reduceAdd, Int.reduceSub, Nat.reduceBEq, Option.some.injEq]
            exact hbad _ _ _ _ hlit
          | some z =>
            obtain ⟨v, n2⟩ := z
            obtain ⟨v1, v2, v3⟩ := wordR_bound hv
            simp only [List.length_drop] at v3
            have hk : fieldOk ⟨nm, v, bits == 4⟩ = true := by simp [fieldOk, w1, v1, hnm0]
            rw [hv] at hlit
            simp only [if_pos hk] at hlit
            simp (implicitDefEqProofs := false) (disch := omega) only [push_cast, wrV, ↓guardK_tt, ↓guardK_ff, ↓guardK_tf, ↓guardK_ft, ↓condK_t, ↓condK_f, ↓reduceIte, Nat.reduceEqDiff, reduceCtorEq, Nat.reduceAdd, Nat.reduceSub, Nat.reduceMul, Nat.reduceLT, Nat.reduceLeDiff, Int.reduceToNat, Int.reduceLE, Int.reduceLT, Int.reduceEq, Int.reduceNe, Int.reduceAdd, Int.reduceSub, Nat.reduceBEq, Option.some.injEq]
            exact hfin _ nm v _ _ (by simp) hlit
    · have hq' : ¬ (q : Int) = 0 := by omega
      have hnm : nameR l b q s = (atR l q).map (fun f => (f.name, s)) := by rw [nameR, if_neg hq]
      rw [hnm] at hlit
      simp (implicitDefEqProofs := false) (disch := omega) only [push_cast, nrV, hq', ↓guardK_tt, ↓guardK_ff, ↓guardK_tf, ↓guardK_ft, ↓condK_t, ↓condK_f, ↓reduceIte, Nat.reduceEqDiff, reduceCtorEq, Nat.reduceAdd, Nat.reduceSub, Nat.reduceMul, Nat.reduceLT, Nat.reduceLeDiff, Int.reduceToNat, Int.reduceLE, Int.reduceLT, Int.reduceEq, Int.reduceNe, Int.reduceAdd, Int.reduceSub, Nat.reduceBEq, Option.some.injEq]
      refine ((l3At_ok l max q hl (by omega) _).as rfl).to ?_
      cases hat : atR l q with
      | none =>
        rw [hat] at hlit
        simp (implicitDefEqProofs := false) (disch := omega) only [push_cast, arV, fd0, ↓guardK_tt, ↓guardK_ff, ↓guardK_tf, ↓guardK_ft, ↓condK_t, ↓condK_f, ↓reduceIte, Nat.reduceEqDiff, reduceCtorEq, Nat.reduceAdd, Nat.reduceSub, Nat.reduceMul, Nat.reduceLT, Nat.reduceLeDiff, Int.reduceToNat, Int.reduceLE, Int.reduceLT, Int.reduceEq, Int.reduceNe, Int.reduceAdd, Int.reduceSub, Nat.reduceBEq, Option.some.injEq]
        rw [hlit]
        exact hz _
      | some g =>
        rw [hat] at hlit
        simp only [Option.map_some] at hlit
        have hgm := hall g (atR_mem hat)
        obtain ⟨gn1, gn2, gn3, gn4, gn5⟩ := fieldOk_parts hgm
        simp (implicitDefEqProofs := false) (disch := omega) only [push_cast, arV, hds, ↓guardK_tt, ↓guardK_ff, ↓guardK_tf, ↓guardK_ft, ↓condK_t, ↓condK_f, ↓reduceIte, Nat.reduceEqDiff, reduceCtorEq, Nat.reduceAdd, Nat.reduceSub, Nat.reduceMul, Nat.reduceLT, Nat.reduceLeDiff, Int.reduceToNat, Int.reduceLE, Int.reduceLT, Int.reduceEq, Int.reduceNe, Int.reduceAdd, Int.reduceSub, Nat.reduceBEq, Option.some.injEq]
        refine ⟨by omega, by omega, by omega, (l2Read_ok (b.drop s) (by simp; omega) _).to ?_⟩
        cases hv : wordR (b.drop s) with
        | none =>
          rw [hv] at hlit
          simp (implicitDefEqProofs := false) (disch := omega) only [push_cast, wrV, ↓guardK_tt, ↓guardK_ff, ↓guardK_tf, ↓guardK_ft, ↓condK_t, ↓condK_f, ↓reduceIte, Nat.reduceEqDiff, reduceCtorEq, Nat.reduceAdd, Nat.reduceSub, Nat.reduceMul, Nat.reduceLT, Nat.reduceLeDiff, Int.reduceToNat, Int.reduceLE, Int.reduceLT, Int.reduceEq, Int.reduceNe, Int.reduceAdd, Int.reduceSub, Nat.reduceBEq, Option.some.injEq]
          exact hbad _ _ _ _ hlit
        | some z =>
          obtain ⟨v, n2⟩ := z
          obtain ⟨v1, v2, v3⟩ := wordR_bound hv
          simp only [List.length_drop] at v3
          have hk : fieldOk ⟨g.name, v, bits == 4⟩ = true := by simp [fieldOk, gn1, v1, gn3]
          rw [hv] at hlit
          simp only [if_pos hk] at hlit
          simp (implicitDefEqProofs := false) (disch := omega) only [push_cast, wrV, ↓guardK_tt, ↓guardK_ff, ↓guardK_tf, ↓guardK_ft, ↓condK_t, ↓condK_f, ↓reduceIte, Nat.reduceEqDiff, reduceCtorEq, Nat.reduceAdd, Nat.reduceSub, Nat.reduceMul, Nat.reduceLT, Nat.reduceLeDiff, Int.reduceToNat, Int.reduceLE, Int.reduceLT, Int.reduceEq, Int.reduceNe, Int.reduceAdd, Int.reduceSub, Nat.reduceBEq, Option.some.injEq]
          exact hfin _ g.name v _ _ (by simp) hlit

def OneRes (l : List Fd) (max : Int) (o : Option (Fd × Nat × Nat)) (r : V) : Prop := match o with
  | some (f, s, bits) => r = .tup [tV (if bits = 6 then fitL (f :: l) max else l) max, fV f, .int .i64 s, .bool true]
  | none => ∃ (g : Fd) (s : Int), r = .tup [tV l max, fV g, .int .i64 s, .bool false]

theorem litR_form {l : List Fd} {b : List UInt8} {w : Nat} {f : Fd} {s bits : Nat} (h : litR l b w = some (f, s, bits)) : f = ⟨f.name, f.val, w == 4⟩ ∧ bits = w := by
  unfold litR at h
  split at h
  · cases h
  · split at h
    · cases h
    · split at h
      · cases h
      · split at h
        · cases h; exact ⟨rfl, rfl⟩
        · cases h

set_option maxHeartbeats 8000000 in
theorem l11One_ok (l : List Fd) (max : Int) (b : List UInt8) (hl : FdsB l) (hl1 : l.length ≤ 1000000) (hm : 0 ≤ max) (hb : b.length ≤ 1000000) (hne : b ≠ []) (hall : ∀ f ∈ fixedFds ++ l, fieldOk f = true) (S : List Blk) :
    VCall Try.prog 52 [tV l max, .str b] S fun r S' => OneRes l max (fieldR l b) r ∧ S' = S := by
  have hpos : 0 < b.length := List.length_pos_iff.2 hne
  obtain ⟨c, hc⟩ : ∃ c, c = b.getD 0 0 := ⟨_, rfl⟩
  have hcn := c.toNat_lt
  have hbad : ∀ (X : List Blk) (g : Fd) (s : Int), ∃ r S2, Wk S (.tup [tV l max, fV g, .int .i64 s, .bool false]) (S ++ X) r S2 ∧ OneRes l max none r ∧ S2 = S :=
    fun X g s => ⟨_, _, Wk.pure (Cl.four (cl_tab _ l max) (cl_fV _ g) (.int _ _) (.bool _)), ⟨g, s, rfl⟩, rfl⟩
  refine VCall.of_ev hD (fun _ => false) (fun id => if id = 4 then [7, 8, 11, 7, 7, 11, 11, 8, 11, 11, 11] else if id = 8 then [2, 3, 3, 6, 6, 6] else if id = 9 then [2, 2, 5, 6, 9, 6, 9, 9, 9] else if id = 13 then [4, 5, 8, 8, 5, 8, 8, 8] else []) (n := 81) Try.func52 rfl rfl Try.ntmps52 (by kernel_rfl) (by kernel_rfl) (congrArg Array.toList Try.results52) (by simp) ?_
  simp (implicitDefEqProofs := false) (disch := omega) only [push_cast, ← hc, ↓guardK_tt, ↓guardK_ff, ↓guardK_tf, ↓guardK_ft, ↓condK_t, ↓condK_f, ↓reduceIte, Nat.reduceEqDiff, reduceCtorEq, Nat.reduceAdd, Nat.reduceSub, Nat.reduceMul, Nat.reduceLT, Nat.reduceLeDiff, Int.reduceToNat, Int.reduceLE, Int.reduceLT, Int.reduceEq, Int.reduceNe, Int.reduceAdd, Int.reduceSub, Nat.reduceBEq, Option.some.injEq]
  refine ⟨by omega, ?_⟩
  by_cases h128 : 128 ≤ c.toNat
  · have h128' : (c.toNat : Int) ≥ 128 := by omega
    have hf0 : fieldR l b = idxR l b := by rw [fieldR, ← hc, if_pos h128]
    simp (implicitDefEqProofs := false) (disch := omega) only [push_cast, ← hc, h128', ↓guardK_tt, ↓guardK_ff, ↓guardK_tf, ↓guardK_ft, ↓condK_t, ↓condK_f, ↓reduceIte, Nat.reduceEqDiff, reduceCtorEq, Nat.reduceAdd, Nat.reduceSub, Nat.reduceMul, Nat.reduceLT, Nat.reduceLeDiff, Int.reduceToNat, Int.reduceLE, Int.reduceLT, Int.reduceEq, Int.reduceNe, Int.reduceAdd, Int.reduceSub, Nat.reduceBEq, Option.some.injEq]
    refine ((l1Read_ok b 7 (by omega) (by omega) _).as (by simp)).to ?_
    cases hn : numR b 7 with
    | none =>
      have hfr : fieldR l b = none := by rw [hf0, idxR, hn]
      have hat : atR l 0 = none := by rw [atR, if_neg (by omega)]
      simp (implicitDefEqProofs := false) (disch := omega) only [push_cast, nrV, ↓guardK_tt, ↓guardK_ff, ↓guardK_tf, ↓guardK_ft, ↓condK_t, ↓condK_f, ↓reduceIte, Nat.reduceEqDiff, reduceCtorEq, Nat.reduceAdd, Nat.reduceSub, Nat.reduceMul, Nat.reduceLT, Nat.reduceLeDiff, Int.reduceToNat, Int.reduceLE, Int.reduceLT, Int.reduceEq, Int.reduceNe, Int.reduceAdd, Int.reduceSub, Nat.reduceBEq, Option.some.injEq]
      refine ((l3At_ok l max 0 hl1 (by omega) _).as rfl).to ?_
      rw [hat, hfr]
      simp (implicitDefEqProofs := false) (disch := omega) only [push_cast, arV, fd0, ↓guardK_tt, ↓guardK_ff, ↓guardK_tf, ↓guardK_ft, ↓condK_t, ↓condK_f, ↓reduceIte, Nat.reduceEqDiff, reduceCtorEq, Nat.reduceAdd, Nat.reduceSub, Nat.reduceMul, Nat.reduceLT, Nat.reduceLeDiff, Int.reduceToNat, Int.reduceLE, Int.reduceLT, Int.reduceEq, Int.reduceNe, Int.reduceAdd, Int.reduceSub, Nat.reduceBEq, Option.some.injEq]
      exact hbad _ fd0 _
    | some x =>
      obtain ⟨q, s⟩ := x
      obtain ⟨g1, g2, g3, g4⟩ := numR_bound (by decide) hn
      have hfr : fieldR l b = (atR l q).map (fun f => (f, s, 7)) := by rw [hf0, idxR, hn]
      simp (implicitDefEqProofs := false) (disch := omega) only [push_cast, nrV, ↓guardK_tt, ↓guardK_ff, ↓guardK_tf, ↓guardK_ft, ↓condK_t, ↓condK_f, ↓reduceIte, Nat.reduceEqDiff, reduceCtorEq, Nat.reduceAdd, Nat.reduceSub, Nat.reduceMul, Nat.reduceLT, Nat.reduceLeDiff, Int.reduceToNat, Int.reduceLE, Int.reduceLT, Int.reduceEq, Int.reduceNe, Int.reduceAdd, Int.reduceSub, Nat.reduceBEq, Option.some.injEq]
      refine ((l3At_ok l max q hl1 (by omega) _).as rfl).to ?_
      rw [hfr]
      cases hat : atR l q with
      | none =>
        simp (implicitDefEqProofs := false) (disch := omega) only [push_cast, arV, fd0, ↓guardK_tt, ↓guardK_ff, ↓guardK_tf, ↓guardK_ft, ↓condK_t, ↓condK_f, ↓reduceIte, Nat.reduceEqDiff, reduceCtorEq, Nat.reduceAdd, Nat.reduceSub, Nat.reduceMul, Nat.reduceLT, Nat.reduceLeDiff, Int.reduceToNat, Int.reduceLE, Int.reduceLT, Int.reduceEq, Int.reduceNe, Int.reduceAdd, Int.reduceSub, Nat.reduceBEq, Option.some.injEq]
        exact hbad _ fd0 _
      | some g =>
        simp (implicitDefEqProofs := false) (disch := omega) only [push_cast, arV, ↓guardK_tt, ↓guardK_ff, ↓guardK_tf, ↓guardK_ft, ↓condK_t, ↓condK_f, ↓reduceIte, Nat.reduceEqDiff, reduceCtorEq, Nat.reduceAdd, Nat.reduceSub, Nat.reduceMul, Nat.reduceLT, Nat.reduceLeDiff, Int.reduceToNat, Int.reduceLE, Int.reduceLT, Int.reduceEq, Int.reduceNe, Int.reduceAdd, Int.reduceSub, Nat.reduceBEq, Option.some.injEq]
        exact ⟨_, _, Wk.pure (Cl.four (cl_tab _ l max) (cl_fV _ g) (.int _ _) (.bool _)), rfl, rfl⟩
  have h128' : ¬ (c.toNat : Int) ≥ 128 := by omega
  by_cases h64 : 64 ≤ c.toNat
  · have h64' : (c.toNat : Int) ≥ 64 := by omega
    have hf0 : fieldR l b = litR l b 6 := by rw [fieldR, ← hc, if_neg h128, if_pos h64]
    simp (implicitDefEqProofs := false) (disch := omega) only [push_cast, ← hc, h128', h64', ↓guardK_tt, ↓guardK_ff, ↓guardK_tf, ↓guardK_ft, ↓condK_t, ↓condK_f, ↓reduceIte, Nat.reduceEqDiff, reduceCtorEq, Nat.reduceAdd, Nat.reduceSub, Nat.reduceMul, Nat.reduceLT, Nat.reduceLeDiff, Int.reduceToNat, Int.reduceLE, Int.reduceLT, Int.reduceEq, Int.reduceNe, Int.reduceAdd, Int.reduceSub, Nat.reduceBEq, Option.some.injEq]
    refine ⟨by omega, ((l11Lit_ok l max b 6 (by omega) hl1 hb hall _).as (by simp; rfl)).mono ?_⟩
    rintro r S2 ⟨hr, rfl⟩
    rw [hf0]
    cases hlit : litR l b 6 with
    | none =>
      rw [hlit] at hr
      obtain ⟨g, s, rfl⟩ := hr
      simp (implicitDefEqProofs := false) (disch := omega) only [push_cast, ↓guardK_tt, ↓guardK_ff, ↓guardK_tf, ↓guardK_ft, ↓condK_t, ↓condK_f, ↓reduceIte, Nat.reduceEqDiff, reduceCtorEq, Nat.reduceAdd, Nat.reduceSub, Nat.reduceMul, Nat.reduceLT, Nat.reduceLeDiff, Int.reduceToNat, Int.reduceLE, Int.reduceLT, Int.reduceEq, Int.reduceNe, Int.reduceAdd, Int.reduceSub, Nat.reduceBEq, Option.some.injEq]
      exact hbad _ g _
    | some y =>
      obtain ⟨f, s, bits⟩ := y
      obtain ⟨hff, hbits⟩ := litR_form hlit
      obtain ⟨k1, k2, k3, k4, k5⟩ := litR_bound hb (by decide) hlit
      rw [hlit] at hr
      have hrr : r = .tup [fV ⟨f.name, f.val, false⟩, .int .i64 s, .bool true] := hr
      subst hrr
      have hff2 : (⟨f.name, f.val, false⟩ : Fd) = f := hff.symm
      have hfb : FdB f := by
        obtain ⟨_, _, _, q1, q2⟩ := fieldOk_parts k1
        exact ⟨by omega, by omega⟩
      simp (implicitDefEqProofs := false) (disch := omega) only [push_cast, ↓guardK_tt, ↓guardK_ff, ↓guardK_tf, ↓guardK_ft, ↓condK_t, ↓condK_f, ↓reduceIte, Nat.reduceEqDiff, reduceCtorEq, Nat.reduceAdd, Nat.reduceSub, Nat.reduceMul, Nat.reduceLT, Nat.reduceLeDiff, Int.reduceToNat, Int.reduceLE, Int.reduceLT, Int.reduceEq, Int.reduceNe, Int.reduceAdd, Int.reduceSub, Nat.reduceBEq, Option.some.injEq]
      refine ((l3Add_ok l max f hl hfb (by omega) hm _).as (by rw [← hff2]; rfl)).to ?_
      rw [hff2]
      simp (implicitDefEqProofs := false) (disch := omega) only [push_cast, ↓guardK_tt, ↓guardK_ff, ↓guardK_tf, ↓guardK_ft, ↓condK_t, ↓condK_f, ↓reduceIte, Nat.reduceEqDiff, reduceCtorEq, Nat.reduceAdd, Nat.reduceSub, Nat.reduceMul, Nat.reduceLT, Nat.reduceLeDiff, Int.reduceToNat, Int.reduceLE, Int.reduceLT, Int.reduceEq, Int.reduceNe, Int.reduceAdd, Int.reduceSub, Nat.reduceBEq, Option.some.injEq]
      refine finOne (Cl.four (cl_tab _ (fitL (f :: l) max) max) (cl_fV _ ⟨f.name, f.val, false⟩) (.int _ _) (.bool _)) ?_
      subst hbits
      show _ = _
      rw [if_pos rfl, ← hff2]
      rfl
  have h64' : ¬ (c.toNat : Int) ≥ 64 := by omega
  have hcw : IntKind.i64.wrap (c.toNat : Int) = c.toNat := i64_fit _ (by omega)
  simp (implicitDefEqProofs := false) (disch := omega) only [push_cast, ← hc, h128', h64', hcw, ↓guardK_tt, ↓guardK_ff, ↓guardK_tf, ↓guardK_ft, ↓condK_t, ↓condK_f, ↓reduceIte, Nat.reduceEqDiff, reduceCtorEq, Nat.reduceAdd, Nat.reduceSub, Nat.reduceMul, Nat.reduceLT, Nat.reduceLeDiff, Int.reduceToNat, Int.reduceLE, Int.reduceLT, Int.reduceEq, Int.reduceNe, Int.reduceAdd, Int.reduceSub, Nat.reduceBEq, Option.some.injEq]
  refine ⟨by omega, by omega, (l6In_ok c.toNat 16 31 _).to ?_⟩
  by_cases h16 : 16 ≤ c.toNat ∧ c.toNat < 32
  · have hin : (decide ((16 : Int) ≤ (c.toNat : Int)) && decide ((c.toNat : Int) ≤ 31)) = true := by simp; omega
    have hf0 : fieldR l b = litR l b 4 := by rw [fieldR, ← hc, if_neg h128, if_neg h64, if_pos h16]
    rw [hin, hf0]
    simp (implicitDefEqProofs := false) (disch := omega) only [push_cast, ↓guardK_tt, ↓guardK_ff, ↓guardK_tf, ↓guardK_ft, ↓condK_t, ↓condK_f, ↓reduceIte, Nat.reduceEqDiff, reduceCtorEq, Nat.reduceAdd, Nat.reduceSub, Nat.reduceMul, Nat.reduceLT, Nat.reduceLeDiff, Int.reduceToNat, Int.reduceLE, Int.reduceLT, Int.reduceEq, Int.reduceNe, Int.reduceAdd, Int.reduceSub, Nat.reduceBEq, Option.some.injEq]
    refine ((l11Lit_ok l max b 4 (by omega) hl1 hb hall _).as (by simp; rfl)).mono ?_
    rintro r S2 ⟨hr, rfl⟩
    cases hlit : litR l b 4 with
    | none =>
      rw [hlit] at hr
      obtain ⟨g, s, rfl⟩ := hr
      simp (implicitDefEqProofs := false) (disch := omega) only [push_cast, ↓guardK_tt, ↓guardK_ff, ↓guardK_tf, ↓guardK_ft, ↓condK_t, ↓condK_f, ↓reduceIte, Nat.reduceEqDiff, reduceCtorEq, Nat.reduceAdd, Nat.reduceSub, Nat.reduceMul, Nat.reduceLT, Nat.reduceLeDiff, Int.reduceToNat, Int.reduceLE, Int.reduceLT, Int.reduceEq, Int.reduceNe, Int.reduceAdd, Int.reduceSub, Nat.reduceBEq, Option.some.injEq]
      exact hbad _ ⟨g.name, g.val, true⟩ _
    | some y =>
      obtain ⟨f, s, bits⟩ := y
      obtain ⟨hff, hbits⟩ := litR_form hlit
      rw [hlit] at hr
      have hrr : r = .tup [fV ⟨f.name, f.val, false⟩, .int .i64 s, .bool true] := hr
      subst hrr
      simp (implicitDefEqProofs := false) (disch := omega) only [push_cast, ↓guardK_tt, ↓guardK_ff, ↓guardK_tf, ↓guardK_ft, ↓condK_t, ↓condK_f, ↓reduceIte, Nat.reduceEqDiff, reduceCtorEq, Nat.reduceAdd, Nat.reduceSub, Nat.reduceMul, Nat.reduceLT, Nat.reduceLeDiff, Int.reduceToNat, Int.reduceLE, Int.reduceLT, Int.reduceEq, Int.reduceNe, Int.reduceAdd, Int.reduceSub, Nat.reduceBEq, Option.some.injEq]
      refine ⟨_, _, Wk.pure (Cl.four (cl_tab _ l max) (cl_fV _ ⟨f.name, f.val, true⟩) (.int _ _) (.bool _)), ?_, rfl⟩
      subst hbits
      show _ = _
      rw [if_neg (by decide), hff]
      rfl
  · have hin : (decide ((16 : Int) ≤ (c.toNat : Int)) && decide ((c.toNat : Int) ≤ 31)) = false := by simp; omega
    have hf0 : fieldR l b = none := by rw [fieldR, ← hc, if_neg h128, if_neg h64, if_neg h16]
    rw [hin, hf0]
    simp (implicitDefEqProofs := false) (disch := omega) only [push_cast, ↓guardK_tt, ↓guardK_ff, ↓guardK_tf, ↓guardK_ft, ↓condK_t, ↓condK_f, ↓reduceIte, Nat.reduceEqDiff, reduceCtorEq, Nat.reduceAdd, Nat.reduceSub, Nat.reduceMul, Nat.reduceLT, Nat.reduceLeDiff, Int.reduceToNat, Int.reduceLE, Int.reduceLT, Int.reduceEq, Int.reduceNe, Int.reduceAdd, Int.reduceSub, Nat.reduceBEq, Option.some.injEq]
    exact hbad _ fd0 _

end Go.Proofs.Ytblbaniokmgjgaa
