/- Contracts: HeadRead of the program. -/
import Derived.Test.YtblbaniokmgjgaaCdB
namespace Go.Proofs.Ytblbaniokmgjgaa
open Go
set_option linter.unusedVariables false
set_option linter.unusedSimpArgs false

def headR : Nat → List Fd → Int → List UInt8 → Nat → Option (List Fd × List Fd)
  | 0, l, _, b, _ => if b = [] then some (l, []) else none
  | k + 1, l, max, b, c => if b = [] then some (l, []) else match fieldR l b with
    | none => none
    | some (f, s, bits) => if c = 6 then none else (headR k (if bits = 6 then fitL (f :: l) max else l) max (b.drop s) (c + 1)).map (fun x => (x.1, f :: x.2))
def hrM (l : List Fd) (max : Int) (b : List UInt8) : Option (List Fd × List Fd) := if tableOk l max = true ∧ b.length ≤ 250 then headR b.length l max b 0 else none
def hrV (max : Int) (o : Option (List Fd × List Fd)) : V := match o with
  | some (l, h) => .tup [tV l max, .rows none (h.map fV), .bool true]
  | none => .tup [tV [] 0, .rows none [], .bool false]

theorem litR_bound {l : List Fd} {b : List UInt8} {w bits s : Nat} {f : Fd} (hb : b.length ≤ 1000000) (hw : w ≤ 7) (h : litR l b w = some (f, s, bits)) : fieldOk f = true ∧ 1 ≤ s ∧ s ≤ b.length ∧ bits = w ∧ f.never = (w == 4) := by
  unfold litR at h
  split at h
  · cases h
  · rename_i p s1 hn
    obtain ⟨h1, h2, h3, h4⟩ := numR_bound hw hn
    split at h
    · cases h
    · rename_i nm s2 hnm
      have hs2 : s1 ≤ s2 ∧ s2 ≤ b.length := by
        unfold nameR at hnm
        split at hnm
        · cases hwr : wordR (b.drop s1) with
          | none => rw [hwr] at hnm; cases hnm
          | some y =>
            obtain ⟨a, n⟩ := y
            rw [hwr] at hnm
            cases hnm
            have := wordR_bound hwr
            simp only [List.length_drop] at this
            simp only
            omega
        · cases hat : atR l p with
          | none => rw [hat] at hnm; cases hnm
          | some g => rw [hat] at hnm; cases hnm; omega
      split at h
      · cases h
      · rename_i v n hv
        have hvb := wordR_bound hv
        simp only [List.length_drop] at hvb
        split at h
        · rename_i hk
          cases h
          exact ⟨hk, by omega, by omega, rfl, rfl⟩
        · cases h

theorem fieldR_bound {l : List Fd} {b : List UInt8} {s bits : Nat} {f : Fd} (hb : b.length ≤ 1000000) (h : fieldR l b = some (f, s, bits)) : 1 ≤ s ∧ s ≤ b.length ∧ bits ≤ 7 ∧ ((bits = 7 ∧ f ∈ fixedFds ++ l) ∨ (bits ≠ 7 ∧ fieldOk f = true ∧ f.never = (bits == 4))) := by
  unfold fieldR at h
  split at h
  · unfold idxR at h
    split at h
    · cases h
    · rename_i p s1 hn
      obtain ⟨h1, h2, h3, h4⟩ := numR_bound (by decide) hn
      cases hat : atR l p with
      | none => rw [hat] at h; cases h
      | some g =>
        rw [hat] at h
        cases h
        exact ⟨h2, h4, by omega, .inl ⟨rfl, atR_mem hat⟩⟩
  · split at h
    · obtain ⟨h1, h2, h3, h4, h5⟩ := litR_bound hb (by decide) h
      subst h4
      exact ⟨h2, h3, by omega, .inr ⟨by decide, h1, h5⟩⟩
    · split at h
      · obtain ⟨h1, h2, h3, h4, h5⟩ := litR_bound hb (by decide) h
        subst h4
        exact ⟨h2, h3, by omega, .inr ⟨by decide, h1, h5⟩⟩
      · cases h

theorem headR_nil (k : Nat) (l : List Fd) (max : Int) (c : Nat) : headR k l max [] c = some (l, []) := by cases k <;> simp [headR]

theorem headR_fuel : ∀ (n : Nat) (b : List UInt8), b.length ≤ n → b.length ≤ 1000000 → ∀ (k : Nat) (l : List Fd) (max : Int) (c : Nat), b.length ≤ k → headR k l max b c = headR b.length l max b c
  | 0, b, hn, _, k, l, max, c, hk => by
    have : b = [] := List.length_eq_zero_iff.1 (by omega)
    subst this
    rw [headR_nil, headR_nil]
  | n + 1, b, hn, hb, k, l, max, c, hk => by
    by_cases hbn : b = []
    · subst hbn
      rw [headR_nil, headR_nil]
    · have hpos : 0 < b.length := List.length_pos_iff.2 hbn
      obtain ⟨k, rfl⟩ : ∃ j, k = j + 1 := ⟨k - 1, by omega⟩
      obtain ⟨m, hm⟩ : ∃ m, b.length = m + 1 := ⟨b.length - 1, by omega⟩
      rw [hm, headR, headR, if_neg hbn, if_neg hbn]
      cases hf : fieldR l b with
      | none => rfl
      | some y =>
        obtain ⟨f, s, bits⟩ := y
        obtain ⟨b1, b2, _⟩ := fieldR_bound hb hf
        have hdl : (b.drop s).length = b.length - s := List.length_drop ..
        simp only
        rw [headR_fuel n (b.drop s) (by omega) (by omega) k _ max (c + 1) (by omega), headR_fuel n (b.drop s) (by omega) (by omega) m _ max (c + 1) (by omega)]

theorem fixed_b : ∀ f ∈ fixedFds, FdB f := fun f hf => by
  obtain ⟨_, _, _, h1, h2⟩ := fieldOk_parts (fixed_ok f hf).1
  exact ⟨by omega, by omega⟩

set_option maxHeartbeats 4000000 in
theorem HeadRead_ok (l : List Fd) (max : Int) (b : List UInt8) (hl : FdsB l) (hb : b.length ≤ 1000000000) (S : List Blk) :
    VCall Try.prog 10 [tV l max, .str b] S fun r S' => r = hrV max (hrM l max b) ∧ S' = S := by
  have hlen := hl.1
  refine VCall.of_ev hD (fun _ => false) (fun _ => []) (n := 54) Try.func10 rfl rfl Try.ntmps10 (by kernel_rfl) (by kernel_rfl) (congrArg Array.toList Try.results10) (by simp) ?_
  simp (implicitDefEqProofs := false) (disch := omega) only [push_cast, ↓guardK_tt, ↓guardK_ff, ↓guardK_tf, ↓guardK_ft, ↓condK_t, ↓condK_f, ↓reduceIte, Nat.reduceEqDiff, reduceCtorEq, Nat.reduceAdd, Nat.reduceSub, Nat.reduceMul, Nat.reduceLT, Nat.reduceLeDiff, Int.reduceToNat, Int.reduceLE, Int.reduceLT, Int.reduceEq, Int.reduceNe, Int.reduceAdd, Int.reduceSub, Nat.reduceBEq, Option.some.injEq]
  refine (TableOk_ok l max hl _).to ?_
  cases ht : tableOk l max
  · simp (implicitDefEqProofs := false) (disch := omega) only [push_cast, ↓guardK_tt, ↓guardK_ff, ↓guardK_tf, ↓guardK_ft, ↓condK_t, ↓condK_f, ↓reduceIte, Nat.reduceEqDiff, reduceCtorEq, Nat.reduceAdd, Nat.reduceSub, Nat.reduceMul, Nat.reduceLT, Nat.reduceLeDiff, Int.reduceToNat, Int.reduceLE, Int.reduceLT, Int.reduceEq, Int.reduceNe, Int.reduceAdd, Int.reduceSub, Nat.reduceBEq, Option.some.injEq]
    exact finE (Cl.three (cl_tab _ [] 0) (cl_fds _ []) (.bool _)) (by rw [hrM, if_neg (by simp [ht])]; rfl)
  obtain ⟨ht1, ht2, ht3, ht4, ht5⟩ := tableOk_parts ht
  by_cases h250 : b.length ≤ 250
  · have h250' : ¬ (b.length : Int) > 250 := by omega
    have hM : hrM l max b = headR b.length l max b 0 := by rw [hrM, if_pos ⟨ht, h250⟩]
    simp (implicitDefEqProofs := false) (disch := omega) only [push_cast, h250', ↓guardK_tt, ↓guardK_ff, ↓guardK_tf, ↓guardK_ft, ↓condK_t, ↓condK_f, ↓reduceIte, Nat.reduceEqDiff, reduceCtorEq, Nat.reduceAdd, Nat.reduceSub, Nat.reduceMul, Nat.reduceLT, Nat.reduceLeDiff, Int.reduceToNat, Int.reduceLE, Int.reduceLT, Int.reduceEq, Int.reduceNe, Int.reduceAdd, Int.reduceSub, Nat.reduceBEq, Option.some.injEq]
    refine wpV_loop (fun m t S' => ∃ (w h : List Fd) (d : List UInt8) (X : List Blk), m = d.length ∧ d.length ≤ 250 ∧ FdsB w ∧ w.length ≤ 16 + h.length ∧ h.length ≤ 6 ∧ (headR b.length l max b 0 = (headR d.length w max d h.length).map (fun x => (x.1, h ++ x.2))) ∧ t 1 = .str d ∧ t 2 = .ptr S.length 0 ∧ t 4 = .ptr (S.length + 1) 0 ∧
        ((t 7 = .nils ∧ h = []) ∨ ∃ τ, X[τ]? = some (.right 3) ∧ t 7 = .rows (some (S.length + (τ + 2))) (h.map fV)) ∧ S' = S ++ ([.cells 0 [.rows none (w.map fV), .int .i64 max], .cells 0 [.nils, .int .i64 0]] ++ X)) b.length
      ⟨l, [], b, [], rfl, h250, hl, by simp; omega, by simp, ?_, rfl, rfl, rfl, .inl ⟨rfl, rfl⟩, rfl⟩ ?_
    · cases headR b.length l max b 0 <;> rfl
    rintro m t S' ⟨w, h, d, X, rfl, hd, hw, hwl, hh6, hrun, h1, h2, h4, h7, rfl⟩
    refine wpV_of hD (fun _ => false) (fun _ => []) (by kernel_rfl) ?_
    by_cases hdn : d = []
    · subst hdn
      have hres : hrM l max b = some (w, h) := by rw [hM, hrun, headR_nil]; simp
      rcases h7 with ⟨h7, rfl⟩ | ⟨τ, hX, h7⟩
      · simp (implicitDefEqProofs := false) (disch := omega) only [push_cast, h1, h2, h4, h7, ↓guardK_tt, ↓guardK_ff, ↓guardK_tf, ↓guardK_ft, ↓condK_t, ↓condK_f, ↓reduceIte, Nat.reduceEqDiff, reduceCtorEq, Nat.reduceAdd, Nat.reduceSub, Nat.reduceMul, Nat.reduceLT, Nat.reduceLeDiff, Int.reduceToNat, Int.reduceLE, Int.reduceLT, Int.reduceEq, Int.reduceNe, Int.reduceAdd, Int.reduceSub, Nat.reduceBEq, Option.some.injEq]
        refine (clone_ok w max (by have := hw.1; omega) _).to ?_
        simp (implicitDefEqProofs := false) (disch := omega) only [push_cast, h1, h2, h4, h7, ↓guardK_tt, ↓guardK_ff, ↓guardK_tf, ↓guardK_ft, ↓condK_t, ↓condK_f, ↓reduceIte, Nat.reduceEqDiff, reduceCtorEq, Nat.reduceAdd, Nat.reduceSub, Nat.reduceMul, Nat.reduceLT, Nat.reduceLeDiff, Int.reduceToNat, Int.reduceLE, Int.reduceLT, Int.reduceEq, Int.reduceNe, Int.reduceAdd, Int.reduceSub, Nat.reduceBEq, Option.some.injEq]
        exact finE (Cl.three (cl_tab _ w max) (cl_fds _ []) (.bool _)) (by rw [hres]; rfl)
      · simp (implicitDefEqProofs := false) (disch := omega) only [push_cast, h1, h2, h4, h7, ↓guardK_tt, ↓guardK_ff, ↓guardK_tf, ↓guardK_ft, ↓condK_t, ↓condK_f, ↓reduceIte, Nat.reduceEqDiff, reduceCtorEq, Nat.reduceAdd, Nat.reduceSub, Nat.reduceMul, Nat.reduceLT, Nat.reduceLeDiff, Int.reduceToNat, Int.reduceLE, Int.reduceLT, Int.reduceEq, Int.reduceNe, Int.reduceAdd, Int.reduceSub, Nat.reduceBEq, Option.some.injEq]
        refine (clone_ok w max (by have := hw.1; omega) _).to ?_
        simp (implicitDefEqProofs := false) (disch := omega) only [push_cast, h1, h2, h4, h7, ↓guardK_tt, ↓guardK_ff, ↓guardK_tf, ↓guardK_ft, ↓condK_t, ↓condK_f, ↓reduceIte, Nat.reduceEqDiff, reduceCtorEq, Nat.reduceAdd, Nat.reduceSub, Nat.reduceMul, Nat.reduceLT, Nat.reduceLeDiff, Int.reduceToNat, Int.reduceLE, Int.reduceLT, Int.reduceEq, Int.reduceNe, Int.reduceAdd, Int.reduceSub, Nat.reduceBEq, Option.some.injEq]
        exact finE (Cl.three (cl_tab _ w max) (cl_fds _ h) (.bool _)) (by rw [hres]; rfl)
    · have hdp : 0 < d.length := List.length_pos_iff.2 hdn
      have hdne : (d = []) = False := by simp [hdn]
      have hallb : ∀ f ∈ fixedFds ++ w, FdB f := fun f hf => (List.mem_append.1 hf).elim (fixed_b f) (hw.2 f)
      have hwl2 := hw.1
      simp (implicitDefEqProofs := false) (disch := omega) only [push_cast, h1, h2, h4, hdne, ↓guardK_tt, ↓guardK_ff, ↓guardK_tf, ↓guardK_ft, ↓condK_t, ↓condK_f, ↓reduceIte, Nat.reduceEqDiff, reduceCtorEq, Nat.reduceAdd, Nat.reduceSub, Nat.reduceMul, Nat.reduceLT, Nat.reduceLeDiff, Int.reduceToNat, Int.reduceLE, Int.reduceLT, Int.reduceEq, Int.reduceNe, Int.reduceAdd, Int.reduceSub, Nat.reduceBEq, Option.some.injEq]
      refine ((field_ok w max d (by omega) (by omega) hdn hallb _).as rfl).mono ?_
      rintro r S2 ⟨hr, rfl⟩
      obtain ⟨k, hk⟩ : ∃ k, d.length = k + 1 := ⟨d.length - 1, by omega⟩
      have hstep : headR d.length w max d h.length = match fieldR w d with
          | none => none
          | some (f, s, bits) => if h.length = 6 then none else (headR k (if bits = 6 then fitL (f :: w) max else w) max (d.drop s) (h.length + 1)).map (fun x => (x.1, f :: x.2)) := by rw [hk, headR, if_neg hdn]
      cases hf : fieldR w d with
      | none =>
        rw [hf] at hr hstep
        have hres : hrM l max b = none := by rw [hM, hrun, hstep]; rfl
        obtain ⟨g, s, bits, rfl⟩ := hr
        simp (implicitDefEqProofs := false) (disch := omega) only [push_cast, h1, h2, h4, ↓guardK_tt, ↓guardK_ff, ↓guardK_tf, ↓guardK_ft, ↓condK_t, ↓condK_f, ↓reduceIte, Nat.reduceEqDiff, reduceCtorEq, Nat.reduceAdd, Nat.reduceSub, Nat.reduceMul, Nat.reduceLT, Nat.reduceLeDiff, Int.reduceToNat, Int.reduceLE, Int.reduceLT, Int.reduceEq, Int.reduceNe, Int.reduceAdd, Int.reduceSub, Nat.reduceBEq, Option.some.injEq]
        exact finE (Cl.three (cl_tab _ [] 0) (cl_fds _ []) (.bool _)) (by rw [hres]; rfl)
      | some y =>
        obtain ⟨f, s, bits⟩ := y
        rw [hf] at hr hstep
        simp only at hstep
        obtain ⟨b1, b2, b3, b4⟩ := fieldR_bound (by omega) hf
        have hrr : r = .tup [fV f, .int .i64 s, .int .i64 bits, .bool true] := hr
        subst hrr
        have hdl : (d.drop s).length = d.length - s := List.length_drop ..
        have hds : ∀ z : Nat, (d.take d.length).drop s = d.drop s := fun _ => by rw [List.take_length]
        have hds := hds 0
        rw [headR_fuel d.length (d.drop s) (by omega) (by omega) k _ max _ (by omega)] at hstep
        have hbits : (bits : Int) = 6 ↔ bits = 6 := by omega
        have hfb : FdB f := by
          rcases b4 with ⟨_, hm⟩ | ⟨_, hk, _⟩
          · exact hallb f hm
          · obtain ⟨_, _, _, q1, q2⟩ := fieldOk_parts hk
            exact ⟨by omega, by omega⟩
        have hnew : FdsB (fitL (f :: w) max) ∧ (fitL (f :: w) max).length ≤ w.length + 1 := by
          have hb : FdsB (f :: w) := ⟨by simp; omega, fun g hg => by
            rcases List.mem_cons.1 hg with rfl | hg
            · exact hfb
            · exact hw.2 g hg⟩
          exact ⟨hb.fit max, by simpa using (fitL_sub (f :: w) max).2⟩
        by_cases h6 : h.length = 6
        · rw [if_pos h6] at hstep
          have hres : hrM l max b = none := by rw [hM, hrun, hstep]; rfl
          have h6' : (h.length : Int) = 6 := by omega
          rcases h7 with ⟨h7, rfl⟩ | ⟨τ, hX, h7⟩
          · simp at h6
          · simp (implicitDefEqProofs := false) (disch := omega) only [push_cast, h1, h2, h4, h7, h6', ↓guardK_tt, ↓guardK_ff, ↓guardK_tf, ↓guardK_ft, ↓condK_t, ↓condK_f, ↓reduceIte, Nat.reduceEqDiff, reduceCtorEq, Nat.reduceAdd, Nat.reduceSub, Nat.reduceMul, Nat.reduceLT, Nat.reduceLeDiff, Int.reduceToNat, Int.reduceLE, Int.reduceLT, Int.reduceEq, Int.reduceNe, Int.reduceAdd, Int.reduceSub, Nat.reduceBEq, Option.some.injEq]
            exact finE (Cl.three (cl_tab _ [] 0) (cl_fds _ []) (.bool _)) (by rw [hres]; rfl)
        rw [if_neg h6] at hstep
        have h6' : ¬ (h.length : Int) = 6 := by omega
        by_cases hb6 : bits = 6
        · rw [if_pos hb6] at hstep
          have hb6' : (bits : Int) = 6 := by omega
          obtain ⟨n1, n2⟩ := hnew
          rcases h7 with ⟨h7, rfl⟩ | ⟨τ, hX, h7⟩
          · simp (implicitDefEqProofs := false) (disch := omega) only [push_cast, h1, h2, h4, h7, hb6', ↓guardK_tt, ↓guardK_ff, ↓guardK_tf, ↓guardK_ft, ↓condK_t, ↓condK_f, ↓reduceIte, Nat.reduceEqDiff, reduceCtorEq, Nat.reduceAdd, Nat.reduceSub, Nat.reduceMul, Nat.reduceLT, Nat.reduceLeDiff, Int.reduceToNat, Int.reduceLE, Int.reduceLT, Int.reduceEq, Int.reduceNe, Int.reduceAdd, Int.reduceSub, Nat.reduceBEq, Option.some.injEq]
            refine ((add_ok' w max f hw hfb (by omega) ht2 _).as rfl).to ?_
            simp (implicitDefEqProofs := false) (disch := omega) only [push_cast, h1, h2, h4, h7, hds, ↓guardK_tt, ↓guardK_ff, ↓guardK_tf, ↓guardK_ft, ↓condK_t, ↓condK_f, ↓reduceIte, Nat.reduceEqDiff, reduceCtorEq, Nat.reduceAdd, Nat.reduceSub, Nat.reduceMul, Nat.reduceLT, Nat.reduceLeDiff, Int.reduceToNat, Int.reduceLE, Int.reduceLT, Int.reduceEq, Int.reduceNe, Int.reduceAdd, Int.reduceSub, Nat.reduceBEq, Option.some.injEq]
            refine ⟨by omega, by omega, by omega, (d.drop s).length, by omega, fitL (f :: w) max, [f], d.drop s, _, rfl, by omega, n1, by simp at hwl ⊢; omega, by simp, ?_, rfl, ⟨X.length + 2, ?_, rfl⟩, rfl⟩
            · rw [hrun, hstep, Option.map_map]; rfl
            · rw [List.getElem?_append_right (by omega)]; simp
          · have hX2 : ∀ Y, (X ++ Y)[τ]? = some (.right 3) := fun Y => by rw [List.getElem?_append_left (rd_lt hX)]; exact hX
            simp (implicitDefEqProofs := false) (disch := omega) only [push_cast, h1, h2, h4, h7, h6', hb6', ↓guardK_tt, ↓guardK_ff, ↓guardK_tf, ↓guardK_ft, ↓condK_t, ↓condK_f, ↓reduceIte, Nat.reduceEqDiff, reduceCtorEq, Nat.reduceAdd, Nat.reduceSub, Nat.reduceMul, Nat.reduceLT, Nat.reduceLeDiff, Int.reduceToNat, Int.reduceLE, Int.reduceLT, Int.reduceEq, Int.reduceNe, Int.reduceAdd, Int.reduceSub, Nat.reduceBEq, Option.some.injEq]
            refine ((add_ok' w max f hw hfb (by omega) ht2 _).as rfl).to ?_
            simp (implicitDefEqProofs := false) (disch := omega) only [push_cast, h1, h2, h4, h7, hds, hX2, ↓guardK_tt, ↓guardK_ff, ↓guardK_tf, ↓guardK_ft, ↓condK_t, ↓condK_f, ↓reduceIte, Nat.reduceEqDiff, reduceCtorEq, Nat.reduceAdd, Nat.reduceSub, Nat.reduceMul, Nat.reduceLT, Nat.reduceLeDiff, Int.reduceToNat, Int.reduceLE, Int.reduceLT, Int.reduceEq, Int.reduceNe, Int.reduceAdd, Int.reduceSub, Nat.reduceBEq, Option.some.injEq]
            refine ⟨by omega, by omega, by omega, by omega, (d.drop s).length, by omega, fitL (f :: w) max, h ++ [f], d.drop s, _, rfl, by omega, n1, by rw [List.length_append]; simp; omega, by rw [List.length_append]; simp; omega, ?_, rfl, ⟨X.length + 2, ?_, by rw [List.map_append]; rfl⟩, rfl⟩
            · rw [hrun, hstep, Option.map_map, List.length_append]
              congr 1
              funext y
              simp
            · rw [List.getElem?_append_right (by simp)]; simp
        · rw [if_neg hb6] at hstep
          have hb6' : ¬ (bits : Int) = 6 := by omega
          rcases h7 with ⟨h7, rfl⟩ | ⟨τ, hX, h7⟩
          · simp (implicitDefEqProofs := false) (disch := omega) only [push_cast, h1, h2, h4, h7, hb6', hds, ↓guardK_tt, ↓guardK_ff, ↓guardK_tf, ↓guardK_ft, ↓condK_t, ↓condK_f, ↓reduceIte, Nat.reduceEqDiff, reduceCtorEq, Nat.reduceAdd, Nat.reduceSub, Nat.reduceMul, Nat.reduceLT, Nat.reduceLeDiff, Int.reduceToNat, Int.reduceLE, Int.reduceLT, Int.reduceEq, Int.reduceNe, Int.reduceAdd, Int.reduceSub, Nat.reduceBEq, Option.some.injEq]
            refine ⟨by omega, by omega, by omega, (d.drop s).length, by omega, w, [f], d.drop s, _, rfl, by omega, hw, by simp at hwl ⊢; omega, by simp, ?_, rfl, ⟨X.length + 2, ?_, rfl⟩, rfl⟩
            · rw [hrun, hstep, Option.map_map]; rfl
            · rw [List.getElem?_append_right (by omega)]; simp
          · have hX2 : ∀ Y, (X ++ Y)[τ]? = some (.right 3) := fun Y => by rw [List.getElem?_append_left (rd_lt hX)]; exact hX
            simp (implicitDefEqProofs := false) (disch := omega) only [push_cast, h1, h2, h4, h7, h6', hb6', hds, hX2, ↓guardK_tt, ↓guardK_ff, ↓guardK_tf, ↓guardK_ft, ↓condK_t, ↓condK_f, ↓reduceIte, Nat.reduceEqDiff, reduceCtorEq, Nat.reduceAdd, Nat.reduceSub, Nat.reduceMul, Nat.reduceLT, Nat.reduceLeDiff, Int.reduceToNat, Int.reduceLE, Int.reduceLT, Int.reduceEq, Int.reduceNe, Int.reduceAdd, Int.reduceSub, Nat.reduceBEq, Option.some.injEq]
            refine ⟨by omega, by omega, by omega, by omega, (d.drop s).length, by omega, w, h ++ [f], d.drop s, _, rfl, by omega, hw, by rw [List.length_append]; simp; omega, by rw [List.length_append]; simp; omega, ?_, rfl, ⟨X.length + 2, ?_, by rw [List.map_append]; rfl⟩, rfl⟩
            · rw [hrun, hstep, Option.map_map, List.length_append]
              congr 1
              funext y
              simp
            · rw [List.getElem?_append_right (by simp)]; simp
  · have h250' : (b.length : Int) > 250 := by omega
    simp (implicitDefEqProofs := false) (disch := omega) only [push_cast, h250', ↓guardK_tt, ↓guardK_ff, ↓guardK_tf, ↓guardK_ft, ↓condK_t, ↓condK_f, ↓reduceIte, Nat.reduceEqDiff, reduceCtorEq, Nat.reduceAdd, Nat.reduceSub, Nat.reduceMul, Nat.reduceLT, Nat.reduceLeDiff, Int.reduceToNat, Int.reduceLE, Int.reduceLT, Int.reduceEq, Int.reduceNe, Int.reduceAdd, Int.reduceSub, Nat.reduceBEq, Option.some.injEq]
    exact finE (Cl.three (cl_tab _ [] 0) (cl_fds _ []) (.bool _)) (by rw [hrM, if_neg (fun h => h250 h.2)]; rfl)

end Go.Proofs.Ytblbaniokmgjgaa
