/- Contracts: bytes of heads that are drawn; what was read is a head. -/
import Derived.Test.YtblbaniokmgjgaaCfD
import Derived.Test.YtblbaniokmgjgaaMoE
namespace Go.Proofs.Ytblbaniokmgjgaa
open Go
set_option linter.unusedVariables false
set_option linter.unusedSimpArgs false

theorem hwBytes_len (l : List Fd) (max : Int) (h : List Fd) : (hwBytes l max h).length ≤ 300 := by
  unfold hwBytes
  split
  · rename_i hk
    simp only [Bool.and_eq_true] at hk
    obtain ⟨t1, _⟩ := tableOk_parts hk.1
    obtain ⟨k1, k2⟩ := headOk_parts hk.2
    have := headW_len h l max k1 (by omega)
    omega
  · simp

set_option maxHeartbeats 4000000 in
theorem DrawHeadRead_ok (code : List UInt8) (hc : code.length ≤ 1073741824) (S : List Blk) :
    VCall Try.prog 17 [.rows none (code.map u8V)] S fun r S' => (∃ (l : List Fd) (b : List UInt8) (max : Int), l.length ≤ 20 ∧ (∀ f ∈ l, FdS f) ∧ b.length ≤ 1000 ∧ -1 ≤ max ∧ max ≤ 65 ∧ r = .tup [tV l max, .str b]) ∧ S' = S := by
  refine VCall.of_ev hD (fun f => if f = some 35 then true else false) (fun id => if id = 3 then [8, 8, 1000000, 8, 8, 8, 10, 1000000, 10, 10, 7] else if id = 7 then [4, 6, 6, 6, 6, 6] else if id = 9 then [12, 14, 14, 14, 5, 6, 12, 14, 14, 14, 14, 14, 14, 14] else if id = 11 then [11, 13, 3, 5, 5, 8, 13, 8, 9, 11, 13, 13, 13] else []) (n := 62) Try.func17 rfl rfl Try.ntmps17 (by kernel_rfl) (by kernel_rfl) (congrArg Array.toList Try.results17) (by simp) ?_
  simp (implicitDefEqProofs := false) (disch := omega) only [push_cast, ↓guardK_tt, ↓guardK_ff, ↓guardK_tf, ↓guardK_ft, ↓condK_t, ↓condK_f, ↓reduceIte, Nat.reduceEqDiff, reduceCtorEq, Nat.reduceAdd, Nat.reduceSub, Nat.reduceMul, Nat.reduceLT, Nat.reduceLeDiff, Int.reduceToNat, Int.reduceLE, Int.reduceLT, Int.reduceEq, Int.reduceNe, Int.reduceAdd, Int.reduceSub, Nat.reduceBEq, Option.some.injEq]
  refine (l6Open_ok code hc _).to ?_
  simp (implicitDefEqProofs := false) (disch := omega) only [push_cast, ↓guardK_tt, ↓guardK_ff, ↓guardK_tf, ↓guardK_ft, ↓condK_t, ↓condK_f, ↓reduceIte, Nat.reduceEqDiff, reduceCtorEq, Nat.reduceAdd, Nat.reduceSub, Nat.reduceMul, Nat.reduceLT, Nat.reduceLeDiff, Int.reduceToNat, Int.reduceLE, Int.reduceLT, Int.reduceEq, Int.reduceNe, Int.reduceAdd, Int.reduceSub, Nat.reduceBEq, Option.some.injEq]
  have hbs : (code.take 2000).length ≤ 2000 := by simp; omega
  refine ((l71Table_ok (code.take 2000) (S.length + 1) 0 (by omega) hbs _ (by simp)).as (by simp)).mono ?_
  rintro r S1 ⟨⟨l, max, hl1, hl2, hm1, hm2, rfl⟩, p1, hp1, rfl⟩
  have hlb : FdsB l := ⟨by omega, fun f hf => (hl2 f hf).b⟩
  simp (implicitDefEqProofs := false) (disch := omega) only [push_cast, ↓guardK_tt, ↓guardK_ff, ↓guardK_tf, ↓guardK_ft, ↓condK_t, ↓condK_f, ↓reduceIte, Nat.reduceEqDiff, reduceCtorEq, Nat.reduceAdd, Nat.reduceSub, Nat.reduceMul, Nat.reduceLT, Nat.reduceLeDiff, Int.reduceToNat, Int.reduceLE, Int.reduceLT, Int.reduceEq, Int.reduceNe, Int.reduceAdd, Int.reduceSub, Nat.reduceBEq, Option.some.injEq]
  refine ((l71Head_ok (code.take 2000) (S.length + 1) p1 (by omega) hbs _ (by simp)).as (by simp)).mono ?_
  rintro r S1 ⟨⟨h, hh1, hh2, rfl⟩, p2, hp2, rfl⟩
  have hhb : FdsB h := ⟨by omega, fun f hf => (hh2 f hf).b⟩
  simp (implicitDefEqProofs := false) (disch := omega) only [push_cast, ↓guardK_tt, ↓guardK_ff, ↓guardK_tf, ↓guardK_ft, ↓condK_t, ↓condK_f, ↓reduceIte, Nat.reduceEqDiff, reduceCtorEq, Nat.reduceAdd, Nat.reduceSub, Nat.reduceMul, Nat.reduceLT, Nat.reduceLeDiff, Int.reduceToNat, Int.reduceLE, Int.reduceLT, Int.reduceEq, Int.reduceNe, Int.reduceAdd, Int.reduceSub, Nat.reduceBEq, Option.some.injEq]
  refine ⟨by omega, _, fun S0 => (sHeadWrite_ok l max h hlb hhb S0).as rfl, ?_⟩
  have hbl := hwBytes_len l max h
  generalize hwBytes l max h = b at hbl
  generalize hwTab l max h = x
  generalize hwMax l max h = mx
  have hfin : ∀ (o : List UInt8) (X : List Blk), o.length ≤ 1000 → ∃ r S2, Wk S (.tup [.agg [.rows none (l.map fV), .int .i64 max], .str o]) (S ++ X) r S2 ∧ (∃ (l : List Fd) (b : List UInt8) (max : Int), l.length ≤ 20 ∧ (∀ f ∈ l, FdS f) ∧ b.length ≤ 1000 ∧ -1 ≤ max ∧ max ≤ 65 ∧ r = .tup [tV l max, .str b]) ∧ S2 = S :=
    fun o X ho => ⟨_, _, Wk.pure (Cl.two (cl_tab _ l max) (.str _)), ⟨l, o, max, hl1, hl2, ho, hm1, hm2, rfl⟩, rfl⟩
  simp (implicitDefEqProofs := false) (disch := omega) only [push_cast, ↓guardK_tt, ↓guardK_ff, ↓guardK_tf, ↓guardK_ft, ↓condK_t, ↓condK_f, ↓reduceIte, Nat.reduceEqDiff, reduceCtorEq, Nat.reduceAdd, Nat.reduceSub, Nat.reduceMul, Nat.reduceLT, Nat.reduceLeDiff, Int.reduceToNat, Int.reduceLE, Int.reduceLT, Int.reduceEq, Int.reduceNe, Int.reduceAdd, Int.reduceSub, Nat.reduceBEq, Option.some.injEq]
  refine ⟨rfl, ?_⟩
  refine ((pickI (code.take 2000) (S.length + 1) p2 (b.length + 1) ((b.length : Int) + 1) (by simp) (by omega) (by omega) hbs _ (by simp)).as (by simp)).mono ?_
  rintro r S1 ⟨⟨k, hk, rfl⟩, rfl⟩
  simp (implicitDefEqProofs := false) (disch := omega) only [push_cast, ↓guardK_tt, ↓guardK_ff, ↓guardK_tf, ↓guardK_ft, ↓condK_t, ↓condK_f, ↓reduceIte, Nat.reduceEqDiff, reduceCtorEq, Nat.reduceAdd, Nat.reduceSub, Nat.reduceMul, Nat.reduceLT, Nat.reduceLeDiff, Int.reduceToNat, Int.reduceLE, Int.reduceLT, Int.reduceEq, Int.reduceNe, Int.reduceAdd, Int.reduceSub, Nat.reduceBEq, Option.some.injEq]
  refine ((pickI (code.take 2000) (S.length + 1) (p2 + 1) 7 7 (by simp) (by omega) (by omega) hbs _ (by simp)).as (by simp)).mono ?_
  rintro r S1 ⟨⟨q, hq, rfl⟩, rfl⟩
  rcases (by omega : q = 0 ∨ q = 1 ∨ q = 2 ∨ 3 ≤ q) with rfl | rfl | rfl | hq3
  · simp (implicitDefEqProofs := false) (disch := omega) only [push_cast, ↓guardK_tt, ↓guardK_ff, ↓guardK_tf, ↓guardK_ft, ↓condK_t, ↓condK_f, ↓reduceIte, Nat.reduceEqDiff, reduceCtorEq, Nat.reduceAdd, Nat.reduceSub, Nat.reduceMul, Nat.reduceLT, Nat.reduceLeDiff, Int.reduceToNat, Int.reduceLE, Int.reduceLT, Int.reduceEq, Int.reduceNe, Int.reduceAdd, Int.reduceSub, Nat.reduceBEq, Option.some.injEq]
    exact ⟨by omega, by omega, hfin _ _ (by simp; omega)⟩
  · simp (implicitDefEqProofs := false) (disch := omega) only [push_cast, ↓guardK_tt, ↓guardK_ff, ↓guardK_tf, ↓guardK_ft, ↓condK_t, ↓condK_f, ↓reduceIte, Nat.reduceEqDiff, reduceCtorEq, Nat.reduceAdd, Nat.reduceSub, Nat.reduceMul, Nat.reduceLT, Nat.reduceLeDiff, Int.reduceToNat, Int.reduceLE, Int.reduceLT, Int.reduceEq, Int.reduceNe, Int.reduceAdd, Int.reduceSub, Nat.reduceBEq, Option.some.injEq]
    refine ⟨by omega, by omega, ?_⟩
    refine ((pickI (code.take 2000) (S.length + 1) (p2 + 2) 256 256 (by simp) (by omega) (by omega) hbs _ (by simp)).as (by simp)).mono ?_
    rintro r S1 ⟨⟨c, hc, rfl⟩, rfl⟩
    simp (implicitDefEqProofs := false) (disch := omega) only [push_cast, ↓guardK_tt, ↓guardK_ff, ↓guardK_tf, ↓guardK_ft, ↓condK_t, ↓condK_f, ↓reduceIte, Nat.reduceEqDiff, reduceCtorEq, Nat.reduceAdd, Nat.reduceSub, Nat.reduceMul, Nat.reduceLT, Nat.reduceLeDiff, Int.reduceToNat, Int.reduceLE, Int.reduceLT, Int.reduceEq, Int.reduceNe, Int.reduceAdd, Int.reduceSub, Nat.reduceBEq, Option.some.injEq]
    refine ((l1Byte_ok c _).as (by simp)).to ?_
    simp (implicitDefEqProofs := false) (disch := omega) only [push_cast, ↓guardK_tt, ↓guardK_ff, ↓guardK_tf, ↓guardK_ft, ↓condK_t, ↓condK_f, ↓reduceIte, Nat.reduceEqDiff, reduceCtorEq, Nat.reduceAdd, Nat.reduceSub, Nat.reduceMul, Nat.reduceLT, Nat.reduceLeDiff, Int.reduceToNat, Int.reduceLE, Int.reduceLT, Int.reduceEq, Int.reduceNe, Int.reduceAdd, Int.reduceSub, Nat.reduceBEq, Option.some.injEq]
    exact ⟨by simp; omega, by omega, by omega, by omega, by simp; omega, hfin _ _ (by simp; omega)⟩
  · simp (implicitDefEqProofs := false) (disch := omega) only [push_cast, ↓guardK_tt, ↓guardK_ff, ↓guardK_tf, ↓guardK_ft, ↓condK_t, ↓condK_f, ↓reduceIte, Nat.reduceEqDiff, reduceCtorEq, Nat.reduceAdd, Nat.reduceSub, Nat.reduceMul, Nat.reduceLT, Nat.reduceLeDiff, Int.reduceToNat, Int.reduceLE, Int.reduceLT, Int.reduceEq, Int.reduceNe, Int.reduceAdd, Int.reduceSub, Nat.reduceBEq, Option.some.injEq]
    refine ((pickI (code.take 2000) (S.length + 1) (p2 + 2) 16 16 (by simp) (by omega) (by omega) hbs _ (by simp)).as (by simp)).mono ?_
    rintro r S1 ⟨⟨c, hc, rfl⟩, rfl⟩
    simp (implicitDefEqProofs := false) (disch := omega) only [push_cast, ↓guardK_tt, ↓guardK_ff, ↓guardK_tf, ↓guardK_ft, ↓condK_t, ↓condK_f, ↓reduceIte, Nat.reduceEqDiff, reduceCtorEq, Nat.reduceAdd, Nat.reduceSub, Nat.reduceMul, Nat.reduceLT, Nat.reduceLeDiff, Int.reduceToNat, Int.reduceLE, Int.reduceLT, Int.reduceEq, Int.reduceNe, Int.reduceAdd, Int.reduceSub, Nat.reduceBEq, Option.some.injEq]
    refine ((l1Byte_ok (16 + c) _).as (by simp)).to ?_
    simp (implicitDefEqProofs := false) (disch := omega) only [push_cast, ↓guardK_tt, ↓guardK_ff, ↓guardK_tf, ↓guardK_ft, ↓condK_t, ↓condK_f, ↓reduceIte, Nat.reduceEqDiff, reduceCtorEq, Nat.reduceAdd, Nat.reduceSub, Nat.reduceMul, Nat.reduceLT, Nat.reduceLeDiff, Int.reduceToNat, Int.reduceLE, Int.reduceLT, Int.reduceEq, Int.reduceNe, Int.reduceAdd, Int.reduceSub, Nat.reduceBEq, Option.some.injEq]
    refine ⟨by omega, ?_⟩
    refine ((l71Word_ok (code.take 2000) (S.length + 1) (p2 + 3) (by omega) hbs _ (by simp)).as (by simp)).mono ?_
    rintro r S1 ⟨⟨w, hw, rfl⟩, p3, hp3, rfl⟩
    simp (implicitDefEqProofs := false) (disch := omega) only [push_cast, ↓guardK_tt, ↓guardK_ff, ↓guardK_tf, ↓guardK_ft, ↓condK_t, ↓condK_f, ↓reduceIte, Nat.reduceEqDiff, reduceCtorEq, Nat.reduceAdd, Nat.reduceSub, Nat.reduceMul, Nat.reduceLT, Nat.reduceLeDiff, Int.reduceToNat, Int.reduceLE, Int.reduceLT, Int.reduceEq, Int.reduceNe, Int.reduceAdd, Int.reduceSub, Nat.reduceBEq, Option.some.injEq]
    refine ((sWordWrite_ok w (by omega) _).as rfl).to ?_
    have hwl : (if wordOk w then wordW w else []).length ≤ 300 := by
      have := wordW_len w
      split
      · omega
      · simp
    generalize (if wordOk w then wordW w else []) = y at hwl
    simp (implicitDefEqProofs := false) (disch := omega) only [push_cast, ↓guardK_tt, ↓guardK_ff, ↓guardK_tf, ↓guardK_ft, ↓condK_t, ↓condK_f, ↓reduceIte, Nat.reduceEqDiff, reduceCtorEq, Nat.reduceAdd, Nat.reduceSub, Nat.reduceMul, Nat.reduceLT, Nat.reduceLeDiff, Int.reduceToNat, Int.reduceLE, Int.reduceLT, Int.reduceEq, Int.reduceNe, Int.reduceAdd, Int.reduceSub, Nat.reduceBEq, Option.some.injEq]
    exact ⟨by omega, hfin _ _ (by simp; omega)⟩
  · have n0 : ¬ ((q : Int) = 0) := by omega
    have n1 : ¬ ((q : Int) = 1) := by omega
    have n2 : ¬ ((q : Int) = 2) := by omega
    simp (implicitDefEqProofs := false) (disch := omega) only [push_cast, n0, n1, n2, ↓guardK_tt, ↓guardK_ff, ↓guardK_tf, ↓guardK_ft, ↓condK_t, ↓condK_f, ↓reduceIte, Nat.reduceEqDiff, reduceCtorEq, Nat.reduceAdd, Nat.reduceSub, Nat.reduceMul, Nat.reduceLT, Nat.reduceLeDiff, Int.reduceToNat, Int.reduceLE, Int.reduceLT, Int.reduceEq, Int.reduceNe, Int.reduceAdd, Int.reduceSub, Nat.reduceBEq, Option.some.injEq]
    exact hfin _ _ (by omega)

end Go.Proofs.Ytblbaniokmgjgaa
