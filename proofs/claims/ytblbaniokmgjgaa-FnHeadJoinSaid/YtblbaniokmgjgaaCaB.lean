/- Contracts: words. -/
import Derived.Test.YtblbaniokmgjgaaCaA
import Derived.Laws.Externs
import Derived.Lib.Bytealg
namespace Go.Proofs.Ytblbaniokmgjgaa
open Go
set_option linter.unusedVariables false
set_option linter.unusedSimpArgs false

def signs : List UInt8 := [101, 116, 97, 111, 105, 110, 115, 114, 104, 108, 48, 49, 50, 51, 52, 53, 54, 55, 56, 57, 100, 99, 117, 109, 102, 112, 103, 119, 121, 98, 118, 107, 120, 106, 113, 122, 58, 47, 45]
def signAt (b : UInt8) : Int := Lib.indexByte signs b

theorem indexByteString_ok (s : List UInt8) (c : UInt8) (S : List Blk) : VCall Try.prog 103 [.str s, .int .u8 (c.toNat : Int)] S fun r S' => r = .int .i64 (Lib.indexByte s c) ∧ S' = S := by
  refine .inr ⟨_, ⟨rfl, rfl⟩, fun G w cargs hall => ?_⟩
  obtain ⟨x, y, rfl⟩ : ∃ x y, cargs = #[x, y] := by
    have := hall.1
    obtain ⟨l⟩ := cargs
    match l, this with
    | [x, y], _ => exact ⟨x, y, rfl⟩
  have h1 := hall.2 0 _ _ rfl rfl
  have h2 := hall.2 1 _ _ rfl rfl
  cases h1; cases h2
  refine ⟨.int .i64 (Lib.indexByte s c), ?_, .int _ _⟩
  rw [run_callFunc_extern (fn := Try.f103) Try.func103 (by kernel_rfl) (by kernel_rfl) (by kernel_rfl) (e := Extern.BytealgIndexByte.indexByte) (by kernel_rfl), Lib.run_indexByteString]
  simp

theorem liteIndexByte_ok (s : List UInt8) (c : UInt8) (S : List Blk) : VCall Try.prog 100 [.str s, .int .u8 (c.toNat : Int)] S fun r S' => r = .int .i64 (Lib.indexByte s c) ∧ S' = S := by
  refine VCall.of_ev hD (fun _ => false) (fun _ => []) (n := 8) Try.func100 rfl rfl Try.ntmps100 (by kernel_rfl) (by kernel_rfl) (congrArg Array.toList Try.results100) (by simp) ?_
  simp (implicitDefEqProofs := false) (disch := omega) only [push_cast, ↓guardK_tt, ↓guardK_ff, ↓guardK_tf, ↓guardK_ft, ↓condK_t, ↓condK_f, ↓reduceIte, Nat.reduceEqDiff, reduceCtorEq, Nat.reduceAdd, Nat.reduceSub, Nat.reduceMul, Nat.reduceLT, Nat.reduceLeDiff, Int.reduceToNat, Int.reduceLE, Int.reduceLT, Int.reduceEq, Int.reduceNe, Int.reduceAdd, Int.reduceSub, Nat.reduceBEq, Option.some.injEq]
  refine (indexByteString_ok s c S).to ?_
  simp (implicitDefEqProofs := false) (disch := omega) only [push_cast, ↓guardK_tt, ↓guardK_ff, ↓guardK_tf, ↓guardK_ft, ↓condK_t, ↓condK_f, ↓reduceIte, Nat.reduceEqDiff, reduceCtorEq, Nat.reduceAdd, Nat.reduceSub, Nat.reduceMul, Nat.reduceLT, Nat.reduceLeDiff, Int.reduceToNat, Int.reduceLE, Int.reduceLT, Int.reduceEq, Int.reduceNe, Int.reduceAdd, Int.reduceSub, Nat.reduceBEq, Option.some.injEq]
  exact fin0 rfl

theorem indexByte_ok (s : List UInt8) (c : UInt8) (S : List Blk) : VCall Try.prog 85 [.str s, .int .u8 (c.toNat : Int)] S fun r S' => r = .int .i64 (Lib.indexByte s c) ∧ S' = S := by
  refine VCall.of_ev hD (fun _ => false) (fun _ => []) (n := 8) Try.func85 rfl rfl Try.ntmps85 (by kernel_rfl) (by kernel_rfl) (congrArg Array.toList Try.results85) (by simp) ?_
  simp (implicitDefEqProofs := false) (disch := omega) only [push_cast, ↓guardK_tt, ↓guardK_ff, ↓guardK_tf, ↓guardK_ft, ↓condK_t, ↓condK_f, ↓reduceIte, Nat.reduceEqDiff, reduceCtorEq, Nat.reduceAdd, Nat.reduceSub, Nat.reduceMul, Nat.reduceLT, Nat.reduceLeDiff, Int.reduceToNat, Int.reduceLE, Int.reduceLT, Int.reduceEq, Int.reduceNe, Int.reduceAdd, Int.reduceSub, Nat.reduceBEq, Option.some.injEq]
  refine (liteIndexByte_ok s c S).to ?_
  simp (implicitDefEqProofs := false) (disch := omega) only [push_cast, ↓guardK_tt, ↓guardK_ff, ↓guardK_tf, ↓guardK_ft, ↓condK_t, ↓condK_f, ↓reduceIte, Nat.reduceEqDiff, reduceCtorEq, Nat.reduceAdd, Nat.reduceSub, Nat.reduceMul, Nat.reduceLT, Nat.reduceLeDiff, Int.reduceToNat, Int.reduceLE, Int.reduceLT, Int.reduceEq, Int.reduceNe, Int.reduceAdd, Int.reduceSub, Nat.reduceBEq, Option.some.injEq]
  exact fin0 rfl

theorem indexByte_at : ∀ (l : List UInt8) (c : UInt8) (i : Nat), (∀ j, j < i → l[j]? ≠ some c) → l[i]? = some c → Lib.indexByte l c = i
  | [], c, i, _, h => by simp at h
  | b :: l, c, 0, _, h => by simp at h; simp [Lib.indexByte, h]
  | b :: l, c, i + 1, h0, h => by
    have hb : b ≠ c := fun e => h0 0 (by omega) (by simp [e])
    have := indexByte_at l c i (fun j hj => by have := h0 (j + 1) (by omega); simpa using this) (by simpa using h)
    simp only [Lib.indexByte, this, beq_eq_false_iff_ne.2 hb]
    have h2 : ((i : Int) == -1) = false := by simp
    simp [h2]
theorem indexByte_no : ∀ (l : List UInt8) (c : UInt8), (∀ j, j < l.length → l[j]? ≠ some c) → Lib.indexByte l c = -1
  | [], c, _ => rfl
  | b :: l, c, h0 => by
    have hb : b ≠ c := fun e => h0 0 (by simp) (by simp [e])
    have := indexByte_no l c (fun j hj => by have := h0 (j + 1) (by simpa using hj); simpa using this)
    simp [Lib.indexByte, this, hb]
theorem u8_eq (a b : UInt8) : ((a.toNat : Int) = (b.toNat : Int)) ↔ a = b := by
  constructor
  · intro h; exact UInt8.toNat.inj (by omega)
  · rintro rfl; rfl

theorem l2Sign_ok (c : UInt8) (S : List Blk) : VCall Try.prog 82 [.int .u8 (c.toNat : Int)] S fun r S' => r = .int .i64 (signAt c) ∧ S' = S := by
  refine VCall.of_ev hD (fun _ => false) (fun _ => []) (n := 13) Try.func82 rfl rfl Try.ntmps82 (by kernel_rfl) (by kernel_rfl) (congrArg Array.toList Try.results82) (by simp) ?_
  simp (implicitDefEqProofs := false) (disch := omega) only [push_cast, ↓guardK_tt, ↓guardK_ff, ↓guardK_tf, ↓guardK_ft, ↓condK_t, ↓condK_f, ↓reduceIte, Nat.reduceEqDiff, reduceCtorEq, Nat.reduceAdd, Nat.reduceSub, Nat.reduceMul, Nat.reduceLT, Nat.reduceLeDiff, Int.reduceToNat, Int.reduceLE, Int.reduceLT, Int.reduceEq, Int.reduceNe, Int.reduceAdd, Int.reduceSub, Nat.reduceBEq, Option.some.injEq]
  refine wpV_loop (fun m t S' => ∃ i : Nat, m = 39 - i ∧ i ≤ 39 ∧ (∀ j, j < i → signs[j]? ≠ some c) ∧ t 0 = .int .u8 (c.toNat : Int) ∧ t 3 = .int .i64 i ∧ S' = S) 39 ⟨0, rfl, by omega, by simp, rfl, rfl, rfl⟩ ?_
  rintro m t S' ⟨i, rfl, hi, hno, h0, h3, rfl⟩
  refine wpV_of hD (fun _ => false) (fun _ => []) (by kernel_rfl) ?_
  simp (implicitDefEqProofs := false) (disch := omega) only [push_cast, h0, h3, ↓guardK_tt, ↓guardK_ff, ↓guardK_tf, ↓guardK_ft, ↓condK_t, ↓condK_f, ↓reduceIte, Nat.reduceEqDiff, reduceCtorEq, Nat.reduceAdd, Nat.reduceSub, Nat.reduceMul, Nat.reduceLT, Nat.reduceLeDiff, Int.reduceToNat, Int.reduceLE, Int.reduceLT, Int.reduceEq, Int.reduceNe, Int.reduceAdd, Int.reduceSub, Nat.reduceBEq, Option.some.injEq]
  refine ⟨fun h => ⟨by omega, by omega, ?_⟩, fun h => fin0 ?_⟩
  · have hi2 : i < signs.length := by show i < 39; omega
    have hg : signs[i]? = some (signs.getD i 0) := by rw [List.getD, List.getElem?_eq_getElem hi2]; rfl
    change ((((signs.getD i 0).toNat : Int) = (c.toNat : Int)) → _) ∧ (¬ (((signs.getD i 0).toNat : Int) = (c.toNat : Int)) → _)
    rw [u8_eq]
    refine ⟨fun e => fin0 ?_, fun e => ⟨39 - (i + 1), by omega, i + 1, rfl, by omega, fun j hj => ?_, by simp⟩⟩
    · rw [signAt, indexByte_at signs c i hno (by rw [hg, e])]
    · rcases Nat.lt_succ_iff_lt_or_eq.1 hj with g | rfl
      · exact hno j g
      · rw [hg]; simpa using e
  · have : i = 39 := by omega
    subst this
    rw [signAt, indexByte_no signs c hno]

def wordOk (w : List UInt8) : Bool := w.all (fun c => decide (0 ≤ signAt c)) && decide (w.length ≤ 16)

theorem hDi : TypesOk Try.prog (wrOf D [3]) := wrOk hD _

theorem all_take_bad {p : UInt8 → Bool} {w : List UInt8} {i : Nat} (h : i < w.length) (hb : p (w.getD i 0) = false) : w.all p = false := by
  rw [List.getD, List.getElem?_eq_getElem h] at hb
  rw [Bool.eq_false_iff]
  intro ha
  have := List.all_eq_true.1 ha w[i] (List.getElem_mem h)
  simp only [Option.getD_some] at hb
  rw [hb] at this; cases this
theorem all_take_succ {p : UInt8 → Bool} {w : List UInt8} {i : Nat} (h : i < w.length) (h1 : (w.take i).all p = true) (h2 : p (w.getD i 0) = true) : (w.take (i + 1)).all p = true := by
  rw [List.getD, List.getElem?_eq_getElem h] at h2
  rw [List.take_succ_eq_append_getElem h, List.all_append, h1]
  simpa using h2

theorem sWordOk_ok (w : List UInt8) (hw : w.length ≤ 1000000000) (S : List Blk) : VCall Try.prog 64 [.str w] S fun r S' => r = .bool (wordOk w) ∧ S' = S := by
  refine VCall.of_ev hD (fun _ => false) (fun _ => []) (n := 18) Try.func64 rfl rfl Try.ntmps64 (by kernel_rfl) (by kernel_rfl) (congrArg Array.toList Try.results64) (by simp) ?_
  simp (implicitDefEqProofs := false) (disch := omega) only [push_cast, ↓guardK_tt, ↓guardK_ff, ↓guardK_tf, ↓guardK_ft, ↓condK_t, ↓condK_f, ↓reduceIte, Nat.reduceEqDiff, reduceCtorEq, Nat.reduceAdd, Nat.reduceSub, Nat.reduceMul, Nat.reduceLT, Nat.reduceLeDiff, Int.reduceToNat, Int.reduceLE, Int.reduceLT, Int.reduceEq, Int.reduceNe, Int.reduceAdd, Int.reduceSub, Nat.reduceBEq, Option.some.injEq]
  refine wpV_loop (fun m t S' => ∃ i : Nat, m = w.length - i ∧ i ≤ w.length ∧ (w.take i).all (fun c => decide (0 ≤ signAt c)) = true ∧ t 0 = .str w ∧ t 3 = .int .i64 i ∧ S' = S) w.length ⟨0, by omega, by omega, by simp, rfl, rfl, rfl⟩ ?_
  rintro m t S' ⟨i, rfl, hi, hno, h0, h3, rfl⟩
  refine wpV_of hD (fun _ => false) (fun _ => []) (by kernel_rfl) ?_
  simp (implicitDefEqProofs := false) (disch := omega) only [push_cast, h0, h3, ↓guardK_tt, ↓guardK_ff, ↓guardK_tf, ↓guardK_ft, ↓condK_t, ↓condK_f, ↓reduceIte, Nat.reduceEqDiff, reduceCtorEq, Nat.reduceAdd, Nat.reduceSub, Nat.reduceMul, Nat.reduceLT, Nat.reduceLeDiff, Int.reduceToNat, Int.reduceLE, Int.reduceLT, Int.reduceEq, Int.reduceNe, Int.reduceAdd, Int.reduceSub, Nat.reduceBEq, Option.some.injEq]
  refine ⟨fun h => ⟨by omega, by omega, ?_⟩, fun h => fin0 ?_⟩
  · refine (l2Sign_ok (w.getD i 0) S').to ?_
    simp (implicitDefEqProofs := false) (disch := omega) only [push_cast, h0, h3, ↓guardK_tt, ↓guardK_ff, ↓guardK_tf, ↓guardK_ft, ↓condK_t, ↓condK_f, ↓reduceIte, Nat.reduceEqDiff, reduceCtorEq, Nat.reduceAdd, Nat.reduceSub, Nat.reduceMul, Nat.reduceLT, Nat.reduceLeDiff, Int.reduceToNat, Int.reduceLE, Int.reduceLT, Int.reduceEq, Int.reduceNe, Int.reduceAdd, Int.reduceSub, Nat.reduceBEq, Option.some.injEq]
    refine ⟨fun e => fin0 ?_, fun e => ⟨w.length - (i + 1), by omega, i + 1, rfl, by omega, all_take_succ (by omega) hno (by simpa using e), by simp⟩⟩
    rw [wordOk, all_take_bad (i := i) (by omega) (by simpa using e)]; rfl
  · have : i = w.length := by omega
    subst this
    rw [List.take_length] at hno
    rw [wordOk, hno]
    congr 1
    simp
    omega

theorem WordOk_ok (w : List UInt8) (hw : w.length ≤ 1000000000) (S : List Blk) : VCall Try.prog 69 [.str w] S fun r S' => r = .bool (wordOk w) ∧ S' = S := by
  refine VCall.of_ev hD (fun _ => false) (fun _ => []) (n := 18) Try.func69 rfl rfl Try.ntmps69 (by kernel_rfl) (by kernel_rfl) (congrArg Array.toList Try.results69) (by simp) ?_
  simp (implicitDefEqProofs := false) (disch := omega) only [push_cast, ↓guardK_tt, ↓guardK_ff, ↓guardK_tf, ↓guardK_ft, ↓condK_t, ↓condK_f, ↓reduceIte, Nat.reduceEqDiff, reduceCtorEq, Nat.reduceAdd, Nat.reduceSub, Nat.reduceMul, Nat.reduceLT, Nat.reduceLeDiff, Int.reduceToNat, Int.reduceLE, Int.reduceLT, Int.reduceEq, Int.reduceNe, Int.reduceAdd, Int.reduceSub, Nat.reduceBEq, Option.some.injEq]
  refine wpV_loop (fun m t S' => ∃ i : Nat, m = w.length - i ∧ i ≤ w.length ∧ (w.take i).all (fun c => decide (0 ≤ signAt c)) = true ∧ t 0 = .str w ∧ t 5 = .int .i64 w.length ∧ t 6 = .int .i64 i ∧ S' = S) w.length ⟨0, by omega, by omega, by simp, rfl, rfl, rfl, rfl⟩ ?_
  rintro m t S' ⟨i, rfl, hi, hno, h0, h5, h6, rfl⟩
  refine wpV_of hD (fun _ => false) (fun _ => []) (by kernel_rfl) ?_
  simp (implicitDefEqProofs := false) (disch := omega) only [push_cast, h0, h5, h6, ↓guardK_tt, ↓guardK_ff, ↓guardK_tf, ↓guardK_ft, ↓condK_t, ↓condK_f, ↓reduceIte, Nat.reduceEqDiff, reduceCtorEq, Nat.reduceAdd, Nat.reduceSub, Nat.reduceMul, Nat.reduceLT, Nat.reduceLeDiff, Int.reduceToNat, Int.reduceLE, Int.reduceLT, Int.reduceEq, Int.reduceNe, Int.reduceAdd, Int.reduceSub, Nat.reduceBEq, Option.some.injEq]
  refine ⟨fun h => ⟨by omega, by omega, ?_⟩, fun h => fin0 ?_⟩
  · refine (indexByte_ok signs (w.getD i 0) S').to ?_
    simp (implicitDefEqProofs := false) (disch := omega) only [push_cast, h0, h5, h6, ↓guardK_tt, ↓guardK_ff, ↓guardK_tf, ↓guardK_ft, ↓condK_t, ↓condK_f, ↓reduceIte, Nat.reduceEqDiff, reduceCtorEq, Nat.reduceAdd, Nat.reduceSub, Nat.reduceMul, Nat.reduceLT, Nat.reduceLeDiff, Int.reduceToNat, Int.reduceLE, Int.reduceLT, Int.reduceEq, Int.reduceNe, Int.reduceAdd, Int.reduceSub, Nat.reduceBEq, Option.some.injEq]
    refine ⟨fun e => fin0 ?_, fun e => ⟨w.length - (i + 1), by omega, i + 1, rfl, by omega, all_take_succ (by omega) hno (by simpa [signAt] using e), by simp⟩⟩
    rw [wordOk, all_take_bad (i := i) (by omega) (by simpa [signAt] using e)]; rfl
  · have : i = w.length := by omega
    subst this
    rw [List.take_length] at hno
    rw [wordOk, hno]
    congr 1
    simp
    omega

def bitsOf (n : Nat) : Nat → List Nat
  | 0 => []
  | k + 1 => bitsOf (n / 2) k ++ [n % 2]
def iV (n : Nat) : V := .int .i64 n
theorem bitsOf_len (n k : Nat) : (bitsOf n k).length = k := by induction k generalizing n <;> simp_all [bitsOf]

theorem flat_iV (l : List Nat) : (l.map iV).flatMap V.cells = l.map iV := by induction l <;> simp_all [iV, V.cells]
theorem cl_iV (n : Nat) (l : List Nat) : Cl n (.rows none (l.map iV)) := by
  refine Cl.rows' (fun x hx => ?_)
  obtain ⟨y, _, rfl⟩ := List.mem_map.1 hx
  exact .int _ _

theorem l2Bits_ok (n many : Nat) (hn : n ≤ 1000000000) (hm : many ≤ 1000) (S : List Blk) : VCall Try.prog 98 [.int .i64 n, .int .i64 many] S fun r S' => r = .rows none ((bitsOf n many).map iV) ∧ S' = S := by
  refine VCall.of_ev hDi (fun _ => false) (fun _ => []) (n := 23) Try.func98 rfl rfl Try.ntmps98 (by kernel_rfl) (by kernel_rfl) (congrArg Array.toList Try.results98) (by simp) ?_
  simp (implicitDefEqProofs := false) (disch := omega) only [push_cast, ↓guardK_tt, ↓guardK_ff, ↓guardK_tf, ↓guardK_ft, ↓condK_t, ↓condK_f, ↓reduceIte, Nat.reduceEqDiff, reduceCtorEq, Nat.reduceAdd, Nat.reduceSub, Nat.reduceMul, Nat.reduceLT, Nat.reduceLeDiff, Int.reduceToNat, Int.reduceLE, Int.reduceLT, Int.reduceEq, Int.reduceNe, Int.reduceAdd, Int.reduceSub, Nat.reduceBEq, Option.some.injEq]
  refine ⟨by omega, by omega, ?_⟩
  refine wpV_loop (fun m t S' => ∃ (x : Nat) (d : List Nat), x ≤ n ∧ bitsOf n many = bitsOf x m ++ d ∧ m + d.length = many ∧ t 0 = .int .i64 x ∧ t 5 = .heap S.length many ∧ t 6 = .int .i64 ((m : Int) - 1) ∧ S' = S ++ [.cells 1 (List.replicate m (iV 0) ++ d.map iV)]) many
    ⟨n, [], by omega, by simp, by simp, rfl, rfl, rfl, by simp [iV, List.flatten_replicate_singleton]⟩ ?_
  rintro m t S' ⟨x, d, hxn, hbits, hlen, h0, h5, h6, rfl⟩
  refine wpV_of hDi (fun _ => false) (fun _ => []) (by kernel_rfl) ?_
  simp (implicitDefEqProofs := false) (disch := omega) only [push_cast, h0, h5, h6, ↓guardK_tt, ↓guardK_ff, ↓guardK_tf, ↓guardK_ft, ↓condK_t, ↓condK_f, ↓reduceIte, Nat.reduceEqDiff, reduceCtorEq, Nat.reduceAdd, Nat.reduceSub, Nat.reduceMul, Nat.reduceLT, Nat.reduceLeDiff, Int.reduceToNat, Int.reduceLE, Int.reduceLT, Int.reduceEq, Int.reduceNe, Int.reduceAdd, Int.reduceSub, Nat.reduceBEq, Option.some.injEq]
  refine ⟨fun h => ?_, fun h => ?_⟩
  · obtain ⟨k, rfl⟩ : ∃ k, m = k + 1 := ⟨m - 1, by omega⟩
    refine ⟨by omega, by omega, by simp, k, by omega, x / 2, (x % 2) :: d, by omega, by simp [hbits, bitsOf], by simp at hlen ⊢; omega, ?_, ?_, ?_⟩
    · rw [show Int.tdiv (x : Int) 2 = ((x / 2 : Nat) : Int) from tdiv_nat x 2, i64_fit _ (by omega)]
    · congr 1; omega
    · rw [splice_one, show Int.tmod (x : Int) 2 = ((x % 2 : Nat) : Int) from tmod_nat x 2, List.replicate_succ', show (((k + 1 : Nat) : Int) - 1).toNat * 1 = k by omega, List.append_assoc, List.set_append_right _ _ (by simp)]
      simp [iV]
  · have : m = 0 := by omega
    subst this
    have hd : d = bitsOf n many := by simpa [bitsOf] using hbits.symm
    subst hd
    refine fin_freeze rfl rfl ?_ ?_ ?_ (cl_iV _ _) rfl
    · simp [bitsOf_len]
    · simp [bitsOf_len]
    · rw [flat_iV]
      simp only [List.replicate_zero, List.nil_append, Nat.mul_one]
      rw [List.take_of_length_le (by simp [bitsOf_len])]

def numOf (l : List Nat) : Nat := l.foldl (fun n b => 2 * n + b) 0
theorem numOf_append (l : List Nat) (b : Nat) : numOf (l ++ [b]) = 2 * numOf l + b := by simp [numOf]
theorem foldl_lt : ∀ (l : List Nat) (a : Nat), (∀ b ∈ l, b ≤ 1) → l.foldl (fun n b => 2 * n + b) a < (a + 1) * 2 ^ l.length
  | [], a, _ => by simp
  | b :: l, a, h => by
    have h1 := foldl_lt l (2 * a + b) (fun x hx => h x (by simp [hx]))
    have h2 := h b (by simp)
    have h3 : (2 * a + b + 1) * 2 ^ l.length ≤ (2 * a + 2) * 2 ^ l.length := Nat.mul_le_mul_right _ (by omega)
    have h4 : (a + 1) * 2 ^ (l.length + 1) = (2 * a + 2) * 2 ^ l.length := by rw [Nat.pow_succ, Nat.mul_comm (2 ^ l.length) 2, ← Nat.mul_assoc]; congr 1; omega
    simp only [List.foldl_cons, List.length_cons]
    omega
theorem numOf_lt (l : List Nat) (h : ∀ b ∈ l, b ≤ 1) : numOf l < 2 ^ l.length := by have := foldl_lt l 0 h; simpa [numOf] using this
theorem iV_eq (n : Nat) : iV n = .int .i64 n := rfl
@[push_cast] theorem all_iV_len (l : List Nat) : (l.map iV).all (lenIs 1) = true := by induction l <;> simp_all [lenIs, iV, V.cells]
theorem getD_iV {l : List Nat} {i : Nat} (h : i < l.length) : (l.map iV).getD i .junk = iV (l.getD i 0) := by
  simp [List.getD, List.getElem?_eq_getElem h]
theorem take_getD {l : List Nat} {i : Nat} (h : i < l.length) : l.take (i + 1) = l.take i ++ [l.getD i 0] := by
  rw [List.take_succ_eq_append_getElem h, List.getD, List.getElem?_eq_getElem h]; rfl

theorem l2Num_ok (l : List Nat) (hl : l.length ≤ 40) (hb : ∀ b ∈ l, b ≤ 1) (S : List Blk) : VCall Try.prog 99 [.rows none (l.map iV)] S fun r S' => r = .int .i64 (numOf l) ∧ S' = S := by
  refine VCall.of_ev hD (fun _ => false) (fun _ => []) (n := 19) Try.func99 rfl rfl Try.ntmps99 (by kernel_rfl) (by kernel_rfl) (congrArg Array.toList Try.results99) (by simp) ?_
  simp (implicitDefEqProofs := false) (disch := omega) only [push_cast, ↓guardK_tt, ↓guardK_ff, ↓guardK_tf, ↓guardK_ft, ↓condK_t, ↓condK_f, ↓reduceIte, Nat.reduceEqDiff, reduceCtorEq, Nat.reduceAdd, Nat.reduceSub, Nat.reduceMul, Nat.reduceLT, Nat.reduceLeDiff, Int.reduceToNat, Int.reduceLE, Int.reduceLT, Int.reduceEq, Int.reduceNe, Int.reduceAdd, Int.reduceSub, Nat.reduceBEq, Option.some.injEq]
  refine wpV_loop (fun m t S' => ∃ i : Nat, m = l.length - i ∧ i ≤ l.length ∧ t 0 = .rows none (l.map iV) ∧ t 3 = .int .i64 (numOf (l.take i)) ∧ t 4 = .int .i64 i ∧ S' = S) l.length ⟨0, by omega, by omega, rfl, rfl, rfl, rfl⟩ ?_
  rintro m t S' ⟨i, rfl, hi, h0, h3, h4, rfl⟩
  refine wpV_of hD (fun _ => false) (fun _ => []) (by kernel_rfl) ?_
  have hlt := numOf_lt (l.take i) (fun b hbb => hb b (List.mem_of_mem_take hbb))
  have hp : 2 ^ (l.take i).length ≤ 2 ^ 40 := Nat.pow_le_pow_right (by omega) (by simp; omega)
  simp (implicitDefEqProofs := false) (disch := omega) only [push_cast, h0, h3, h4, ↓guardK_tt, ↓guardK_ff, ↓guardK_tf, ↓guardK_ft, ↓condK_t, ↓condK_f, ↓reduceIte, Nat.reduceEqDiff, reduceCtorEq, Nat.reduceAdd, Nat.reduceSub, Nat.reduceMul, Nat.reduceLT, Nat.reduceLeDiff, Int.reduceToNat, Int.reduceLE, Int.reduceLT, Int.reduceEq, Int.reduceNe, Int.reduceAdd, Int.reduceSub, Nat.reduceBEq, Option.some.injEq]
  refine ⟨fun h => ?_, fun h => fin0 ?_⟩
  · have hil : i < l.length := by omega
    have hbi : l.getD i 0 ≤ 1 := by rw [List.getD, List.getElem?_eq_getElem hil]; exact hb _ (List.getElem_mem hil)
    rw [getD_iV hil, iV_eq]
    simp (implicitDefEqProofs := false) (disch := omega) only [push_cast, h0, h3, h4, ↓guardK_tt, ↓guardK_ff, ↓guardK_tf, ↓guardK_ft, ↓condK_t, ↓condK_f, ↓reduceIte, Nat.reduceEqDiff, reduceCtorEq, Nat.reduceAdd, Nat.reduceSub, Nat.reduceMul, Nat.reduceLT, Nat.reduceLeDiff, Int.reduceToNat, Int.reduceLE, Int.reduceLT, Int.reduceEq, Int.reduceNe, Int.reduceAdd, Int.reduceSub, Nat.reduceBEq, Option.some.injEq]
    refine ⟨by omega, by omega, l.length - (i + 1), by omega, i + 1, rfl, by omega, ?_, by simp⟩
    rw [take_getD hil, numOf_append]
    simp
  · have : i = l.length := by omega
    subst this
    rw [List.take_length]

def codeOf (c : UInt8) : List Nat := if signAt c < 24 then bitsOf (signAt c).toNat 5 else bitsOf (72 + (signAt c).toNat) 7
def pad8 (l : List Nat) : List Nat := l ++ List.replicate ((8 - l.length % 8) % 8) 1
def bytes8 (l : List Nat) : List UInt8 := if l.length < 8 then [] else by8 (numOf (l.take 8)) :: bytes8 (l.drop 8)
termination_by l.length
decreasing_by simp; omega
def pack (w : List UInt8) : List UInt8 := bytes8 (pad8 (w.flatMap codeOf))

theorem bitsOf_le (n k : Nat) : ∀ b ∈ bitsOf n k, b ≤ 1 := by
  induction k generalizing n with
  | zero => simp [bitsOf]
  | succ k ih =>
    intro b hb
    simp only [bitsOf, List.mem_append, List.mem_singleton] at hb
    rcases hb with hb | rfl
    · exact ih _ b hb
    · omega
theorem codeOf_le (c : UInt8) : ∀ b ∈ codeOf c, b ≤ 1 := by
  unfold codeOf; split <;> exact bitsOf_le _ _
theorem codeOf_len (c : UInt8) : (codeOf c).length ≤ 7 := by
  unfold codeOf; split <;> simp [bitsOf_len]
theorem codes_len (w : List UInt8) : (w.flatMap codeOf).length ≤ 7 * w.length := by
  induction w with
  | nil => simp
  | cons c w ih => have := codeOf_len c; simp only [List.flatMap_cons, List.length_append, List.length_cons]; omega
theorem indexByte_lt : ∀ (l : List UInt8) (c : UInt8), Lib.indexByte l c < l.length
  | [], c => by simp [Lib.indexByte]
  | b :: l, c => by
    have := indexByte_lt l c
    simp only [Lib.indexByte, List.length_cons]
    split
    · omega
    · split <;> omega
theorem signAt_le (c : UInt8) : signAt c ≤ 38 := by
  have := indexByte_lt signs c
  have e : signs.length = 39 := rfl
  unfold signAt
  omega

theorem take_get8 {l : List UInt8} {i : Nat} (h : i < l.length) : l.take (i + 1) = l.take i ++ [l.getD i 0] := by
  rw [List.take_succ_eq_append_getElem h, List.getD, List.getElem?_eq_getElem h]; rfl
theorem pad8_done {l : List Nat} (h : l.length % 8 = 0) : pad8 l = l := by simp [pad8, h]
theorem pad8_step {l : List Nat} (h : ¬ l.length % 8 = 0) : pad8 (l ++ [1]) = pad8 l := by
  have e : (8 - l.length % 8) % 8 = (8 - (l.length + 1) % 8) % 8 + 1 := by omega
  simp only [pad8, List.length_append, List.length_cons, List.length_nil, Nat.zero_add]
  rw [e, List.replicate_succ]
  simp
theorem bytes8_step {l : List Nat} (h : 8 ≤ l.length) : bytes8 l = by8 (numOf (l.take 8)) :: bytes8 (l.drop 8) := by rw [bytes8, if_neg (by omega)]
theorem bytes8_end {l : List Nat} (h : l.length < 8) : bytes8 l = [] := by rw [bytes8, if_pos h]

theorem l2Pack_ok (w : List UInt8) (hw : w.length ≤ 1000) (hs : ∀ c ∈ w, 0 ≤ signAt c) (S : List Blk) : VCall Try.prog 83 [.str w] S fun r S' => r = .str (pack w) ∧ S' = S := by
  refine VCall.of_ev hD (fun _ => false) (fun _ => []) (n := 54) Try.func83 rfl rfl Try.ntmps83 (by kernel_rfl) (by kernel_rfl) (congrArg Array.toList Try.results83) (by simp) ?_
  simp (implicitDefEqProofs := false) (disch := omega) only [push_cast, ↓guardK_tt, ↓guardK_ff, ↓guardK_tf, ↓guardK_ft, ↓condK_t, ↓condK_f, ↓reduceIte, Nat.reduceEqDiff, reduceCtorEq, Nat.reduceAdd, Nat.reduceSub, Nat.reduceMul, Nat.reduceLT, Nat.reduceLeDiff, Int.reduceToNat, Int.reduceLE, Int.reduceLT, Int.reduceEq, Int.reduceNe, Int.reduceAdd, Int.reduceSub, Nat.reduceBEq, Option.some.injEq]
  refine wpV_loop (fun m t S' => ∃ (i τ : Nat), m = w.length - i ∧ i ≤ w.length ∧ t 0 = .str w ∧ t 3 = .rows (some τ) (((w.take i).flatMap codeOf).map iV) ∧ t 4 = .int .i64 i ∧ Tok S S' τ 1) w.length ⟨0, S.length, by omega, by omega, rfl, rfl, rfl, Tok.new _ _⟩ ?_
  rintro m t S' ⟨i, τ, rfl, hi, h0, h3, h4, hT⟩
  have hat := hT.at
  have hlen : ((w.take i).flatMap codeOf).length ≤ 7000 := by have := codes_len (w.take i); simp only [List.length_take] at this; omega
  refine wpV_of hD (fun _ => false) (fun _ => []) (by kernel_rfl) ?_
  simp (implicitDefEqProofs := false) (disch := omega) only [push_cast, h0, h3, h4, ↓guardK_tt, ↓guardK_ff, ↓guardK_tf, ↓guardK_ft, ↓condK_t, ↓condK_f, ↓reduceIte, Nat.reduceEqDiff, reduceCtorEq, Nat.reduceAdd, Nat.reduceSub, Nat.reduceMul, Nat.reduceLT, Nat.reduceLeDiff, Int.reduceToNat, Int.reduceLE, Int.reduceLT, Int.reduceEq, Int.reduceNe, Int.reduceAdd, Int.reduceSub, Nat.reduceBEq, Option.some.injEq]
  refine ⟨fun h => ⟨by omega, by omega, ?_⟩, fun h => ?_⟩
  · have hil : i < w.length := by omega
    obtain ⟨c, hc⟩ : ∃ c, c = w.getD i 0 := ⟨_, rfl⟩
    have hcm : c ∈ w := by rw [hc, List.getD, List.getElem?_eq_getElem hil]; exact List.getElem_mem hil
    obtain ⟨k, hk⟩ : ∃ k : Nat, signAt c = k := ⟨(signAt c).toNat, by have := hs c hcm; omega⟩
    have hk38 := signAt_le c
    rw [← hc]
    refine (l2Sign_ok c S').to ?_
    rw [hk]
    simp (implicitDefEqProofs := false) (disch := omega) only [push_cast, h0, h3, h4, ↓guardK_tt, ↓guardK_ff, ↓guardK_tf, ↓guardK_ft, ↓condK_t, ↓condK_f, ↓reduceIte, Nat.reduceEqDiff, reduceCtorEq, Nat.reduceAdd, Nat.reduceSub, Nat.reduceMul, Nat.reduceLT, Nat.reduceLeDiff, Int.reduceToNat, Int.reduceLE, Int.reduceLT, Int.reduceEq, Int.reduceNe, Int.reduceAdd, Int.reduceSub, Nat.reduceBEq, Option.some.injEq]
    refine ⟨fun g => ?_, fun g => ?_⟩
    · have hcode : codeOf c = bitsOf k 5 := by unfold codeOf; rw [if_pos (by omega), hk]; rfl
      refine ((l2Bits_ok k 5 (by omega) (by omega) S').as (by simp)).to ?_
      simp (implicitDefEqProofs := false) (disch := omega) only [push_cast, h0, h3, h4, hat, ↓guardK_tt, ↓guardK_ff, ↓guardK_tf, ↓guardK_ft, ↓condK_t, ↓condK_f, ↓reduceIte, Nat.reduceEqDiff, reduceCtorEq, Nat.reduceAdd, Nat.reduceSub, Nat.reduceMul, Nat.reduceLT, Nat.reduceLeDiff, Int.reduceToNat, Int.reduceLE, Int.reduceLT, Int.reduceEq, Int.reduceNe, Int.reduceAdd, Int.reduceSub, Nat.reduceBEq, Option.some.injEq]
      refine ⟨by rw [bitsOf_len]; omega, by omega, w.length - (i + 1), by omega, i + 1, S'.length, rfl, by omega, ?_, by simp, hT.step⟩
      rw [take_get8 hil, List.flatMap_append, ← hc]
      simp [hcode]
    · have hcode : codeOf c = bitsOf (72 + k) 7 := by unfold codeOf; rw [if_neg (by omega), hk]; rfl
      refine ((l2Bits_ok (72 + k) 7 (by omega) (by omega) S').as (by simp; omega)).to ?_
      simp (implicitDefEqProofs := false) (disch := omega) only [push_cast, h0, h3, h4, hat, ↓guardK_tt, ↓guardK_ff, ↓guardK_tf, ↓guardK_ft, ↓condK_t, ↓condK_f, ↓reduceIte, Nat.reduceEqDiff, reduceCtorEq, Nat.reduceAdd, Nat.reduceSub, Nat.reduceMul, Nat.reduceLT, Nat.reduceLeDiff, Int.reduceToNat, Int.reduceLE, Int.reduceLT, Int.reduceEq, Int.reduceNe, Int.reduceAdd, Int.reduceSub, Nat.reduceBEq, Option.some.injEq]
      refine ⟨by rw [bitsOf_len]; omega, by omega, w.length - (i + 1), by omega, i + 1, S'.length, rfl, by omega, ?_, by simp, hT.step⟩
      rw [take_get8 hil, List.flatMap_append, ← hc]
      simp [hcode]
  · have : i = w.length := by omega
    subst this
    rw [List.take_length] at h3 hlen
    clear h hi
    refine wpV_loop (fun m t S' => ∃ (l : List Nat) (τ : Nat), m = (8 - l.length % 8) % 8 ∧ pad8 l = pad8 (w.flatMap codeOf) ∧ l.length + (8 - l.length % 8) % 8 ≤ 7100 ∧ (∀ b ∈ l, b ≤ 1) ∧ t 3 = .rows (some τ) (l.map iV) ∧ Tok S S' τ 1) _
      ⟨w.flatMap codeOf, τ, rfl, rfl, by omega, fun b hb => by obtain ⟨c, _, hc⟩ := List.mem_flatMap.1 hb; exact codeOf_le c b hc, h3, hT⟩ ?_
    clear h0 h3 h4 hT hat hlen
    rintro m t S' ⟨l, τ, rfl, hpad, hlen, hle, h3, hT⟩
    have hat := hT.at
    have e8 : Int.tmod (l.length : Int) 8 = ((l.length % 8 : Nat) : Int) := tmod_nat l.length 8
    refine wpV_of hD (fun _ => false) (fun _ => []) (by kernel_rfl) ?_
    simp (implicitDefEqProofs := false) (disch := omega) only [push_cast, h3, hat, e8, ↓guardK_tt, ↓guardK_ff, ↓guardK_tf, ↓guardK_ft, ↓condK_t, ↓condK_f, ↓reduceIte, Nat.reduceEqDiff, reduceCtorEq, Nat.reduceAdd, Nat.reduceSub, Nat.reduceMul, Nat.reduceLT, Nat.reduceLeDiff, Int.reduceToNat, Int.reduceLE, Int.reduceLT, Int.reduceEq, Int.reduceNe, Int.reduceAdd, Int.reduceSub, Nat.reduceBEq, Option.some.injEq]
    refine ⟨fun h => ⟨by omega, (8 - (l.length + 1) % 8) % 8, by omega, l ++ [1], S'.length + 1, by simp, ?_, by simp; omega, ?_, by simp [iV], hT.step1 _⟩, fun h => ?_⟩
    · rw [pad8_step (by omega), hpad]
    · intro b hb
      rcases List.mem_append.1 hb with g | g
      · exact hle b g
      · rw [List.mem_singleton.1 g]; exact Nat.le_refl _
    · rw [pad8_done (by omega)] at hpad
      have hl8 : l.length % 8 = 0 := by omega
      clear e8 hat
      refine wpV_loop (fun m t S' => ∃ (i : Nat) (o : List UInt8), m = l.length - i ∧ i ≤ l.length ∧ i % 8 = 0 ∧ o.length ≤ i ∧ o ++ bytes8 (l.drop i) = bytes8 l ∧ t 3 = .rows (some τ) (l.map iV) ∧ t 6 = .str o ∧ t 7 = .int .i64 i ∧ Tok S S' τ 1) l.length
        ⟨0, [], by omega, by omega, rfl, by simp, by simp, h3, rfl, rfl, hT⟩ ?_
      clear hT h3
      rintro m t S' ⟨i, o, rfl, hi, hi8, ho, hob, h3, h6, h7, hT⟩
      refine wpV_of hD (fun _ => false) (fun _ => []) (by kernel_rfl) ?_
      simp (implicitDefEqProofs := false) (disch := omega) only [push_cast, h3, h6, h7, ↓guardK_tt, ↓guardK_ff, ↓guardK_tf, ↓guardK_ft, ↓condK_t, ↓condK_f, ↓reduceIte, Nat.reduceEqDiff, reduceCtorEq, Nat.reduceAdd, Nat.reduceSub, Nat.reduceMul, Nat.reduceLT, Nat.reduceLeDiff, Int.reduceToNat, Int.reduceLE, Int.reduceLT, Int.reduceEq, Int.reduceNe, Int.reduceAdd, Int.reduceSub, Nat.reduceBEq, Option.some.injEq]
      refine ⟨fun g => ⟨by omega, by omega, by omega, ?_⟩, fun g => hT.fin (.str _) ?_⟩
      · have ech : List.drop i (List.take ((i : Int) + 8).toNat (l.map iV)) = ((l.drop i).take 8).map iV := by
          rw [show ((i : Int) + 8).toNat = i + 8 by omega, List.drop_take, Nat.add_sub_cancel_left, List.map_take, List.map_drop]
        rw [ech]
        refine (l2Num_ok ((l.drop i).take 8) (by simp; omega) (fun b hb => hle b (List.mem_of_mem_drop (List.mem_of_mem_take hb))) S').to ?_
        simp (implicitDefEqProofs := false) (disch := omega) only [push_cast, h3, h6, h7, ↓guardK_tt, ↓guardK_ff, ↓guardK_tf, ↓guardK_ft, ↓condK_t, ↓condK_f, ↓reduceIte, Nat.reduceEqDiff, reduceCtorEq, Nat.reduceAdd, Nat.reduceSub, Nat.reduceMul, Nat.reduceLT, Nat.reduceLeDiff, Int.reduceToNat, Int.reduceLE, Int.reduceLT, Int.reduceEq, Int.reduceNe, Int.reduceAdd, Int.reduceSub, Nat.reduceBEq, Option.some.injEq]
        refine (l1Byte_ok (numOf ((l.drop i).take 8)) S').to ?_
        simp (implicitDefEqProofs := false) (disch := omega) only [push_cast, h3, h6, h7, ↓guardK_tt, ↓guardK_ff, ↓guardK_tf, ↓guardK_ft, ↓condK_t, ↓condK_f, ↓reduceIte, Nat.reduceEqDiff, reduceCtorEq, Nat.reduceAdd, Nat.reduceSub, Nat.reduceMul, Nat.reduceLT, Nat.reduceLeDiff, Int.reduceToNat, Int.reduceLE, Int.reduceLT, Int.reduceEq, Int.reduceNe, Int.reduceAdd, Int.reduceSub, Nat.reduceBEq, Option.some.injEq]
        refine ⟨by omega, l.length - (i + 8), by omega, i + 8, o ++ [by8 (numOf ((l.drop i).take 8))], rfl, by omega, by omega, by simp; omega, ?_, by simp, by simp, hT⟩
        rw [← hob, bytes8_step (l := l.drop i) (by simp; omega)]
        simp [List.drop_drop]
      · have : i = l.length := by omega
        subst this
        rw [List.drop_length, bytes8_end (by simp)] at hob
        rw [pack, ← hpad, ← hob]
        simp

end Go.Proofs.Ytblbaniokmgjgaa
