/- Contracts: what is drawn lies within bounds. -/
import Derived.Test.YtblbaniokmgjgaaCaI
namespace Go.Proofs.Ytblbaniokmgjgaa
open Go
set_option linter.unusedVariables false
set_option linter.unusedSimpArgs false

/-- A reader of bytes. -/
def Rd (bs : List UInt8) (p : Nat) : Blk := .cells 0 [.rows none (bs.map u8V), .int .i64 p]
theorem Rd_eq (bs : List UInt8) (p : Nat) : Rd bs p = .cells 0 [.rows none (bs.map u8V), .int .i64 p] := rfl

theorem l6Open_ok (code : List UInt8) (hc : code.length ≤ 1073741824) (S : List Blk) : VCall Try.prog 33 [.rows none (code.map u8V)] S fun r S' => r = .ptr S.length 0 ∧ S' = S ++ [Rd (code.take 2000) 0] := by
  refine VCall.of_ev hD (fun _ => false) (fun _ => []) (n := 11) Try.func33 rfl rfl Try.ntmps33 (by kernel_rfl) (by kernel_rfl) (congrArg Array.toList Try.results33) (by simp) ?_
  simp (implicitDefEqProofs := false) (disch := omega) only [push_cast, ↓guardK_tt, ↓guardK_ff, ↓guardK_tf, ↓guardK_ft, ↓condK_t, ↓condK_f, ↓reduceIte, Nat.reduceEqDiff, reduceCtorEq, Nat.reduceAdd, Nat.reduceSub, Nat.reduceMul, Nat.reduceLT, Nat.reduceLeDiff, Int.reduceToNat, Int.reduceLE, Int.reduceLT, Int.reduceEq, Int.reduceNe, Int.reduceAdd, Int.reduceSub, Nat.reduceBEq, Option.some.injEq]
  refine ⟨fun h => ?_, fun h => ?_⟩
  · have e : List.take 2000 (List.map u8V code) = (code.take 2000).map u8V := by rw [List.map_take]
    refine ⟨by omega, ?_⟩
    rw [e]
    exact ⟨_, _, Wk.refl _ _ _, rfl, rfl⟩
  · rw [List.take_of_length_le (by omega)]
    exact ⟨_, _, Wk.refl _ _ _, rfl, rfl⟩

theorem xor_nat {x y : Nat} (hx : x < 2 ^ 62) (hy : y < 2 ^ 62) : intBits .xor .i64 (x : Int) (y : Int) = ((x ^^^ y : Nat) : Int) := by
  have h : x ^^^ y < 2 ^ 62 := Nat.xor_lt_two_pow hx hy
  simp only [intBits]
  rw [show IntKind.i64.bits = 64 from rfl, BitVec.toNat_xor, bv64 hx, bv64 hy]
  exact i64_fit _ (by omega)

theorem getD_u8 {l : List UInt8} {i : Nat} (h : i < l.length) : (l.map u8V).getD i .junk = u8V (l.getD i 0) := by
  simp [List.getD, List.getElem?_eq_getElem h]
theorem u8V_eq (c : UInt8) : u8V c = .int .u8 (c.toNat : Int) := rfl

set_option maxRecDepth 100000 in
theorem pick_ok (bs : List UInt8) (b p n : Nat) (hp : p ≤ 1000000000) (hn : 1 ≤ n ∧ n ≤ 1000000) (hbs : bs.length ≤ 2000) (S : List Blk) (hS : S[b]? = some (Rd bs p)) :
    VCall Try.prog 37 [.ptr b 0, .int .i64 n] S fun r S' => (∃ q : Nat, q < n ∧ r = .int .i64 q) ∧ S' = S.set b (Rd bs (p + 1)) := by
  have hbl : b < S.length := by
    rcases Nat.lt_or_ge b S.length with g | g
    · exact g
    · rw [List.getElem?_eq_none g] at hS; cases hS
  have hS2 : ∀ B, (S.set b B)[b]? = some B := fun B => List.getElem?_set_self hbl
  have hfin : ∀ q : Nat, q < n → ∃ r S2, Wk S (.int .i64 q) (S.set b (.cells 0 [.rows none (bs.map u8V), .int .i64 ((p : Int) + 1)])) r S2 ∧ (∃ q : Nat, q < n ∧ r = .int .i64 q) ∧ S2 = S.set b (Rd bs (p + 1)) :=
    fun q hq => ⟨_, _, Wk.refl _ _ _, ⟨q, hq, rfl⟩, rfl⟩
  rw [Rd_eq] at hS
  have hn1 : ¬ ((n : Int) < 1) := by omega
  have ep : (p : Int) + 1 - 1 = p := by omega
  have hn0 : ¬ (n : Int) = 0 := by omega
  refine VCall.of_ev hD (fun _ => false) (fun id => if id = 7 then [46, 46, 46, 46, 46, 46, 46, 46, 46, 46, 46, 46, 46, 46, 46, 46, 46, 46, 46, 46, 46, 46, 46, 46, 46, 46, 46, 46, 46, 46, 46, 46, 46, 46, 46, 46, 46, 46, 46, 46, 46, 46, 46, 46, 46, 46] else []) (n := 99) Try.func37 rfl rfl Try.ntmps37 (by kernel_rfl) (by kernel_rfl) (congrArg Array.toList Try.results37) (by simp) ?_
  by_cases h0 : bs.length = 0
  · have h0' : (bs.length : Int) = 0 := by omega
    simp (implicitDefEqProofs := false) (disch := omega) only [push_cast, Rd_eq, hS, hS2, hn1, h0', ↓guardK_tt, ↓guardK_ff, ↓guardK_tf, ↓guardK_ft, ↓condK_t, ↓condK_f, ↓reduceIte, Nat.reduceEqDiff, reduceCtorEq, Nat.reduceAdd, Nat.reduceSub, Nat.reduceMul, Nat.reduceLT, Nat.reduceLeDiff, Int.reduceToNat, Int.reduceLE, Int.reduceLT, Int.reduceEq, Int.reduceNe, Int.reduceAdd, Int.reduceSub, Nat.reduceBEq, Option.some.injEq]
    exact hfin 0 (by omega)
  have h0' : ¬ (bs.length : Int) = 0 := by omega
  by_cases hk : p < bs.length
  · have hk' : (p : Int) < bs.length := by omega
    have hgd := getD_u8 hk
    rw [u8V_eq] at hgd
    have ht : Int.tmod ((bs.getD p 0).toNat : Int) (n : Int) = (((bs.getD p 0).toNat % n : Nat) : Int) := tmod_nat _ _
    have hlt := Nat.mod_lt (bs.getD p 0).toNat (show 0 < n by omega)
    simp (implicitDefEqProofs := false) (disch := omega) only [push_cast, Rd_eq, hS, hS2, hn1, h0', ep, hk', hgd, ht, hn0, ↓guardK_tt, ↓guardK_ff, ↓guardK_tf, ↓guardK_ft, ↓condK_t, ↓condK_f, ↓reduceIte, Nat.reduceEqDiff, reduceCtorEq, Nat.reduceAdd, Nat.reduceSub, Nat.reduceMul, Nat.reduceLT, Nat.reduceLeDiff, Int.reduceToNat, Int.reduceLE, Int.reduceLT, Int.reduceEq, Int.reduceNe, Int.reduceAdd, Int.reduceSub, Nat.reduceBEq, Option.some.injEq]
    refine ⟨by omega, ?_⟩
    have hb256 := (bs.getD p 0).toNat_lt
    rw [i64_fit _ (by omega), ht]
    exact hfin _ hlt
  · have hk' : ¬ (p : Int) < bs.length := by omega
    have l1 := Nat.mod_lt p (show 0 < bs.length by omega)
    have l2 := Nat.mod_lt (p * 7 + 3) (show 0 < bs.length by omega)
    have m1 : Int.tmod (p : Int) (bs.length : Int) = ((p % bs.length : Nat) : Int) := tmod_nat _ _
    have m2 : Int.tmod ((p : Int) * 7 + 3) (bs.length : Int) = (((p * 7 + 3) % bs.length : Nat) : Int) := by rw [← tmod_nat]; simp
    have m3 : Int.tdiv (p : Int) (bs.length : Int) = ((p / bs.length : Nat) : Int) := tdiv_nat _ _
    have l3 : p / bs.length ≤ p := Nat.div_le_self _ _
    generalize p % bs.length = i1 at l1 m1
    generalize (p * 7 + 3) % bs.length = i2 at l2 m2
    generalize p / bs.length = i3 at l3 m3
    have g1 := getD_u8 l1
    have g2 := getD_u8 l2
    rw [u8V_eq] at g1 g2
    have b1 := (bs.getD i1 0).toNat_lt
    have b2 := (bs.getD i2 0).toNat_lt
    generalize (bs.getD i1 0).toNat = c1 at g1 b1
    generalize (bs.getD i2 0).toNat = c2 at g2 b2
    have w1 : IntKind.i64.wrap (c1 : Int) = c1 := i64_fit _ (by omega)
    have w2 : IntKind.i64.wrap (c2 : Int) = c2 := i64_fit _ (by omega)
    have wm : IntKind.i64.wrap (i3 : Int) = i3 := i64_fit _ (by omega)
    have d1 : (0 : Int) ≤ i1 := by omega
    have d2 : (i1 : Int) < bs.length := by omega
    have d3 : (0 : Int) ≤ i2 := by omega
    have d4 : (i2 : Int) < bs.length := by omega
    simp (implicitDefEqProofs := false) (disch := omega) only [push_cast, Rd_eq, hS, hS2, hn1, h0', ep, hk', g1, g2, m1, m2, m3, hn0, w1, w2, wm, d1, d2, d3, d4, ↓guardK_tt, ↓guardK_ff, ↓guardK_tf, ↓guardK_ft, ↓condK_t, ↓condK_f, ↓reduceIte, Nat.reduceEqDiff, reduceCtorEq, Nat.reduceAdd, Nat.reduceSub, Nat.reduceMul, Nat.reduceLT, Nat.reduceLeDiff, Int.reduceToNat, Int.reduceLE, Int.reduceLT, Int.reduceEq, Int.reduceNe, Int.reduceAdd, Int.reduceSub, Nat.reduceBEq, Option.some.injEq]
    have hx : ((c1 : Int) * 131 + c2 * 1117 + p * 29 + i3 * 53) = ((c1 * 131 + c2 * 1117 + p * 29 + i3 * 53 : Nat) : Int) := by simp
    rw [hx]
    have hxb : c1 * 131 + c2 * 1117 + p * 29 + i3 * 53 < 2 ^ 60 := by omega
    generalize c1 * 131 + c2 * 1117 + p * 29 + i3 * 53 = x at hxb
    rw [show Int.tdiv (x : Int) 64 = ((x / 64 : Nat) : Int) from tdiv_nat x 64, i64_fit _ (by omega), xor_nat (by omega) (by omega), tmod_nat]
    exact hfin _ (Nat.mod_lt _ (by omega))

/-- A reader at a place of memory, as a draw finds it and as it leaves it. -/
theorem pickI (bs : List UInt8) (b p n : Nat) (m : Int) (hm : m = n) (hp : p ≤ 1000000000) (hn : 1 ≤ n ∧ n ≤ 1000000) (hbs : bs.length ≤ 2000) (S : List Blk) (hS : S[b]? = some (Rd bs p)) :
    VCall Try.prog 37 [.ptr b 0, .int .i64 m] S fun r S' => (∃ q : Nat, q < n ∧ r = .int .i64 q) ∧ S' = S.set b (Rd bs (p + 1)) := by
  subst hm
  exact pick_ok bs b p n hp hn hbs S hS

@[push_cast] theorem set_setB (S : List Blk) (b : Nat) (B C : Blk) : (S.set b B).set b C = S.set b C := List.set_set ..

def sV (s : List UInt8) : V := .str s
theorem sV_eq (s : List UInt8) : sV s = .str s := rfl
attribute [push_cast] sV_eq
@[push_cast] theorem all_sV_len (l : List (List UInt8)) : (l.map sV).all (lenIs 1) = true := by induction l <;> simp_all [lenIs, sV, V.cells]

theorem of_ok (bs : List UInt8) (b p : Nat) (l : List (List UInt8)) (hl : 1 ≤ l.length ∧ l.length ≤ 1000000) (hp : p ≤ 1000000000) (hbs : bs.length ≤ 2000) (S : List Blk) (hS : S[b]? = some (Rd bs p)) :
    VCall Try.prog 79 [.ptr b 0, .rows none (l.map sV)] S fun r S' => (∃ s ∈ l, r = .str s) ∧ S' = S.set b (Rd bs (p + 1)) := by
  refine VCall.of_ev hD (fun _ => false) (fun _ => []) (n := 12) Try.func79 rfl rfl Try.ntmps79 (by kernel_rfl) (by kernel_rfl) (congrArg Array.toList Try.results79) (by simp) ?_
  simp (implicitDefEqProofs := false) (disch := omega) only [push_cast, ↓guardK_tt, ↓guardK_ff, ↓guardK_tf, ↓guardK_ft, ↓condK_t, ↓condK_f, ↓reduceIte, Nat.reduceEqDiff, reduceCtorEq, Nat.reduceAdd, Nat.reduceSub, Nat.reduceMul, Nat.reduceLT, Nat.reduceLeDiff, Int.reduceToNat, Int.reduceLE, Int.reduceLT, Int.reduceEq, Int.reduceNe, Int.reduceAdd, Int.reduceSub, Nat.reduceBEq, Option.some.injEq]
  refine (pickI bs b p l.length _ (by simp) hp hl hbs S hS).mono ?_
  rintro r S1 ⟨⟨q, hq, rfl⟩, rfl⟩
  have hgd : (l.map sV).getD q .junk = sV (l.getD q []) := by simp [List.getD, List.getElem?_eq_getElem hq]
  simp (implicitDefEqProofs := false) (disch := omega) only [push_cast, hgd, ↓guardK_tt, ↓guardK_ff, ↓guardK_tf, ↓guardK_ft, ↓condK_t, ↓condK_f, ↓reduceIte, Nat.reduceEqDiff, reduceCtorEq, Nat.reduceAdd, Nat.reduceSub, Nat.reduceMul, Nat.reduceLT, Nat.reduceLeDiff, Int.reduceToNat, Int.reduceLE, Int.reduceLT, Int.reduceEq, Int.reduceNe, Int.reduceAdd, Int.reduceSub, Nat.reduceBEq, Option.some.injEq]
  refine ⟨by omega, by omega, ⟨_, _, Wk.refl _ _ _, ⟨l.getD q [], ?_, rfl⟩, rfl⟩⟩
  rw [List.getD, List.getElem?_eq_getElem hq]
  exact List.getElem_mem hq

theorem l6Many_ok (s : List UInt8) (n : Nat) (hn : n * s.length ≤ 1000000) (hn2 : n ≤ 1000000) (S : List Blk) :
    VCall Try.prog 66 [.str s, .int .i64 n] S fun r S' => (∃ o : List UInt8, o.length ≤ n * s.length ∧ r = .str o) ∧ S' = S := by
  refine VCall.of_ev hD (fun _ => false) (fun _ => []) (n := 20) Try.func66 rfl rfl Try.ntmps66 (by kernel_rfl) (by kernel_rfl) (congrArg Array.toList Try.results66) (by simp) ?_
  simp (implicitDefEqProofs := false) (disch := omega) only [push_cast, ↓guardK_tt, ↓guardK_ff, ↓guardK_tf, ↓guardK_ft, ↓condK_t, ↓condK_f, ↓reduceIte, Nat.reduceEqDiff, reduceCtorEq, Nat.reduceAdd, Nat.reduceSub, Nat.reduceMul, Nat.reduceLT, Nat.reduceLeDiff, Int.reduceToNat, Int.reduceLE, Int.reduceLT, Int.reduceEq, Int.reduceNe, Int.reduceAdd, Int.reduceSub, Nat.reduceBEq, Option.some.injEq]
  refine wpV_loop (fun m t S' => ∃ (o z : List UInt8), m ≤ n ∧ o.length + m * z.length ≤ n * s.length ∧ t 0 = .str z ∧ t 1 = .int .i64 m ∧ t 5 = .str o ∧ S' = S) n ⟨[], s, Nat.le_refl _, by simp, rfl, rfl, rfl, rfl⟩ ?_
  rintro m t S' ⟨o, z, hm, hoz, h0, h1, h5, rfl⟩
  refine wpV_of hD (fun _ => false) (fun _ => []) (by kernel_rfl) ?_
  have m1 : Int.tmod (m : Int) 2 = ((m % 2 : Nat) : Int) := tmod_nat m 2
  have m2 : Int.tdiv (m : Int) 2 = ((m / 2 : Nat) : Int) := tdiv_nat m 2
  have m3 : IntKind.i64.wrap ((m / 2 : Nat) : Int) = ((m / 2 : Nat) : Int) := i64_fit _ (by omega)
  generalize hk : n * s.length = k at *
  by_cases h : 0 < m
  · have hz : m * z.length = (m % 2) * z.length + (m / 2) * (z.length + z.length) := by
      rw [← Nat.two_mul, ← Nat.mul_assoc, ← Nat.add_mul, Nat.mul_comm (m / 2) 2, Nat.mod_add_div]
    have hz1 : z.length ≤ m * z.length := Nat.le_mul_of_pos_left _ h
    have h' : (m : Int) > 0 := by omega
    rcases (by omega : m % 2 = 0 ∨ m % 2 = 1) with h2 | h2
    · rw [h2] at m1 hz
      simp (implicitDefEqProofs := false) (disch := omega) only [push_cast, h0, h1, h5, h', m1, m2, m3, ↓guardK_tt, ↓guardK_ff, ↓guardK_tf, ↓guardK_ft, ↓condK_t, ↓condK_f, ↓reduceIte, Nat.reduceEqDiff, reduceCtorEq, Nat.reduceAdd, Nat.reduceSub, Nat.reduceMul, Nat.reduceLT, Nat.reduceLeDiff, Int.reduceToNat, Int.reduceLE, Int.reduceLT, Int.reduceEq, Int.reduceNe, Int.reduceAdd, Int.reduceSub, Nat.reduceBEq, Option.some.injEq]
      exact ⟨by omega, m / 2, by omega, o, z ++ z, by omega, by rw [List.length_append]; omega, rfl, by simp, rfl⟩
    · rw [h2] at m1 hz
      simp (implicitDefEqProofs := false) (disch := omega) only [push_cast, h0, h1, h5, h', m1, m2, m3, ↓guardK_tt, ↓guardK_ff, ↓guardK_tf, ↓guardK_ft, ↓condK_t, ↓condK_f, ↓reduceIte, Nat.reduceEqDiff, reduceCtorEq, Nat.reduceAdd, Nat.reduceSub, Nat.reduceMul, Nat.reduceLT, Nat.reduceLeDiff, Int.reduceToNat, Int.reduceLE, Int.reduceLT, Int.reduceEq, Int.reduceNe, Int.reduceAdd, Int.reduceSub, Nat.reduceBEq, Option.some.injEq]
      exact ⟨by omega, by omega, m / 2, by omega, o ++ z, z ++ z, by omega, by rw [List.length_append, List.length_append]; omega, rfl, by simp, rfl⟩
  · have : m = 0 := by omega
    subst this
    simp (implicitDefEqProofs := false) (disch := omega) only [push_cast, h0, h1, h5, ↓guardK_tt, ↓guardK_ff, ↓guardK_tf, ↓guardK_ft, ↓condK_t, ↓condK_f, ↓reduceIte, Nat.reduceEqDiff, reduceCtorEq, Nat.reduceAdd, Nat.reduceSub, Nat.reduceMul, Nat.reduceLT, Nat.reduceLeDiff, Int.reduceToNat, Int.reduceLE, Int.reduceLT, Int.reduceEq, Int.reduceNe, Int.reduceAdd, Int.reduceSub, Nat.reduceBEq, Option.some.injEq]
    exact ⟨_, _, Wk.refl _ _ _, ⟨o, by omega, rfl⟩, rfl⟩

theorem getSign {q : Nat} (h : q < signs.length) : ∃ c : UInt8, signs.getD q 0 = c := ⟨_, rfl⟩

theorem l71Word_ok (bs : List UInt8) (b p : Nat) (hp : p ≤ 100000000) (hbs : bs.length ≤ 2000) (S : List Blk) (hS : S[b]? = some (Rd bs p)) :
    VCall Try.prog 40 [.ptr b 0] S fun r S' => (∃ s : List UInt8, s.length ≤ 100 ∧ r = .str s) ∧ ∃ p', p' ≤ p + 100 ∧ S' = S.set b (Rd bs p') := by
  have hbl : b < S.length := by
    rcases Nat.lt_or_ge b S.length with g | g
    · exact g
    · rw [List.getElem?_eq_none g] at hS; cases hS
  have hS2 : ∀ B, (S.set b B)[b]? = some B := fun B => List.getElem?_set_self hbl
  refine VCall.of_ev hD (fun _ => false) (fun _ => []) (n := 43) Try.func40 rfl rfl Try.ntmps40 (by kernel_rfl) (by kernel_rfl) (congrArg Array.toList Try.results40) (by simp) ?_
  simp (implicitDefEqProofs := false) (disch := omega) only [push_cast, ↓guardK_tt, ↓guardK_ff, ↓guardK_tf, ↓guardK_ft, ↓condK_t, ↓condK_f, ↓reduceIte, Nat.reduceEqDiff, reduceCtorEq, Nat.reduceAdd, Nat.reduceSub, Nat.reduceMul, Nat.reduceLT, Nat.reduceLeDiff, Int.reduceToNat, Int.reduceLE, Int.reduceLT, Int.reduceEq, Int.reduceNe, Int.reduceAdd, Int.reduceSub, Nat.reduceBEq, Option.some.injEq]
  refine (pickI bs b p 9 _ (by simp) (by omega) (by omega) hbs S hS).mono ?_
  rintro r S1 ⟨⟨q1, hq1, rfl⟩, rfl⟩
  simp (implicitDefEqProofs := false) (disch := omega) only [push_cast, ↓guardK_tt, ↓guardK_ff, ↓guardK_tf, ↓guardK_ft, ↓condK_t, ↓condK_f, ↓reduceIte, Nat.reduceEqDiff, reduceCtorEq, Nat.reduceAdd, Nat.reduceSub, Nat.reduceMul, Nat.reduceLT, Nat.reduceLeDiff, Int.reduceToNat, Int.reduceLE, Int.reduceLT, Int.reduceEq, Int.reduceNe, Int.reduceAdd, Int.reduceSub, Nat.reduceBEq, Option.some.injEq]
  refine (pickI bs b (p + 1) 6 _ (by simp) (by omega) (by omega) hbs _ (hS2 _)).mono ?_
  rintro r S1 ⟨⟨q2, hq2, rfl⟩, rfl⟩
  have m2 : Int.tdiv (q2 : Int) 5 = ((q2 / 5 : Nat) : Int) := tdiv_nat q2 5
  have m3 : IntKind.i64.wrap ((q2 / 5 : Nat) : Int) = ((q2 / 5 : Nat) : Int) := i64_fit _ (by omega)
  have m4 : (q2 / 5 : Nat) ≤ 1 := by omega
  generalize q2 / 5 = q3 at m2 m3 m4
  simp (implicitDefEqProofs := false) (disch := omega) only [push_cast, m2, m3, ↓guardK_tt, ↓guardK_ff, ↓guardK_tf, ↓guardK_ft, ↓condK_t, ↓condK_f, ↓reduceIte, Nat.reduceEqDiff, reduceCtorEq, Nat.reduceAdd, Nat.reduceSub, Nat.reduceMul, Nat.reduceLT, Nat.reduceLeDiff, Int.reduceToNat, Int.reduceLE, Int.reduceLT, Int.reduceEq, Int.reduceNe, Int.reduceAdd, Int.reduceSub, Nat.reduceBEq, Option.some.injEq]
  refine wpV_loop (fun m t S' => ∃ (s : List UInt8) (p' : Nat), m ≤ 16 ∧ s.length + m ≤ 16 ∧ p' + 3 * m ≤ p + 60 ∧ t 0 = .ptr b 0 ∧ t 3 = .str s ∧ t 4 = .int .i64 m ∧ S' = S.set b (Rd bs p')) (q1 + q3 * 8) ⟨[], p + 2, by omega, by simp; omega, by omega, rfl, rfl, by simp [putT], rfl⟩ ?_
  rintro m t S' ⟨s, p', hm, hs, hp', h0, h3, h4, rfl⟩
  refine wpV_of hD (fun _ => false) (fun _ => []) (by kernel_rfl) ?_
  by_cases h : 0 < m
  · have h' : (m : Int) > 0 := by omega
    simp (implicitDefEqProofs := false) (disch := omega) only [push_cast, h0, h3, h4, h', ↓guardK_tt, ↓guardK_ff, ↓guardK_tf, ↓guardK_ft, ↓condK_t, ↓condK_f, ↓reduceIte, Nat.reduceEqDiff, reduceCtorEq, Nat.reduceAdd, Nat.reduceSub, Nat.reduceMul, Nat.reduceLT, Nat.reduceLeDiff, Int.reduceToNat, Int.reduceLE, Int.reduceLT, Int.reduceEq, Int.reduceNe, Int.reduceAdd, Int.reduceSub, Nat.reduceBEq, Option.some.injEq]
    refine (pickI bs b p' 24 _ (by simp) (by omega) (by omega) hbs _ (hS2 _)).mono ?_
    rintro r S1 ⟨⟨q4, hq4, rfl⟩, rfl⟩
    simp (implicitDefEqProofs := false) (disch := omega) only [push_cast, h0, h3, h4, h', ↓guardK_tt, ↓guardK_ff, ↓guardK_tf, ↓guardK_ft, ↓condK_t, ↓condK_f, ↓reduceIte, Nat.reduceEqDiff, reduceCtorEq, Nat.reduceAdd, Nat.reduceSub, Nat.reduceMul, Nat.reduceLT, Nat.reduceLeDiff, Int.reduceToNat, Int.reduceLE, Int.reduceLT, Int.reduceEq, Int.reduceNe, Int.reduceAdd, Int.reduceSub, Nat.reduceBEq, Option.some.injEq]
    refine (pickI bs b (p' + 1) 4 _ (by simp) (by omega) (by omega) hbs _ (hS2 _)).mono ?_
    rintro r S1 ⟨⟨q5, hq5, rfl⟩, rfl⟩
    simp (implicitDefEqProofs := false) (disch := omega) only [push_cast, h0, h3, h4, h', ↓guardK_tt, ↓guardK_ff, ↓guardK_tf, ↓guardK_ft, ↓condK_t, ↓condK_f, ↓reduceIte, Nat.reduceEqDiff, reduceCtorEq, Nat.reduceAdd, Nat.reduceSub, Nat.reduceMul, Nat.reduceLT, Nat.reduceLeDiff, Int.reduceToNat, Int.reduceLE, Int.reduceLT, Int.reduceEq, Int.reduceNe, Int.reduceAdd, Int.reduceSub, Nat.reduceBEq, Option.some.injEq]
    have hnx : ∀ (c : UInt8) (P : Nat), P ≤ p' + 3 → ∃ m', m' < m ∧ ∃ (s_1 : List UInt8) (p'_1 : Nat), m' ≤ 16 ∧ s_1.length + m' ≤ 16 ∧ p'_1 + 3 * m' ≤ p + 60 ∧ V.str (s ++ [c]) = V.str s_1 ∧ V.int IntKind.i64 ((m : Int) - 1) = V.int IntKind.i64 m' ∧ S.set b (Rd bs P) = S.set b (Rd bs p'_1) :=
      fun c P hP => ⟨m - 1, by omega, s ++ [c], P, by omega, by rw [List.length_append]; simp; omega, by omega, rfl, by congr 1; omega, rfl⟩
    refine ⟨fun g => ?_, fun g => ?_⟩
    · refine (pickI bs b (p' + 2) 39 _ (by simp) (by omega) (by omega) hbs _ (hS2 _)).mono ?_
      rintro r S1 ⟨⟨q6, hq6, rfl⟩, rfl⟩
      simp (implicitDefEqProofs := false) (disch := omega) only [push_cast, h0, h3, h4, ↓guardK_tt, ↓guardK_ff, ↓guardK_tf, ↓guardK_ft, ↓condK_t, ↓condK_f, ↓reduceIte, Nat.reduceEqDiff, reduceCtorEq, Nat.reduceAdd, Nat.reduceSub, Nat.reduceMul, Nat.reduceLT, Nat.reduceLeDiff, Int.reduceToNat, Int.reduceLE, Int.reduceLT, Int.reduceEq, Int.reduceNe, Int.reduceAdd, Int.reduceSub, Nat.reduceBEq, Option.some.injEq]
      refine ⟨by omega, by omega, ?_⟩
      generalize (List.getD (α := UInt8) _ q6 0) = c
      have hc := c.toNat_lt
      rw [i64_fit _ (by omega)]
      refine (l1Byte_ok c.toNat _).to ?_
      simp (implicitDefEqProofs := false) (disch := omega) only [push_cast, h0, h3, h4, ↓guardK_tt, ↓guardK_ff, ↓guardK_tf, ↓guardK_ft, ↓condK_t, ↓condK_f, ↓reduceIte, Nat.reduceEqDiff, reduceCtorEq, Nat.reduceAdd, Nat.reduceSub, Nat.reduceMul, Nat.reduceLT, Nat.reduceLeDiff, Int.reduceToNat, Int.reduceLE, Int.reduceLT, Int.reduceEq, Int.reduceNe, Int.reduceAdd, Int.reduceSub, Nat.reduceBEq, Option.some.injEq]
      exact ⟨by omega, hnx _ _ (by omega)⟩
    · skip
      refine ⟨by omega, by omega, ?_⟩
      generalize (List.getD (α := UInt8) _ q4 0) = c
      have hc := c.toNat_lt
      rw [i64_fit _ (by omega)]
      refine (l1Byte_ok c.toNat _).to ?_
      simp (implicitDefEqProofs := false) (disch := omega) only [push_cast, h0, h3, h4, ↓guardK_tt, ↓guardK_ff, ↓guardK_tf, ↓guardK_ft, ↓condK_t, ↓condK_f, ↓reduceIte, Nat.reduceEqDiff, reduceCtorEq, Nat.reduceAdd, Nat.reduceSub, Nat.reduceMul, Nat.reduceLT, Nat.reduceLeDiff, Int.reduceToNat, Int.reduceLE, Int.reduceLT, Int.reduceEq, Int.reduceNe, Int.reduceAdd, Int.reduceSub, Nat.reduceBEq, Option.some.injEq]
      exact ⟨by omega, hnx _ _ (by omega)⟩
  · have : m = 0 := by omega
    subst this
    have hend : ∀ (o : List UInt8) (P : Nat), o.length ≤ 100 → P ≤ p + 100 → ∃ r S2, Wk S (V.str o) (S.set b (Rd bs P)) r S2 ∧ (∃ s : List UInt8, s.length ≤ 100 ∧ r = .str s) ∧ ∃ p', p' ≤ p + 100 ∧ S2 = S.set b (Rd bs p') :=
      fun o P ho hP => ⟨_, _, Wk.refl _ _ _, ⟨o, ho, rfl⟩, P, hP, rfl⟩
    simp (implicitDefEqProofs := false) (disch := omega) only [push_cast, h0, h3, h4, ↓guardK_tt, ↓guardK_ff, ↓guardK_tf, ↓guardK_ft, ↓condK_t, ↓condK_f, ↓reduceIte, Nat.reduceEqDiff, reduceCtorEq, Nat.reduceAdd, Nat.reduceSub, Nat.reduceMul, Nat.reduceLT, Nat.reduceLeDiff, Int.reduceToNat, Int.reduceLE, Int.reduceLT, Int.reduceEq, Int.reduceNe, Int.reduceAdd, Int.reduceSub, Nat.reduceBEq, Option.some.injEq]
    refine (pickI bs b p' 24 _ (by simp) (by omega) (by omega) hbs _ (hS2 _)).mono ?_
    rintro r S1 ⟨⟨q4, hq4, rfl⟩, rfl⟩
    simp (implicitDefEqProofs := false) (disch := omega) only [push_cast, h0, h3, h4, ↓guardK_tt, ↓guardK_ff, ↓guardK_tf, ↓guardK_ft, ↓condK_t, ↓condK_f, ↓reduceIte, Nat.reduceEqDiff, reduceCtorEq, Nat.reduceAdd, Nat.reduceSub, Nat.reduceMul, Nat.reduceLT, Nat.reduceLeDiff, Int.reduceToNat, Int.reduceLE, Int.reduceLT, Int.reduceEq, Int.reduceNe, Int.reduceAdd, Int.reduceSub, Nat.reduceBEq, Option.some.injEq]
    refine ⟨fun g => ⟨by omega, hend _ _ (by simp; omega) (by omega)⟩, fun g => ⟨fun g2 => ?_, fun g2 => hend _ _ (by omega) (by omega)⟩⟩
    refine (pickI bs b (p' + 1) 4 _ (by simp) (by omega) (by omega) hbs _ (hS2 _)).mono ?_
    rintro r S1 ⟨⟨q5, hq5, rfl⟩, rfl⟩
    simp (implicitDefEqProofs := false) (disch := omega) only [push_cast, h0, h3, h4, ↓guardK_tt, ↓guardK_ff, ↓guardK_tf, ↓guardK_ft, ↓condK_t, ↓condK_f, ↓reduceIte, Nat.reduceEqDiff, reduceCtorEq, Nat.reduceAdd, Nat.reduceSub, Nat.reduceMul, Nat.reduceLT, Nat.reduceLeDiff, Int.reduceToNat, Int.reduceLE, Int.reduceLT, Int.reduceEq, Int.reduceNe, Int.reduceAdd, Int.reduceSub, Nat.reduceBEq, Option.some.injEq]
    refine ((l6Many_ok [101] (15 + q5) (by simp; omega) (by omega) _).as (by simp)).mono ?_
    rintro r S1 ⟨⟨o, ho, rfl⟩, rfl⟩
    simp (implicitDefEqProofs := false) (disch := omega) only [push_cast, h0, h3, h4, ↓guardK_tt, ↓guardK_ff, ↓guardK_tf, ↓guardK_ft, ↓condK_t, ↓condK_f, ↓reduceIte, Nat.reduceEqDiff, reduceCtorEq, Nat.reduceAdd, Nat.reduceSub, Nat.reduceMul, Nat.reduceLT, Nat.reduceLeDiff, Int.reduceToNat, Int.reduceLE, Int.reduceLT, Int.reduceEq, Int.reduceNe, Int.reduceAdd, Int.reduceSub, Nat.reduceBEq, Option.some.injEq]
    exact hend _ _ (by simp at ho; omega) (by omega)

end Go.Proofs.Ytblbaniokmgjgaa
