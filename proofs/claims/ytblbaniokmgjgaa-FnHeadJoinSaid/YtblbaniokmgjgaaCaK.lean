/- Contracts: fields, tables and heads that are drawn. -/
import Derived.Test.YtblbaniokmgjgaaCaJ
namespace Go.Proofs.Ytblbaniokmgjgaa
open Go
set_option linter.unusedVariables false
set_option linter.unusedSimpArgs false

section
variable {S : List Blk} {b : Nat}
theorem stA (h : b < S.length) (l : List Blk) (B : Blk) : (S ++ l).set b B = S.set b B ++ l := List.set_append_left _ _ h
theorem stB (h : b < S.length) (B1 : Blk) (l : List Blk) (B : Blk) : (S.set b B1 ++ l).set b B = S.set b B ++ l := by
  rw [List.set_append_left _ _ (by simpa using h), List.set_set]
theorem stC (h : b < S.length) (B1 : Blk) (l : List Blk) : (S.set b B1 ++ l)[b]? = some B1 := by
  rw [List.getElem?_append_left (by simpa using h), List.getElem?_set_self h]
@[push_cast] theorem stD (B1 : Blk) (l : List Blk) (B : Blk) : (S.set b B1 ++ l).set S.length B = S.set b B1 ++ l.set 0 B := by
  rw [List.set_append_right _ _ (by simp)]; simp
@[push_cast] theorem stE (B1 : Blk) (l : List Blk) (n : Nat) (B : Blk) : (S.set b B1 ++ l).set (S.length + n) B = S.set b B1 ++ l.set n B := by
  rw [List.set_append_right _ _ (by simp)]; simp
@[push_cast] theorem stF (B1 : Blk) (l : List Blk) : (S.set b B1 ++ l)[S.length]? = l[0]? := by
  rw [List.getElem?_append_right (by simp)]; simp
@[push_cast] theorem stG (B1 : Blk) (l : List Blk) (n : Nat) : (S.set b B1 ++ l)[S.length + n]? = l[n]? := by
  rw [List.getElem?_append_right (by simp)]; simp
@[push_cast] theorem stH (B1 : Blk) : (S.set b B1).length = S.length := List.length_set ..
end

theorem rd_lt {S : List Blk} {b : Nat} {B : Blk} (h : S[b]? = some B) : b < S.length := by
  rcases Nat.lt_or_ge b S.length with g | g
  · exact g
  · rw [List.getElem?_eq_none g] at h; cases h

theorem rd_cl (bs : List UInt8) (P n : Nat) : ∀ v ∈ [V.rows none (bs.map u8V), .int .i64 (P : Int)], Cl n v := by
  intro v hv
  simp only [List.mem_cons, List.not_mem_nil, or_false] at hv
  rcases hv with rfl | rfl
  · refine Cl.rows' (fun x hx => ?_)
    obtain ⟨y, _, rfl⟩ := List.mem_map.1 hx
    exact .int _ _
  · exact .int _ _
theorem finS {S X : List Blk} {b P : Nat} {bs : List UInt8} {v : V} (hc : Cl S.length v) : Wk S v (S.set b (Rd bs P) ++ X) v (S.set b (Rd bs P)) := Wk.set hc (rd_cl bs P _)
theorem cl_fV (n : Nat) (f : Fd) : Cl n (fV f) := by
  refine .agg ?_
  simp only [List.mem_cons, List.not_mem_nil, or_false, forall_eq_or_imp, forall_eq]
  exact ⟨.str _, .str _, .bool _⟩

def names8 : List (List UInt8) := [[58, 112, 97, 116, 104], [58, 115, 116, 97, 116, 117, 115], [107, 105, 110, 100], [115, 105, 122, 101], [116, 101], [97], [98], [107, 101, 121]]
def vals9 : List (List UInt8) := [[], [48], [49, 50], [116, 101, 120, 116], [116, 114, 97, 105, 108, 101, 114, 115], [47, 101, 99, 104, 111], [120], [121, 49], [97, 98, 99]]
def bad3 : List (List UInt8) := [[], [65], [97, 97, 97, 97, 97, 97, 97, 97, 97, 97, 97, 97, 97, 97, 97, 97, 97]]

/-- A small field. -/
def FdS (f : Fd) : Prop := f.name.length ≤ 100 ∧ f.val.length ≤ 100
theorem FdS.b {f : Fd} (h : FdS f) : FdB f := ⟨by have := h.1; omega, by have := h.2; omega⟩

theorem l71Field_ok (bs : List UInt8) (b p : Nat) (hp : p ≤ 10000000) (hbs : bs.length ≤ 2000) (S : List Blk) (hS : S[b]? = some (Rd bs p)) :
    VCall Try.prog 60 [.ptr b 0] S fun r S' => (∃ f : Fd, FdS f ∧ r = fV f) ∧ ∃ p', p' ≤ p + 200 ∧ S' = S.set b (Rd bs p') := by
  have hbl := rd_lt hS
  have hSb : ∀ l, (S ++ l)[b]? = some (Rd bs p) := fun l => by rw [List.getElem?_append_left hbl]; exact hS
  refine VCall.of_ev hD (fun _ => false) (fun _ => []) (n := 29) Try.func60 rfl rfl Try.ntmps60 (by kernel_rfl) (by kernel_rfl) (congrArg Array.toList Try.results60) (by simp) ?_
  simp (implicitDefEqProofs := false) (disch := omega) only [push_cast, stA hbl, stB hbl, ↓guardK_tt, ↓guardK_ff, ↓guardK_tf, ↓guardK_ft, ↓condK_t, ↓condK_f, ↓reduceIte, Nat.reduceEqDiff, reduceCtorEq, Nat.reduceAdd, Nat.reduceSub, Nat.reduceMul, Nat.reduceLT, Nat.reduceLeDiff, Int.reduceToNat, Int.reduceLE, Int.reduceLT, Int.reduceEq, Int.reduceNe, Int.reduceAdd, Int.reduceSub, Nat.reduceBEq, Option.some.injEq]
  refine ((of_ok bs b p names8 (by decide) (by omega) hbs _ (hSb _)).as rfl).mono ?_
  rintro r S1 ⟨⟨s1, hs1, rfl⟩, rfl⟩
  simp (implicitDefEqProofs := false) (disch := omega) only [push_cast, stA hbl, stB hbl, ↓guardK_tt, ↓guardK_ff, ↓guardK_tf, ↓guardK_ft, ↓condK_t, ↓condK_f, ↓reduceIte, Nat.reduceEqDiff, reduceCtorEq, Nat.reduceAdd, Nat.reduceSub, Nat.reduceMul, Nat.reduceLT, Nat.reduceLeDiff, Int.reduceToNat, Int.reduceLE, Int.reduceLT, Int.reduceEq, Int.reduceNe, Int.reduceAdd, Int.reduceSub, Nat.reduceBEq, Option.some.injEq]
  refine ((of_ok bs b (p + 1) vals9 (by decide) (by omega) hbs _ (stC hbl _ _)).as rfl).mono ?_
  rintro r S1 ⟨⟨s2, hs2, rfl⟩, rfl⟩
  have hl1 : s1.length ≤ 100 := by revert s1; decide
  have hl2 : s2.length ≤ 100 := by revert s2; decide
  simp (implicitDefEqProofs := false) (disch := omega) only [push_cast, stA hbl, stB hbl, ↓guardK_tt, ↓guardK_ff, ↓guardK_tf, ↓guardK_ft, ↓condK_t, ↓condK_f, ↓reduceIte, Nat.reduceEqDiff, reduceCtorEq, Nat.reduceAdd, Nat.reduceSub, Nat.reduceMul, Nat.reduceLT, Nat.reduceLeDiff, Int.reduceToNat, Int.reduceLE, Int.reduceLT, Int.reduceEq, Int.reduceNe, Int.reduceAdd, Int.reduceSub, Nat.reduceBEq, Option.some.injEq]
  refine (pickI bs b (p + 2) 8 _ (by simp) (by omega) (by omega) hbs _ (stC hbl _ _)).mono ?_
  rintro r S1 ⟨⟨q1, hq1, rfl⟩, rfl⟩
  simp (implicitDefEqProofs := false) (disch := omega) only [push_cast, stA hbl, stB hbl, ↓guardK_tt, ↓guardK_ff, ↓guardK_tf, ↓guardK_ft, ↓condK_t, ↓condK_f, ↓reduceIte, Nat.reduceEqDiff, reduceCtorEq, Nat.reduceAdd, Nat.reduceSub, Nat.reduceMul, Nat.reduceLT, Nat.reduceLeDiff, Int.reduceToNat, Int.reduceLE, Int.reduceLT, Int.reduceEq, Int.reduceNe, Int.reduceAdd, Int.reduceSub, Nat.reduceBEq, Option.some.injEq]
  refine (pickI bs b (p + 3) 24 _ (by simp) (by omega) (by omega) hbs _ (stC hbl _ _)).mono ?_
  rintro r S1 ⟨⟨q2, hq2, rfl⟩, rfl⟩
  simp (implicitDefEqProofs := false) (disch := omega) only [push_cast, stA hbl, stB hbl, ↓guardK_tt, ↓guardK_ff, ↓guardK_tf, ↓guardK_ft, ↓condK_t, ↓condK_f, ↓reduceIte, Nat.reduceEqDiff, reduceCtorEq, Nat.reduceAdd, Nat.reduceSub, Nat.reduceMul, Nat.reduceLT, Nat.reduceLeDiff, Int.reduceToNat, Int.reduceLE, Int.reduceLT, Int.reduceEq, Int.reduceNe, Int.reduceAdd, Int.reduceSub, Nat.reduceBEq, Option.some.injEq]
  have hend : ∀ (f : Fd) (P : Nat) (X : List Blk), FdS f → P ≤ p + 200 → ∃ r S2, Wk S (fV f) (S.set b (Rd bs P) ++ X) r S2 ∧ (∃ f : Fd, FdS f ∧ r = fV f) ∧ ∃ p', p' ≤ p + 200 ∧ S2 = S.set b (Rd bs p') :=
    fun f P X hf hP => ⟨_, _, finS (cl_fV _ f), ⟨f, hf, rfl⟩, P, hP, rfl⟩
  refine ⟨fun g => ?_, fun g => ⟨fun g2 => ?_, fun g2 => hend ⟨s1, s2, decide ((q1 : Int) = 0)⟩ _ _ ⟨hl1, hl2⟩ (by omega)⟩⟩
  · refine ((of_ok bs b (p + 4) bad3 (by decide) (by omega) hbs _ (stC hbl _ _)).as rfl).mono ?_
    rintro r S1 ⟨⟨s3, hs3, rfl⟩, rfl⟩
    have hl3 : s3.length ≤ 100 := by revert s3; decide
    simp (implicitDefEqProofs := false) (disch := omega) only [push_cast, stA hbl, stB hbl, ↓guardK_tt, ↓guardK_ff, ↓guardK_tf, ↓guardK_ft, ↓condK_t, ↓condK_f, ↓reduceIte, Nat.reduceEqDiff, reduceCtorEq, Nat.reduceAdd, Nat.reduceSub, Nat.reduceMul, Nat.reduceLT, Nat.reduceLeDiff, Int.reduceToNat, Int.reduceLE, Int.reduceLT, Int.reduceEq, Int.reduceNe, Int.reduceAdd, Int.reduceSub, Nat.reduceBEq, Option.some.injEq]
    exact hend ⟨s3, s2, decide ((q1 : Int) = 0)⟩ _ _ ⟨hl3, hl2⟩ (by omega)
  · refine (l71Word_ok bs b (p + 4) (by omega) hbs _ (stC hbl _ _)).mono ?_
    rintro r S1 ⟨⟨s3, hs3, rfl⟩, p2, hp2, rfl⟩
    simp (implicitDefEqProofs := false) (disch := omega) only [push_cast, stA hbl, stB hbl, ↓guardK_tt, ↓guardK_ff, ↓guardK_tf, ↓guardK_ft, ↓condK_t, ↓condK_f, ↓reduceIte, Nat.reduceEqDiff, reduceCtorEq, Nat.reduceAdd, Nat.reduceSub, Nat.reduceMul, Nat.reduceLT, Nat.reduceLeDiff, Int.reduceToNat, Int.reduceLE, Int.reduceLT, Int.reduceEq, Int.reduceNe, Int.reduceAdd, Int.reduceSub, Nat.reduceBEq, Option.some.injEq]
    exact hend ⟨s1, s3, decide ((q1 : Int) = 0)⟩ _ _ ⟨hl1, hs3⟩ (by omega)

theorem l71Head_ok (bs : List UInt8) (b p : Nat) (hp : p ≤ 1000000) (hbs : bs.length ≤ 2000) (S : List Blk) (hS : S[b]? = some (Rd bs p)) :
    VCall Try.prog 36 [.ptr b 0] S fun r S' => (∃ l : List Fd, l.length ≤ 12 ∧ (∀ f ∈ l, FdS f) ∧ r = .rows none (l.map fV)) ∧ ∃ p', p' ≤ p + 5000 ∧ S' = S.set b (Rd bs p') := by
  have hbl := rd_lt hS
  have hSb : ∀ l, (S ++ l)[b]? = some (Rd bs p) := fun l => by rw [List.getElem?_append_left hbl]; exact hS
  refine VCall.of_ev hD (fun _ => false) (fun _ => []) (n := 28) Try.func36 rfl rfl Try.ntmps36 (by kernel_rfl) (by kernel_rfl) (congrArg Array.toList Try.results36) (by simp) ?_
  simp (implicitDefEqProofs := false) (disch := omega) only [push_cast, stA hbl, stB hbl, ↓guardK_tt, ↓guardK_ff, ↓guardK_tf, ↓guardK_ft, ↓condK_t, ↓condK_f, ↓reduceIte, Nat.reduceEqDiff, reduceCtorEq, Nat.reduceAdd, Nat.reduceSub, Nat.reduceMul, Nat.reduceLT, Nat.reduceLeDiff, Int.reduceToNat, Int.reduceLE, Int.reduceLT, Int.reduceEq, Int.reduceNe, Int.reduceAdd, Int.reduceSub, Nat.reduceBEq, Option.some.injEq]
  refine (pickI bs b p 6 _ (by simp) (by omega) (by omega) hbs _ (hSb _)).mono ?_
  rintro r S1 ⟨⟨q1, hq1, rfl⟩, rfl⟩
  simp (implicitDefEqProofs := false) (disch := omega) only [push_cast, stA hbl, stB hbl, ↓guardK_tt, ↓guardK_ff, ↓guardK_tf, ↓guardK_ft, ↓condK_t, ↓condK_f, ↓reduceIte, Nat.reduceEqDiff, reduceCtorEq, Nat.reduceAdd, Nat.reduceSub, Nat.reduceMul, Nat.reduceLT, Nat.reduceLeDiff, Int.reduceToNat, Int.reduceLE, Int.reduceLT, Int.reduceEq, Int.reduceNe, Int.reduceAdd, Int.reduceSub, Nat.reduceBEq, Option.some.injEq]
  refine wpV_loop (fun m t S' => ∃ (l : List Fd) (P τ : Nat) (X : List Blk), m ≤ 6 ∧ l.length + m ≤ 6 ∧ (∀ f ∈ l, FdS f) ∧ P + m * 300 ≤ p + 2000 ∧ t 0 = .ptr b 0 ∧ t 3 = .rows (some (S.length + τ)) (l.map fV) ∧ t 4 = .int .i64 m ∧ X[τ]? = some (.right 3) ∧ S' = S.set b (Rd bs P) ++ X) q1 ⟨[], p + 1, 0, [.right 3], by omega, by simp; omega, by simp, by omega, rfl, rfl, rfl, rfl, rfl⟩ ?_
  rintro m t S' ⟨l, P, τ, X, hm, hlm, hl, hP, h0, h3, h4, hX, rfl⟩
  refine wpV_of hD (fun _ => false) (fun _ => []) (by kernel_rfl) ?_
  have hXl : τ < X.length := rd_lt hX
  have hX2 : ∀ Y, (X ++ Y)[τ]? = some (.right 3) := fun Y => by rw [List.getElem?_append_left hXl]; exact hX
  by_cases h : 0 < m
  · have h' : (m : Int) > 0 := by omega
    simp (implicitDefEqProofs := false) (disch := omega) only [push_cast, stA hbl, stB hbl, h0, h3, h4, h', ↓guardK_tt, ↓guardK_ff, ↓guardK_tf, ↓guardK_ft, ↓condK_t, ↓condK_f, ↓reduceIte, Nat.reduceEqDiff, reduceCtorEq, Nat.reduceAdd, Nat.reduceSub, Nat.reduceMul, Nat.reduceLT, Nat.reduceLeDiff, Int.reduceToNat, Int.reduceLE, Int.reduceLT, Int.reduceEq, Int.reduceNe, Int.reduceAdd, Int.reduceSub, Nat.reduceBEq, Option.some.injEq]
    refine (l71Field_ok bs b P (by omega) hbs _ (stC hbl _ _)).mono ?_
    rintro r S1 ⟨⟨f, hf, rfl⟩, p2, hp2, rfl⟩
    simp (implicitDefEqProofs := false) (disch := omega) only [push_cast, stA hbl, stB hbl, h0, h3, h4, hX2, ↓guardK_tt, ↓guardK_ff, ↓guardK_tf, ↓guardK_ft, ↓condK_t, ↓condK_f, ↓reduceIte, Nat.reduceEqDiff, reduceCtorEq, Nat.reduceAdd, Nat.reduceSub, Nat.reduceMul, Nat.reduceLT, Nat.reduceLeDiff, Int.reduceToNat, Int.reduceLE, Int.reduceLT, Int.reduceEq, Int.reduceNe, Int.reduceAdd, Int.reduceSub, Nat.reduceBEq, Option.some.injEq]
    refine ⟨by omega, m - 1, by omega, l ++ [f], p2, X.length + 1, _, by omega, by rw [List.length_append]; simp; omega, fun g hg => ?_, by omega, by rw [List.map_append]; rfl, by congr 1; omega, ?_, rfl⟩
    · rcases List.mem_append.1 hg with g1 | g1
      · exact hl g g1
      · rw [List.mem_singleton.1 g1]; exact hf
    · rw [List.getElem?_append_right (by simp)]; simp
  · have : m = 0 := by omega
    subst this
    have hend : ∀ (l : List Fd) (P : Nat) (X : List Blk) (tok : Option Nat), l.length ≤ 12 → (∀ f ∈ l, FdS f) → P ≤ p + 5000 → ∃ r S2, Wk S (.rows tok (l.map fV)) (S.set b (Rd bs P) ++ X) r S2 ∧ (∃ l : List Fd, l.length ≤ 12 ∧ (∀ f ∈ l, FdS f) ∧ r = .rows none (l.map fV)) ∧ ∃ p', p' ≤ p + 5000 ∧ S2 = S.set b (Rd bs p') :=
      fun l P X tok h1 h2 hP => ⟨_, _, (Wk.eraseT _ _ _).trans (finS (cl_fds _ l)), ⟨l, h1, h2, rfl⟩, P, hP, rfl⟩
    simp (implicitDefEqProofs := false) (disch := omega) only [push_cast, stA hbl, stB hbl, h0, h3, h4, ↓guardK_tt, ↓guardK_ff, ↓guardK_tf, ↓guardK_ft, ↓condK_t, ↓condK_f, ↓reduceIte, Nat.reduceEqDiff, reduceCtorEq, Nat.reduceAdd, Nat.reduceSub, Nat.reduceMul, Nat.reduceLT, Nat.reduceLeDiff, Int.reduceToNat, Int.reduceLE, Int.reduceLT, Int.reduceEq, Int.reduceNe, Int.reduceAdd, Int.reduceSub, Nat.reduceBEq, Option.some.injEq]
    refine (pickI bs b P 24 _ (by simp) (by omega) (by omega) hbs _ (stC hbl _ _)).mono ?_
    rintro r S1 ⟨⟨q2, hq2, rfl⟩, rfl⟩
    simp (implicitDefEqProofs := false) (disch := omega) only [push_cast, stA hbl, stB hbl, h0, h3, h4, ↓guardK_tt, ↓guardK_ff, ↓guardK_tf, ↓guardK_ft, ↓condK_t, ↓condK_f, ↓reduceIte, Nat.reduceEqDiff, reduceCtorEq, Nat.reduceAdd, Nat.reduceSub, Nat.reduceMul, Nat.reduceLT, Nat.reduceLeDiff, Int.reduceToNat, Int.reduceLE, Int.reduceLT, Int.reduceEq, Int.reduceNe, Int.reduceAdd, Int.reduceSub, Nat.reduceBEq, Option.some.injEq]
    refine ⟨fun g => ?_, fun g => hend l _ _ _ (by omega) hl (by omega)⟩
    refine wpV_loop (fun m t S' => ∃ (l : List Fd) (τ : Nat) (X : List Blk), m = 7 - l.length ∧ l.length ≤ 7 ∧ (∀ f ∈ l, FdS f) ∧ t 3 = .rows (some (S.length + τ)) (l.map fV) ∧ X[τ]? = some (.right 3) ∧ S' = S.set b (Rd bs (P + 1)) ++ X) (7 - l.length) ⟨l, τ, X, rfl, by omega, hl, by simpa [putT] using h3, hX, rfl⟩ ?_
    clear h0 h3 h4 hX hX2 hXl hl hlm
    rintro m t S' ⟨l, τ, X, rfl, hlm, hl, h3, hX, rfl⟩
    have hXl : τ < X.length := rd_lt hX
    have hX2 : ∀ Y, (X ++ Y)[τ]? = some (.right 3) := fun Y => by rw [List.getElem?_append_left hXl]; exact hX
    refine wpV_of hD (fun _ => false) (fun _ => []) (by kernel_rfl) ?_
    simp (implicitDefEqProofs := false) (disch := omega) only [push_cast, stA hbl, stB hbl, h3, hX2, ↓guardK_tt, ↓guardK_ff, ↓guardK_tf, ↓guardK_ft, ↓condK_t, ↓condK_f, ↓reduceIte, Nat.reduceEqDiff, reduceCtorEq, Nat.reduceAdd, Nat.reduceSub, Nat.reduceMul, Nat.reduceLT, Nat.reduceLeDiff, Int.reduceToNat, Int.reduceLE, Int.reduceLT, Int.reduceEq, Int.reduceNe, Int.reduceAdd, Int.reduceSub, Nat.reduceBEq, Option.some.injEq]
    refine ⟨fun g => ⟨by omega, 7 - (l.length + 1), by omega, l ++ [⟨[116, 101], [], false⟩], X.length + 1, _, by simp, by rw [List.length_append]; simp; omega, fun g hg => ?_, by rw [List.map_append]; rfl, ?_, rfl⟩, fun g => hend l _ _ _ (by omega) hl (by omega)⟩
    · rcases List.mem_append.1 hg with g1 | g1
      · exact hl g g1
      · rw [List.mem_singleton.1 g1]; exact ⟨by decide, by decide⟩
    · rw [List.getElem?_append_right (by simp)]; simp

section
variable {Z : List Blk} {c : Blk}
theorem z33 (h : 3 < Z.length) (B : Blk) : (Z.set 3 B)[3]? = some B := List.getElem?_set_self h
theorem z30 (h : Z[0]? = some c) (B : Blk) : (Z.set 3 B)[0]? = some c := by rw [List.getElem?_set_ne (by decide)]; exact h
theorem z00 (h : 3 < Z.length) (B : Blk) : (Z.set 0 B)[0]? = some B := List.getElem?_set_self (by omega)
theorem z300 (h : 3 < Z.length) (B C : Blk) : ((Z.set 3 B).set 0 C)[0]? = some C := List.getElem?_set_self (by simp; omega)
end

theorem l71Table_ok (bs : List UInt8) (b p : Nat) (hp : p ≤ 1000000) (hbs : bs.length ≤ 2000) (S : List Blk) (hS : S[b]? = some (Rd bs p)) :
    VCall Try.prog 34 [.ptr b 0] S fun r S' => (∃ (l : List Fd) (max : Int), l.length ≤ 20 ∧ (∀ f ∈ l, FdS f) ∧ -1 ≤ max ∧ max ≤ 65 ∧ r = tV l max) ∧ ∃ p', p' ≤ p + 10000 ∧ S' = S.set b (Rd bs p') := by
  have hbl := rd_lt hS
  have hSb : ∀ l, (S ++ l)[b]? = some (Rd bs p) := fun l => by rw [List.getElem?_append_left hbl]; exact hS
  refine VCall.of_ev hD (fun _ => false) (fun id => if id = 12 then [9, 9, 3, 5, 5, 7, 7, 8, 9, 11, 11, 12] else []) (n := 50) Try.func34 rfl rfl Try.ntmps34 (by kernel_rfl) (by kernel_rfl) (congrArg Array.toList Try.results34) (by simp) ?_
  simp (implicitDefEqProofs := false) (disch := omega) only [push_cast, stA hbl, stB hbl, ↓guardK_tt, ↓guardK_ff, ↓guardK_tf, ↓guardK_ft, ↓condK_t, ↓condK_f, ↓reduceIte, Nat.reduceEqDiff, reduceCtorEq, Nat.reduceAdd, Nat.reduceSub, Nat.reduceMul, Nat.reduceLT, Nat.reduceLeDiff, Int.reduceToNat, Int.reduceLE, Int.reduceLT, Int.reduceEq, Int.reduceNe, Int.reduceAdd, Int.reduceSub, Nat.reduceBEq, Option.some.injEq]
  refine (pickI bs b p 5 _ (by simp) (by omega) (by omega) hbs _ (hSb _)).mono ?_
  rintro r S1 ⟨⟨q1, hq1, rfl⟩, rfl⟩
  obtain ⟨mx, hmx0, hmx1, hgd⟩ : ∃ mx : Int, 0 ≤ mx ∧ mx ≤ 64 ∧ [V.int .i64 64, V.int .i64 64, V.int .i64 40, V.int .i64 20, V.int .i64 0].getD q1 .junk = .int .i64 mx := by
    rcases (by omega : q1 = 0 ∨ q1 = 1 ∨ q1 = 2 ∨ q1 = 3 ∨ q1 = 4) with rfl | rfl | rfl | rfl | rfl
    · exact ⟨64, by decide, by decide, rfl⟩
    · exact ⟨64, by decide, by decide, rfl⟩
    · exact ⟨40, by decide, by decide, rfl⟩
    · exact ⟨20, by decide, by decide, rfl⟩
    · exact ⟨0, by decide, by decide, rfl⟩
  simp (implicitDefEqProofs := false) (disch := omega) only [push_cast, stA hbl, stB hbl, hgd, ↓guardK_tt, ↓guardK_ff, ↓guardK_tf, ↓guardK_ft, ↓condK_t, ↓condK_f, ↓reduceIte, Nat.reduceEqDiff, reduceCtorEq, Nat.reduceAdd, Nat.reduceSub, Nat.reduceMul, Nat.reduceLT, Nat.reduceLeDiff, Int.reduceToNat, Int.reduceLE, Int.reduceLT, Int.reduceEq, Int.reduceNe, Int.reduceAdd, Int.reduceSub, Nat.reduceBEq, Option.some.injEq]
  refine ⟨by omega, by omega, ?_⟩
  refine (pickI bs b (p + 1) 7 _ (by simp) (by omega) (by omega) hbs _ (stC hbl _ _)).mono ?_
  rintro r S1 ⟨⟨q2, hq2, rfl⟩, rfl⟩
  simp (implicitDefEqProofs := false) (disch := omega) only [push_cast, stA hbl, stB hbl, ↓guardK_tt, ↓guardK_ff, ↓guardK_tf, ↓guardK_ft, ↓condK_t, ↓condK_f, ↓reduceIte, Nat.reduceEqDiff, reduceCtorEq, Nat.reduceAdd, Nat.reduceSub, Nat.reduceMul, Nat.reduceLT, Nat.reduceLeDiff, Int.reduceToNat, Int.reduceLE, Int.reduceLT, Int.reduceEq, Int.reduceNe, Int.reduceAdd, Int.reduceSub, Nat.reduceBEq, Option.some.injEq]
  refine wpV_loop (fun m t S' => ∃ (l : List Fd) (P τ : Nat) (X : List Blk), m ≤ 7 ∧ l.length + m ≤ 7 ∧ (∀ f ∈ l, FdS f) ∧ P + m * 300 ≤ p + 3000 ∧ t 0 = .ptr b 0 ∧ t 2 = .ptr S.length 0 ∧ t 3 = .ptr (S.length + 3) 0 ∧ t 4 = .int .i64 m ∧ X[τ]? = some (.right 3) ∧ X[0]? = some (.cells 0 [.nils, .int .i64 0]) ∧ X[3]? = some (.cells 0 [.rows (some (S.length + τ)) (l.map fV), .int .i64 mx]) ∧ S' = S.set b (Rd bs P) ++ X) q2 ⟨[], p + 2, 1, _, by omega, by simp; omega, by simp, by omega, rfl, rfl, rfl, rfl, ?_, ?_, ?_, rfl⟩ ?_
  · rfl
  · rfl
  · rfl
  rintro m t S' ⟨l, P, τ, X, hm, hlm, hl, hP, h0, h2, h3, h4, hX, hX0, hX3, rfl⟩
  have hXl : 3 < X.length := rd_lt hX3
  have hX2 : ∀ Y, (X ++ Y)[3]? = some (.cells 0 [.rows (some (S.length + τ)) (l.map fV), .int .i64 mx]) := fun Y => by rw [List.getElem?_append_left hXl]; exact hX3
  have hX1 : ∀ Y, (X ++ Y)[τ]? = some (.right 3) := fun Y => by rw [List.getElem?_append_left (rd_lt hX)]; exact hX
  have ht3 : τ ≠ 3 := fun e => by rw [e, hX3] at hX; cases hX
  have ht0 : τ ≠ 0 := fun e => by rw [e, hX0] at hX; cases hX
  have hlb : FdsB l := ⟨by omega, fun f hf => (hl f hf).b⟩
  refine wpV_of hD (fun _ => false) (fun id => if id = 12 then [9, 9, 3, 5, 5, 7, 7, 8, 9, 11, 11, 12] else []) (by kernel_rfl) ?_
  by_cases h : 0 < m
  · have h' : (m : Int) > 0 := by omega
    simp (implicitDefEqProofs := false) (disch := omega) only [push_cast, stA hbl, stB hbl, h0, h2, h3, h4, h', ↓guardK_tt, ↓guardK_ff, ↓guardK_tf, ↓guardK_ft, ↓condK_t, ↓condK_f, ↓reduceIte, Nat.reduceEqDiff, reduceCtorEq, Nat.reduceAdd, Nat.reduceSub, Nat.reduceMul, Nat.reduceLT, Nat.reduceLeDiff, Int.reduceToNat, Int.reduceLE, Int.reduceLT, Int.reduceEq, Int.reduceNe, Int.reduceAdd, Int.reduceSub, Nat.reduceBEq, Option.some.injEq]
    refine (l71Field_ok bs b P (by omega) hbs _ (stC hbl _ _)).mono ?_
    rintro r S1 ⟨⟨f, hf, rfl⟩, p2, hp2, rfl⟩
    simp (implicitDefEqProofs := false) (disch := omega) only [push_cast, stA hbl, stB hbl, h0, h2, h3, h4, hX3, hX2, ↓guardK_tt, ↓guardK_ff, ↓guardK_tf, ↓guardK_ft, ↓condK_t, ↓condK_f, ↓reduceIte, Nat.reduceEqDiff, reduceCtorEq, Nat.reduceAdd, Nat.reduceSub, Nat.reduceMul, Nat.reduceLT, Nat.reduceLeDiff, Int.reduceToNat, Int.reduceLE, Int.reduceLT, Int.reduceEq, Int.reduceNe, Int.reduceAdd, Int.reduceSub, Nat.reduceBEq, Option.some.injEq]
    refine ((sFieldOk_ok f hf.b _).as rfl).to ?_
    cases hok : fieldOk f
    · simp (implicitDefEqProofs := false) (disch := omega) only [push_cast, stA hbl, stB hbl, h0, h2, h3, h4, hX3, hX2, ↓guardK_tt, ↓guardK_ff, ↓guardK_tf, ↓guardK_ft, ↓condK_t, ↓condK_f, ↓reduceIte, Nat.reduceEqDiff, reduceCtorEq, Nat.reduceAdd, Nat.reduceSub, Nat.reduceMul, Nat.reduceLT, Nat.reduceLeDiff, Int.reduceToNat, Int.reduceLE, Int.reduceLT, Int.reduceEq, Int.reduceNe, Int.reduceAdd, Int.reduceSub, Nat.reduceBEq, Option.some.injEq]
      exact ⟨m - 1, by omega, l, p2, τ, _, by omega, by omega, hl, by omega, by congr 1; omega, hX1 _, by rw [List.getElem?_append_left (by omega)]; exact hX0, hX2 _, rfl⟩
    · simp (implicitDefEqProofs := false) (disch := omega) only [push_cast, stA hbl, stB hbl, h0, h2, h3, h4, hX3, hX2, ↓guardK_tt, ↓guardK_ff, ↓guardK_tf, ↓guardK_ft, ↓condK_t, ↓condK_f, ↓reduceIte, Nat.reduceEqDiff, reduceCtorEq, Nat.reduceAdd, Nat.reduceSub, Nat.reduceMul, Nat.reduceLT, Nat.reduceLeDiff, Int.reduceToNat, Int.reduceLE, Int.reduceLT, Int.reduceEq, Int.reduceNe, Int.reduceAdd, Int.reduceSub, Nat.reduceBEq, Option.some.injEq]
      refine ((l3Add_ok l mx f hlb hf.b (by omega) hmx0 _).as rfl).to ?_
      simp (implicitDefEqProofs := false) (disch := omega) only [push_cast, stA hbl, stB hbl, h0, h2, h3, h4, hX3, hX2, ↓guardK_tt, ↓guardK_ff, ↓guardK_tf, ↓guardK_ft, ↓condK_t, ↓condK_f, ↓reduceIte, Nat.reduceEqDiff, reduceCtorEq, Nat.reduceAdd, Nat.reduceSub, Nat.reduceMul, Nat.reduceLT, Nat.reduceLeDiff, Int.reduceToNat, Int.reduceLE, Int.reduceLT, Int.reduceEq, Int.reduceNe, Int.reduceAdd, Int.reduceSub, Nat.reduceBEq, Option.some.injEq]
      have hsub := fitL_sub (⟨f.name, f.val, false⟩ :: l) mx
      have hlen := hsub.2
      simp only [List.length_cons] at hlen
      refine ⟨m - 1, by omega, fitL (⟨f.name, f.val, false⟩ :: l) mx, p2, X.length + 1, _, by omega, by omega, fun g hg => ?_, by omega, by congr 1; omega, ?_, ?_, ?_, rfl⟩
      · rcases List.mem_cons.1 (hsub.1 g hg) with rfl | g1
        · exact hf
        · exact hl g g1
      · rw [List.getElem?_set_ne (by omega), List.getElem?_append_right (by omega), Nat.add_sub_cancel_left]; rfl
      · rw [List.getElem?_set_ne (by omega), List.getElem?_append_left (by omega)]; exact hX0
      · rw [List.getElem?_set_self (by simp; omega)]
  · have : m = 0 := by omega
    subst this
    have hend : ∀ (l : List Fd) (max : Int) (P : Nat) (X : List Blk) (tok : Option Nat), l.length ≤ 20 → (∀ f ∈ l, FdS f) → -1 ≤ max → max ≤ 65 → P ≤ p + 10000 → ∃ r S2, Wk S (.agg [.rows tok (l.map fV), .int .i64 max]) (S.set b (Rd bs P) ++ X) r S2 ∧ (∃ (l : List Fd) (max : Int), l.length ≤ 20 ∧ (∀ f ∈ l, FdS f) ∧ -1 ≤ max ∧ max ≤ 65 ∧ r = tV l max) ∧ ∃ p', p' ≤ p + 10000 ∧ S2 = S.set b (Rd bs p') :=
      fun l max P X tok h1 h2 h3 h4 hP => ⟨_, _, (Wk.eraseT _ _ _).trans (finS (cl_tab _ l max)), ⟨l, max, h1, h2, h3, h4, rfl⟩, P, hP, rfl⟩
    have hX4 : ∀ Y, (X ++ Y)[0]? = some (.cells 0 [.nils, .int .i64 0]) := fun Y => by rw [List.getElem?_append_left (by omega)]; exact hX0
    have hl1 : ∀ Y, 3 < (X ++ Y).length := fun Y => by rw [List.length_append]; omega
    simp (implicitDefEqProofs := false) (disch := omega) only [push_cast, stA hbl, stB hbl, h0, h2, h3, h4, ↓guardK_tt, ↓guardK_ff, ↓guardK_tf, ↓guardK_ft, ↓condK_t, ↓condK_f, ↓reduceIte, Nat.reduceEqDiff, reduceCtorEq, Nat.reduceAdd, Nat.reduceSub, Nat.reduceMul, Nat.reduceLT, Nat.reduceLeDiff, Int.reduceToNat, Int.reduceLE, Int.reduceLT, Int.reduceEq, Int.reduceNe, Int.reduceAdd, Int.reduceSub, Nat.reduceBEq, Option.some.injEq]
    refine (pickI bs b P 24 _ (by simp) (by omega) (by omega) hbs _ (stC hbl _ _)).mono ?_
    rintro r S1 ⟨⟨q3, hq3, rfl⟩, rfl⟩
    simp (implicitDefEqProofs := false) (disch := omega) only [push_cast, stA hbl, stB hbl, h0, h2, h3, h4, hX3, hX2, hX0, ↓guardK_tt, ↓guardK_ff, ↓guardK_tf, ↓guardK_ft, ↓condK_t, ↓condK_f, ↓reduceIte, Nat.reduceEqDiff, reduceCtorEq, Nat.reduceAdd, Nat.reduceSub, Nat.reduceMul, Nat.reduceLT, Nat.reduceLeDiff, Int.reduceToNat, Int.reduceLE, Int.reduceLT, Int.reduceEq, Int.reduceNe, Int.reduceAdd, Int.reduceSub, Nat.reduceBEq, Option.some.injEq]
    refine ⟨fun g => ?_, fun g => ⟨fun g2 => ?_, fun g2 => ?_⟩⟩
    · refine (pickI bs b (P + 1) 3 _ (by simp) (by omega) (by omega) hbs _ (stC hbl _ _)).mono ?_
      rintro r S1 ⟨⟨q4, hq4, rfl⟩, rfl⟩
      obtain ⟨my, hmy0, hmy1, hgd2⟩ : ∃ my : Int, -1 ≤ my ∧ my ≤ 65 ∧ [V.int .i64 (-1), V.int .i64 65, V.int .i64 3].getD q4 .junk = .int .i64 my := by
        rcases (by omega : q4 = 0 ∨ q4 = 1 ∨ q4 = 2) with rfl | rfl | rfl
        · exact ⟨-1, by decide, by decide, rfl⟩
        · exact ⟨65, by decide, by decide, rfl⟩
        · exact ⟨3, by decide, by decide, rfl⟩
      simp (implicitDefEqProofs := false) (disch := omega) only [push_cast, stA hbl, stB hbl, h0, h2, h3, h4, hX3, hX2, hX4, z33 (hl1 _), z30 (hX4 _), z00 (hl1 _), z300 (hl1 _), hgd2, ↓guardK_tt, ↓guardK_ff, ↓guardK_tf, ↓guardK_ft, ↓condK_t, ↓condK_f, ↓reduceIte, Nat.reduceEqDiff, reduceCtorEq, Nat.reduceAdd, Nat.reduceSub, Nat.reduceMul, Nat.reduceLT, Nat.reduceLeDiff, Int.reduceToNat, Int.reduceLE, Int.reduceLT, Int.reduceEq, Int.reduceNe, Int.reduceAdd, Int.reduceSub, Nat.reduceBEq, Option.some.injEq]
      exact ⟨by omega, by omega, hend l my _ _ _ (by omega) hl hmy0 hmy1 (by omega)⟩
    · refine (l71Field_ok bs b (P + 1) (by omega) hbs _ (stC hbl _ _)).mono ?_
      rintro r S1 ⟨⟨f1, hf1, rfl⟩, p1, hp1, rfl⟩
      simp (implicitDefEqProofs := false) (disch := omega) only [push_cast, stA hbl, stB hbl, h0, h2, h3, h4, hX3, hX2, hX0, ↓guardK_tt, ↓guardK_ff, ↓guardK_tf, ↓guardK_ft, ↓condK_t, ↓condK_f, ↓reduceIte, Nat.reduceEqDiff, reduceCtorEq, Nat.reduceAdd, Nat.reduceSub, Nat.reduceMul, Nat.reduceLT, Nat.reduceLeDiff, Int.reduceToNat, Int.reduceLE, Int.reduceLT, Int.reduceEq, Int.reduceNe, Int.reduceAdd, Int.reduceSub, Nat.reduceBEq, Option.some.injEq]
      refine (l71Field_ok bs b p1 (by omega) hbs _ (stC hbl _ _)).mono ?_
      rintro r S1 ⟨⟨f2, hf2, rfl⟩, p2, hp2, rfl⟩
      simp (implicitDefEqProofs := false) (disch := omega) only [push_cast, stA hbl, stB hbl, h0, h2, h3, h4, hX3, hX2, hX0, ↓guardK_tt, ↓guardK_ff, ↓guardK_tf, ↓guardK_ft, ↓condK_t, ↓condK_f, ↓reduceIte, Nat.reduceEqDiff, reduceCtorEq, Nat.reduceAdd, Nat.reduceSub, Nat.reduceMul, Nat.reduceLT, Nat.reduceLeDiff, Int.reduceToNat, Int.reduceLE, Int.reduceLT, Int.reduceEq, Int.reduceNe, Int.reduceAdd, Int.reduceSub, Nat.reduceBEq, Option.some.injEq]
      refine (l71Field_ok bs b p2 (by omega) hbs _ (stC hbl _ _)).mono ?_
      rintro r S1 ⟨⟨f3, hf3, rfl⟩, p3, hp3, rfl⟩
      simp (implicitDefEqProofs := false) (disch := omega) only [push_cast, stA hbl, stB hbl, h0, h2, h3, h4, hX3, hX2, hX0, hX1, ↓guardK_tt, ↓guardK_ff, ↓guardK_tf, ↓guardK_ft, ↓condK_t, ↓condK_f, ↓reduceIte, Nat.reduceEqDiff, reduceCtorEq, Nat.reduceAdd, Nat.reduceSub, Nat.reduceMul, Nat.reduceLT, Nat.reduceLeDiff, Int.reduceToNat, Int.reduceLE, Int.reduceLT, Int.reduceEq, Int.reduceNe, Int.reduceAdd, Int.reduceSub, Nat.reduceBEq, Option.some.injEq]
      refine ⟨by omega, ?_⟩
      have hZ3 : ((X ++ [Blk.right 3]).set τ Blk.dead ++ [Blk.right 3])[3]? = some (.cells 0 [.rows (some (S.length + τ)) (l.map fV), .int .i64 mx]) := by
        rw [List.getElem?_append_left (by simp; omega), List.getElem?_set_ne (by omega)]; exact hX2 _
      have hZ0 : ((X ++ [Blk.right 3]).set τ Blk.dead ++ [Blk.right 3])[0]? = some (.cells 0 [.nils, .int .i64 0]) := by
        rw [List.getElem?_append_left (by simp), List.getElem?_set_ne (by omega)]; exact hX4 _
      generalize (X ++ [Blk.right 3]).set τ Blk.dead ++ [Blk.right 3] = Z at hZ3 hZ0
      have hZl : 3 < Z.length := rd_lt hZ3
      simp (implicitDefEqProofs := false) (disch := omega) only [push_cast, stA hbl, stB hbl, h0, h2, h3, h4, hZ3, hZ0, z33 hZl, z30 hZ0, z00 hZl, z300 hZl, ↓guardK_tt, ↓guardK_ff, ↓guardK_tf, ↓guardK_ft, ↓condK_t, ↓condK_f, ↓reduceIte, Nat.reduceEqDiff, reduceCtorEq, Nat.reduceAdd, Nat.reduceSub, Nat.reduceMul, Nat.reduceLT, Nat.reduceLeDiff, Int.reduceToNat, Int.reduceLE, Int.reduceLT, Int.reduceEq, Int.reduceNe, Int.reduceAdd, Int.reduceSub, Nat.reduceBEq, Option.some.injEq]
      have e : List.map fV l ++ [V.agg [V.str f1.name, V.str f1.val, V.bool f1.never], V.agg [V.str f2.name, V.str f2.val, V.bool f2.never], V.agg [V.str f3.name, V.str f3.val, V.bool f3.never]] = List.map fV (l ++ [f1, f2, f3]) := by rw [List.map_append]; rfl
      rw [e]
      refine hend (l ++ [f1, f2, f3]) mx _ _ _ (by rw [List.length_append]; simp; omega) (fun g hg => ?_) (by omega) (by omega) (by omega)
      rcases List.mem_append.1 hg with g1 | g1
      · exact hl g g1
      · simp only [List.mem_cons, List.not_mem_nil, or_false] at g1
        rcases g1 with rfl | rfl | rfl
        · exact hf1
        · exact hf2
        · exact hf3
    · simp (implicitDefEqProofs := false) (disch := omega) only [push_cast, stA hbl, stB hbl, h0, h2, h3, h4, hX3, hX2, hX0, z00 hXl, ↓guardK_tt, ↓guardK_ff, ↓guardK_tf, ↓guardK_ft, ↓condK_t, ↓condK_f, ↓reduceIte, Nat.reduceEqDiff, reduceCtorEq, Nat.reduceAdd, Nat.reduceSub, Nat.reduceMul, Nat.reduceLT, Nat.reduceLeDiff, Int.reduceToNat, Int.reduceLE, Int.reduceLT, Int.reduceEq, Int.reduceNe, Int.reduceAdd, Int.reduceSub, Nat.reduceBEq, Option.some.injEq]
      exact hend l mx _ _ _ (by omega) hl (by omega) (by omega) (by omega)

theorem DrawHeadWrite_ok (code : List UInt8) (hc : code.length ≤ 1073741824) (S : List Blk) :
    VCall Try.prog 23 [.rows none (code.map u8V)] S fun r S' => (∃ (l h : List Fd) (max : Int), l.length ≤ 20 ∧ (∀ f ∈ l, FdS f) ∧ h.length ≤ 12 ∧ (∀ f ∈ h, FdS f) ∧ -1 ≤ max ∧ max ≤ 65 ∧ r = .tup [tV l max, .rows none (h.map fV)]) ∧ S' = S := by
  refine VCall.of_ev hD (fun _ => false) (fun _ => []) (n := 11) Try.func23 rfl rfl Try.ntmps23 (by kernel_rfl) (by kernel_rfl) (congrArg Array.toList Try.results23) (by simp) ?_
  simp (implicitDefEqProofs := false) (disch := omega) only [push_cast, ↓guardK_tt, ↓guardK_ff, ↓guardK_tf, ↓guardK_ft, ↓condK_t, ↓condK_f, ↓reduceIte, Nat.reduceEqDiff, reduceCtorEq, Nat.reduceAdd, Nat.reduceSub, Nat.reduceMul, Nat.reduceLT, Nat.reduceLeDiff, Int.reduceToNat, Int.reduceLE, Int.reduceLT, Int.reduceEq, Int.reduceNe, Int.reduceAdd, Int.reduceSub, Nat.reduceBEq, Option.some.injEq]
  refine (l6Open_ok code hc _).to ?_
  simp (implicitDefEqProofs := false) (disch := omega) only [push_cast, ↓guardK_tt, ↓guardK_ff, ↓guardK_tf, ↓guardK_ft, ↓condK_t, ↓condK_f, ↓reduceIte, Nat.reduceEqDiff, reduceCtorEq, Nat.reduceAdd, Nat.reduceSub, Nat.reduceMul, Nat.reduceLT, Nat.reduceLeDiff, Int.reduceToNat, Int.reduceLE, Int.reduceLT, Int.reduceEq, Int.reduceNe, Int.reduceAdd, Int.reduceSub, Nat.reduceBEq, Option.some.injEq]
  have hbs : (code.take 2000).length ≤ 2000 := by simp; omega
  refine ((l71Table_ok (code.take 2000) (S.length + 1) 0 (by omega) hbs _ (by simp)).as (by simp)).mono ?_
  rintro r S1 ⟨⟨l, max, hl1, hl2, hm1, hm2, rfl⟩, p1, hp1, rfl⟩
  simp (implicitDefEqProofs := false) (disch := omega) only [push_cast, ↓guardK_tt, ↓guardK_ff, ↓guardK_tf, ↓guardK_ft, ↓condK_t, ↓condK_f, ↓reduceIte, Nat.reduceEqDiff, reduceCtorEq, Nat.reduceAdd, Nat.reduceSub, Nat.reduceMul, Nat.reduceLT, Nat.reduceLeDiff, Int.reduceToNat, Int.reduceLE, Int.reduceLT, Int.reduceEq, Int.reduceNe, Int.reduceAdd, Int.reduceSub, Nat.reduceBEq, Option.some.injEq]
  refine ((l71Head_ok (code.take 2000) (S.length + 1) p1 (by omega) hbs _ (by simp)).as (by simp)).mono ?_
  rintro r S1 ⟨⟨h, hh1, hh2, rfl⟩, p2, hp2, rfl⟩
  simp (implicitDefEqProofs := false) (disch := omega) only [push_cast, ↓guardK_tt, ↓guardK_ff, ↓guardK_tf, ↓guardK_ft, ↓condK_t, ↓condK_f, ↓reduceIte, Nat.reduceEqDiff, reduceCtorEq, Nat.reduceAdd, Nat.reduceSub, Nat.reduceMul, Nat.reduceLT, Nat.reduceLeDiff, Int.reduceToNat, Int.reduceLE, Int.reduceLT, Int.reduceEq, Int.reduceNe, Int.reduceAdd, Int.reduceSub, Nat.reduceBEq, Option.some.injEq]
  exact ⟨_, _, Wk.pure (Cl.two (cl_tab _ _ _) (cl_fds _ _)), ⟨l, h, max, hl1, hl2, hh1, hh2, hm1, hm2, rfl⟩, rfl⟩

end Go.Proofs.Ytblbaniokmgjgaa
