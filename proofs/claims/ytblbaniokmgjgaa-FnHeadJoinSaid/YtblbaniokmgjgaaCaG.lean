/- Contracts: heads that are ok, the fields by their places, where a field is. -/
import Derived.Test.YtblbaniokmgjgaaCaF
namespace Go.Proofs.Ytblbaniokmgjgaa
open Go
set_option linter.unusedVariables false
set_option linter.unusedSimpArgs false

def headOk (h : List Fd) : Bool := h.all fieldOk && decide (h.length ≤ 6)

theorem sHeadOk_ok (l : List Fd) (hl : FdsB l) (S : List Blk) : VCall Try.prog 62 [.rows none (l.map fV)] S fun r S' => r = .bool (headOk l) ∧ S' = S := by
  obtain ⟨hlen, hb⟩ := hl
  refine VCall.of_ev hD (fun _ => false) (fun _ => []) (n := 19) Try.func62 rfl rfl Try.ntmps62 (by kernel_rfl) (by kernel_rfl) (congrArg Array.toList Try.results62) (by simp) ?_
  simp (implicitDefEqProofs := false) (disch := omega) only [push_cast, ↓guardK_tt, ↓guardK_ff, ↓guardK_tf, ↓guardK_ft, ↓condK_t, ↓condK_f, ↓reduceIte, Nat.reduceEqDiff, reduceCtorEq, Nat.reduceAdd, Nat.reduceSub, Nat.reduceMul, Nat.reduceLT, Nat.reduceLeDiff, Int.reduceToNat, Int.reduceLE, Int.reduceLT, Int.reduceEq, Int.reduceNe, Int.reduceAdd, Int.reduceSub, Nat.reduceBEq, Option.some.injEq]
  refine wpV_loop (fun m t S' => ∃ i : Nat, m = l.length - i ∧ i ≤ l.length ∧ (l.take i).all fieldOk = true ∧ t 0 = .rows none (l.map fV) ∧ t 3 = .int .i64 i ∧ S' = S) l.length ⟨0, by omega, by omega, by simp, rfl, rfl, rfl⟩ ?_
  rintro m t S' ⟨i, rfl, hi, hno, h0, h3, rfl⟩
  refine wpV_of hD (fun _ => false) (fun _ => []) (by kernel_rfl) ?_
  simp (implicitDefEqProofs := false) (disch := omega) only [push_cast, h0, h3, ↓guardK_tt, ↓guardK_ff, ↓guardK_tf, ↓guardK_ft, ↓condK_t, ↓condK_f, ↓reduceIte, Nat.reduceEqDiff, reduceCtorEq, Nat.reduceAdd, Nat.reduceSub, Nat.reduceMul, Nat.reduceLT, Nat.reduceLeDiff, Int.reduceToNat, Int.reduceLE, Int.reduceLT, Int.reduceEq, Int.reduceNe, Int.reduceAdd, Int.reduceSub, Nat.reduceBEq, Option.some.injEq]
  refine ⟨fun h => ⟨by omega, by omega, ?_⟩, fun h => ?_⟩
  · have hil : i < l.length := by omega
    have hfb := hb _ (getD_fd_mem hil)
    have hgd := getD_fV hil
    generalize hf : l.getD i fd0 = f at hfb hgd
    simp (implicitDefEqProofs := false) (disch := omega) only [push_cast, h0, h3, hgd, ↓guardK_tt, ↓guardK_ff, ↓guardK_tf, ↓guardK_ft, ↓condK_t, ↓condK_f, ↓reduceIte, Nat.reduceEqDiff, reduceCtorEq, Nat.reduceAdd, Nat.reduceSub, Nat.reduceMul, Nat.reduceLT, Nat.reduceLeDiff, Int.reduceToNat, Int.reduceLE, Int.reduceLT, Int.reduceEq, Int.reduceNe, Int.reduceAdd, Int.reduceSub, Nat.reduceBEq, Option.some.injEq]
    refine (sFieldOk_ok f hfb _).to ?_
    cases hok : fieldOk f
    · simp (implicitDefEqProofs := false) (disch := omega) only [push_cast, h0, h3, ↓guardK_tt, ↓guardK_ff, ↓guardK_tf, ↓guardK_ft, ↓condK_t, ↓condK_f, ↓reduceIte, Nat.reduceEqDiff, reduceCtorEq, Nat.reduceAdd, Nat.reduceSub, Nat.reduceMul, Nat.reduceLT, Nat.reduceLeDiff, Int.reduceToNat, Int.reduceLE, Int.reduceLT, Int.reduceEq, Int.reduceNe, Int.reduceAdd, Int.reduceSub, Nat.reduceBEq, Option.some.injEq]
      exact fin0 (by rw [headOk, all_fd_bad hil (by rw [hf, hok])]; rfl)
    · simp (implicitDefEqProofs := false) (disch := omega) only [push_cast, h0, h3, ↓guardK_tt, ↓guardK_ff, ↓guardK_tf, ↓guardK_ft, ↓condK_t, ↓condK_f, ↓reduceIte, Nat.reduceEqDiff, reduceCtorEq, Nat.reduceAdd, Nat.reduceSub, Nat.reduceMul, Nat.reduceLT, Nat.reduceLeDiff, Int.reduceToNat, Int.reduceLE, Int.reduceLT, Int.reduceEq, Int.reduceNe, Int.reduceAdd, Int.reduceSub, Nat.reduceBEq, Option.some.injEq]
      exact ⟨l.length - (i + 1), by omega, i + 1, rfl, by omega, all_fd_succ hil hno (by rw [hf, hok]), by simp⟩
  · have : i = l.length := by omega
    subst this
    rw [List.take_length] at hno
    refine fin0 ?_
    rw [headOk, hno]
    simp
    omega

theorem HeadOk_ok (l : List Fd) (hl : FdsB l) (S : List Blk) : VCall Try.prog 21 [.rows none (l.map fV)] S fun r S' => r = .bool (headOk l) ∧ S' = S := by
  obtain ⟨hlen, hb⟩ := hl
  refine VCall.of_ev hD (fun _ => false) (fun _ => []) (n := 11) Try.func21 rfl rfl Try.ntmps21 (by kernel_rfl) (by kernel_rfl) (congrArg Array.toList Try.results21) (by simp) ?_
  by_cases h6 : l.length ≤ 6
  · have h6' : (l.length : Int) ≤ 6 := by omega
    simp (implicitDefEqProofs := false) (disch := omega) only [push_cast, h6', ↓guardK_tt, ↓guardK_ff, ↓guardK_tf, ↓guardK_ft, ↓condK_t, ↓condK_f, ↓reduceIte, Nat.reduceEqDiff, reduceCtorEq, Nat.reduceAdd, Nat.reduceSub, Nat.reduceMul, Nat.reduceLT, Nat.reduceLeDiff, Int.reduceToNat, Int.reduceLE, Int.reduceLT, Int.reduceEq, Int.reduceNe, Int.reduceAdd, Int.reduceSub, Nat.reduceBEq, Option.some.injEq]
    refine (ContainsFunc_ok l _ [] _ hlen _ (fun g hg => (headOk1_ok g (hb g hg) _).as rfl)).to ?_
    simp (implicitDefEqProofs := false) (disch := omega) only [push_cast, ↓guardK_tt, ↓guardK_ff, ↓guardK_tf, ↓guardK_ft, ↓condK_t, ↓condK_f, ↓reduceIte, Nat.reduceEqDiff, reduceCtorEq, Nat.reduceAdd, Nat.reduceSub, Nat.reduceMul, Nat.reduceLT, Nat.reduceLeDiff, Int.reduceToNat, Int.reduceLE, Int.reduceLT, Int.reduceEq, Int.reduceNe, Int.reduceAdd, Int.reduceSub, Nat.reduceBEq, Option.some.injEq]
    refine fin0 ?_
    rw [headOk, decide_eq_true h6, List.not_any_eq_all_not]
    simp
  · have h6' : ¬ (l.length : Int) ≤ 6 := by omega
    simp (implicitDefEqProofs := false) (disch := omega) only [push_cast, h6', ↓guardK_tt, ↓guardK_ff, ↓guardK_tf, ↓guardK_ft, ↓condK_t, ↓condK_f, ↓reduceIte, Nat.reduceEqDiff, reduceCtorEq, Nat.reduceAdd, Nat.reduceSub, Nat.reduceMul, Nat.reduceLT, Nat.reduceLeDiff, Int.reduceToNat, Int.reduceLE, Int.reduceLT, Int.reduceEq, Int.reduceNe, Int.reduceAdd, Int.reduceSub, Nat.reduceBEq, Option.some.injEq]
    exact fin0 (by rw [headOk, decide_eq_false h6]; simp)

theorem cl_fds (n : Nat) (l : List Fd) : Cl n (.rows none (l.map fV)) := by
  refine Cl.rows' (fun x hx => ?_)
  obtain ⟨y, _, rfl⟩ := List.mem_map.1 hx
  refine .agg ?_
  simp only [List.mem_cons, List.not_mem_nil, or_false, forall_eq_or_imp, forall_eq]
  exact ⟨.str _, .str _, .bool _⟩
def tV (l : List Fd) (max : Int) : V := .agg [.rows none (l.map fV), .int .i64 max]
theorem Cl.two {n : Nat} {a b : V} (h1 : Cl n a) (h2 : Cl n b) : Cl n (.tup [a, b]) := by
  refine .tup ?_
  simp only [List.mem_cons, List.not_mem_nil, or_false, forall_eq_or_imp, forall_eq]
  exact ⟨h1, h2⟩
theorem Cl.three {n : Nat} {a b c : V} (h1 : Cl n a) (h2 : Cl n b) (h3 : Cl n c) : Cl n (.tup [a, b, c]) := by
  refine .tup ?_
  simp only [List.mem_cons, List.not_mem_nil, or_false, forall_eq_or_imp, forall_eq]
  exact ⟨h1, h2, h3⟩
theorem Cl.four {n : Nat} {a b c d : V} (h1 : Cl n a) (h2 : Cl n b) (h3 : Cl n c) (h4 : Cl n d) : Cl n (.tup [a, b, c, d]) := by
  refine .tup ?_
  simp only [List.mem_cons, List.not_mem_nil, or_false, forall_eq_or_imp, forall_eq]
  exact ⟨h1, h2, h3, h4⟩
theorem cl_fds2 (n : Nat) (l k : List Fd) : Cl n (.rows none (l.map fV ++ k.map fV)) := by
  rw [← List.map_append]; exact cl_fds _ _
theorem tV_eq (l : List Fd) (max : Int) : tV l max = .agg [.rows none (l.map fV), .int .i64 max] := rfl
attribute [push_cast] tV_eq
theorem cl_tab (n : Nat) (l : List Fd) (max : Int) : Cl n (tV l max) := by
  refine .agg ?_
  simp only [List.mem_cons, List.not_mem_nil, or_false, forall_eq_or_imp, forall_eq]
  exact ⟨cl_fds _ _, .int _ _⟩

theorem cloneFields_ok (l : List Fd) (hl : l.length ≤ 4000000) (S : List Blk) : VCall Try.prog 59 [.rows none (l.map fV)] S fun r S' => r = .rows none (l.map fV) ∧ S' = S := by
  refine VCall.of_ev hD (fun _ => false) (fun _ => []) (n := 5) Try.func59 rfl rfl Try.ntmps59 (by kernel_rfl) (by kernel_rfl) (congrArg Array.toList Try.results59) (by simp) ?_
  simp (implicitDefEqProofs := false) (disch := omega) only [push_cast, ↓guardK_tt, ↓guardK_ff, ↓guardK_tf, ↓guardK_ft, ↓condK_t, ↓condK_f, ↓reduceIte, Nat.reduceEqDiff, reduceCtorEq, Nat.reduceAdd, Nat.reduceSub, Nat.reduceMul, Nat.reduceLT, Nat.reduceLeDiff, Int.reduceToNat, Int.reduceLE, Int.reduceLT, Int.reduceEq, Int.reduceNe, Int.reduceAdd, Int.reduceSub, Nat.reduceBEq, Option.some.injEq]
  exact ⟨by omega, finE (cl_fds _ _) rfl⟩

theorem clone_ok (l : List Fd) (max : Int) (hl : l.length ≤ 4000000) (S : List Blk) : VCall Try.prog 30 [tV l max] S fun r S' => r = tV l max ∧ S' = S := by
  refine VCall.of_ev hD (fun _ => false) (fun id => if id = 1 then [2, 2, 6, 6, 6, 6, 7] else []) (n := 9) Try.func30 rfl rfl Try.ntmps30 (by kernel_rfl) (by kernel_rfl) (congrArg Array.toList Try.results30) (by simp) ?_
  simp (implicitDefEqProofs := false) (disch := omega) only [push_cast, ↓guardK_tt, ↓guardK_ff, ↓guardK_tf, ↓guardK_ft, ↓condK_t, ↓condK_f, ↓reduceIte, Nat.reduceEqDiff, reduceCtorEq, Nat.reduceAdd, Nat.reduceSub, Nat.reduceMul, Nat.reduceLT, Nat.reduceLeDiff, Int.reduceToNat, Int.reduceLE, Int.reduceLT, Int.reduceEq, Int.reduceNe, Int.reduceAdd, Int.reduceSub, Nat.reduceBEq, Option.some.injEq]
  refine (cloneFields_ok l hl _).to ?_
  simp (implicitDefEqProofs := false) (disch := omega) only [push_cast, ↓guardK_tt, ↓guardK_ff, ↓guardK_tf, ↓guardK_ft, ↓condK_t, ↓condK_f, ↓reduceIte, Nat.reduceEqDiff, reduceCtorEq, Nat.reduceAdd, Nat.reduceSub, Nat.reduceMul, Nat.reduceLT, Nat.reduceLeDiff, Int.reduceToNat, Int.reduceLE, Int.reduceLT, Int.reduceEq, Int.reduceNe, Int.reduceAdd, Int.reduceSub, Nat.reduceBEq, Option.some.injEq]
  exact fin1 (cl_tab _ _ _) rfl

theorem cells_ff (l : List V) (h : ∀ v ∈ l, v.cells = [v]) : l.flatMap V.cells = l := by
  induction l with
  | nil => rfl
  | cons a l ih => rw [List.flatMap_cons, h a (by simp), ih (fun v hv => h v (by simp [hv]))]; rfl

theorem Concat_ok (a b : List Fd) (ha : a.length ≤ 2000000) (hb : b.length ≤ 2000000) (h0 : 0 < a.length) (S : List Blk) :
    VCall Try.prog 57 [.rows none [.rows none (a.map fV), .rows none (b.map fV)]] S fun r S' => r = .rows none ((a ++ b).map fV) ∧ S' = S := by
  refine VCall.of_ev hD (fun _ => false) (fun _ => []) (n := 36) Try.func57 rfl rfl Try.ntmps57 (by kernel_rfl) (by kernel_rfl) (congrArg Array.toList Try.results57) (by simp) ?_
  simp (implicitDefEqProofs := false) (disch := omega) only [push_cast, ↓guardK_tt, ↓guardK_ff, ↓guardK_tf, ↓guardK_ft, ↓condK_t, ↓condK_f, ↓reduceIte, Nat.reduceEqDiff, reduceCtorEq, Nat.reduceAdd, Nat.reduceSub, Nat.reduceMul, Nat.reduceLT, Nat.reduceLeDiff, Int.reduceToNat, Int.reduceLE, Int.reduceLT, Int.reduceEq, Int.reduceNe, Int.reduceAdd, Int.reduceSub, Nat.reduceBEq, Option.some.injEq]
  refine wpV_loop (fun m t S' => ∃ i : Nat, m = 2 - i ∧ i ≤ 2 ∧ t 0 = .rows none [.rows none (a.map fV), .rows none (b.map fV)] ∧ t 3 = .int .i64 (if i = 0 then 0 else if i = 1 then a.length else a.length + b.length) ∧ t 9 = .rows none [.rows none (a.map fV), .rows none (b.map fV)] ∧ t 10 = .int .i64 2 ∧ t 11 = .int .i64 i ∧ S' = S) 2 ⟨0, by omega, by omega, rfl, rfl, rfl, rfl, rfl, rfl⟩ ?_
  rintro m t S' ⟨i, rfl, hi, h0, h3, h9, h10, h11, rfl⟩
  refine wpV_of hD (fun _ => false) (fun _ => []) (by kernel_rfl) ?_
  have g0 : [V.rows none (a.map fV), .rows none (b.map fV)].getD 0 .junk = .rows none (a.map fV) := rfl
  have g1 : [V.rows none (a.map fV), .rows none (b.map fV)].getD 1 .junk = .rows none (b.map fV) := rfl
  rcases (by omega : i = 0 ∨ i = 1 ∨ i = 2) with rfl | rfl | rfl
  · simp (implicitDefEqProofs := false) (disch := omega) only [push_cast, h0, h3, h9, h10, h11, g0, ↓guardK_tt, ↓guardK_ff, ↓guardK_tf, ↓guardK_ft, ↓condK_t, ↓condK_f, ↓reduceIte, Nat.reduceEqDiff, reduceCtorEq, Nat.reduceAdd, Nat.reduceSub, Nat.reduceMul, Nat.reduceLT, Nat.reduceLeDiff, Int.reduceToNat, Int.reduceLE, Int.reduceLT, Int.reduceEq, Int.reduceNe, Int.reduceAdd, Int.reduceSub, Nat.reduceBEq, Option.some.injEq]
    refine ⟨fun h => by omega, fun h => ?_⟩
    exact ⟨1, by omega, 1, rfl, by omega, by simp, rfl⟩
  · simp (implicitDefEqProofs := false) (disch := omega) only [push_cast, h0, h3, h9, h10, h11, g1, ↓guardK_tt, ↓guardK_ff, ↓guardK_tf, ↓guardK_ft, ↓condK_t, ↓condK_f, ↓reduceIte, Nat.reduceEqDiff, reduceCtorEq, Nat.reduceAdd, Nat.reduceSub, Nat.reduceMul, Nat.reduceLT, Nat.reduceLeDiff, Int.reduceToNat, Int.reduceLE, Int.reduceLT, Int.reduceEq, Int.reduceNe, Int.reduceAdd, Int.reduceSub, Nat.reduceBEq, Option.some.injEq]
    exact ⟨fun h => by omega, fun h => ⟨0, by omega, 2, rfl, by omega, by simp, rfl⟩⟩
  · simp (implicitDefEqProofs := false) (disch := omega) only [push_cast, h0, h3, h9, h10, h11, ↓guardK_tt, ↓guardK_ff, ↓guardK_tf, ↓guardK_ft, ↓condK_t, ↓condK_f, ↓reduceIte, Nat.reduceEqDiff, reduceCtorEq, Nat.reduceAdd, Nat.reduceSub, Nat.reduceMul, Nat.reduceLT, Nat.reduceLeDiff, Int.reduceToNat, Int.reduceLE, Int.reduceLT, Int.reduceEq, Int.reduceNe, Int.reduceAdd, Int.reduceSub, Nat.reduceBEq, Option.some.injEq]
    refine ((Grow_ok (a.length + b.length) (by omega) (by omega) S').as (by simp)).to ?_
    simp (implicitDefEqProofs := false) (disch := omega) only [push_cast, h0, h3, h9, h10, h11, ↓guardK_tt, ↓guardK_ff, ↓guardK_tf, ↓guardK_ft, ↓condK_t, ↓condK_f, ↓reduceIte, Nat.reduceEqDiff, reduceCtorEq, Nat.reduceAdd, Nat.reduceSub, Nat.reduceMul, Nat.reduceLT, Nat.reduceLeDiff, Int.reduceToNat, Int.reduceLE, Int.reduceLT, Int.reduceEq, Int.reduceNe, Int.reduceAdd, Int.reduceSub, Nat.reduceBEq, Option.some.injEq]
    refine wpV_loop (fun m t S2 => ∃ (i τ : Nat), m = 2 - i ∧ i ≤ 2 ∧ t 6 = .rows (some τ) ((if i = 0 then [] else if i = 1 then a else a ++ b).map fV) ∧ t 25 = .rows none [.rows none (a.map fV), .rows none (b.map fV)] ∧ t 26 = .int .i64 2 ∧ t 27 = .int .i64 i ∧ Tok S' S2 τ 3) 2 ⟨0, _, by omega, by omega, rfl, rfl, rfl, rfl, Tok.new _ _⟩ ?_
    clear h0 h3 h9 h10 h11
    rintro m t S2 ⟨i, τ, rfl, hi, h6, h25, h26, h27, hT⟩
    have hat := hT.at
    refine wpV_of hD (fun _ => false) (fun _ => []) (by kernel_rfl) ?_
    rcases (by omega : i = 0 ∨ i = 1 ∨ i = 2) with rfl | rfl | rfl
    · simp (implicitDefEqProofs := false) (disch := omega) only [push_cast, h6, h25, h26, h27, g0, hat, ↓guardK_tt, ↓guardK_ff, ↓guardK_tf, ↓guardK_ft, ↓condK_t, ↓condK_f, ↓reduceIte, Nat.reduceEqDiff, reduceCtorEq, Nat.reduceAdd, Nat.reduceSub, Nat.reduceMul, Nat.reduceLT, Nat.reduceLeDiff, Int.reduceToNat, Int.reduceLE, Int.reduceLT, Int.reduceEq, Int.reduceNe, Int.reduceAdd, Int.reduceSub, Nat.reduceBEq, Option.some.injEq]
      exact ⟨by omega, 1, by omega, 1, _, rfl, by omega, rfl, by simp, hT.step⟩
    · simp (implicitDefEqProofs := false) (disch := omega) only [push_cast, h6, h25, h26, h27, g1, hat, ↓guardK_tt, ↓guardK_ff, ↓guardK_tf, ↓guardK_ft, ↓condK_t, ↓condK_f, ↓reduceIte, Nat.reduceEqDiff, reduceCtorEq, Nat.reduceAdd, Nat.reduceSub, Nat.reduceMul, Nat.reduceLT, Nat.reduceLeDiff, Int.reduceToNat, Int.reduceLE, Int.reduceLT, Int.reduceEq, Int.reduceNe, Int.reduceAdd, Int.reduceSub, Nat.reduceBEq, Option.some.injEq]
      refine ⟨by omega, by omega, 0, by omega, 2, _, rfl, by omega, by simp, by simp, hT.step⟩
    · simp (implicitDefEqProofs := false) (disch := omega) only [push_cast, h6, h25, h26, h27, ↓guardK_tt, ↓guardK_ff, ↓guardK_tf, ↓guardK_ft, ↓condK_t, ↓condK_f, ↓reduceIte, Nat.reduceEqDiff, reduceCtorEq, Nat.reduceAdd, Nat.reduceSub, Nat.reduceMul, Nat.reduceLT, Nat.reduceLeDiff, Int.reduceToNat, Int.reduceLE, Int.reduceLT, Int.reduceEq, Int.reduceNe, Int.reduceAdd, Int.reduceSub, Nat.reduceBEq, Option.some.injEq]
      exact hT.finE (cl_fds2 _ _ _) rfl

theorem all_ok (l : List Fd) (max : Int) (hl : l.length ≤ 2000000) (S : List Blk) : VCall Try.prog 76 [tV l max] S fun r S' => r = .rows none ((fixedFds ++ l).map fV) ∧ S' = S := by
  refine VCall.of_ev hD (fun _ => false) (fun id => if id = 1 then [3, 3, 3, 4, 6, 6] else []) (n := 8) Try.func76 rfl rfl Try.ntmps76 (by kernel_rfl) (by kernel_rfl) (congrArg Array.toList Try.results76) (by simp) ?_
  simp (implicitDefEqProofs := false) (disch := omega) only [push_cast, ↓guardK_tt, ↓guardK_ff, ↓guardK_tf, ↓guardK_ft, ↓condK_t, ↓condK_f, ↓reduceIte, Nat.reduceEqDiff, reduceCtorEq, Nat.reduceAdd, Nat.reduceSub, Nat.reduceMul, Nat.reduceLT, Nat.reduceLeDiff, Int.reduceToNat, Int.reduceLE, Int.reduceLT, Int.reduceEq, Int.reduceNe, Int.reduceAdd, Int.reduceSub, Nat.reduceBEq, Option.some.injEq]
  refine (TableFixed_ok _).to ?_
  simp (implicitDefEqProofs := false) (disch := omega) only [push_cast, ↓guardK_tt, ↓guardK_ff, ↓guardK_tf, ↓guardK_ft, ↓condK_t, ↓condK_f, ↓reduceIte, Nat.reduceEqDiff, reduceCtorEq, Nat.reduceAdd, Nat.reduceSub, Nat.reduceMul, Nat.reduceLT, Nat.reduceLeDiff, Int.reduceToNat, Int.reduceLE, Int.reduceLT, Int.reduceEq, Int.reduceNe, Int.reduceAdd, Int.reduceSub, Nat.reduceBEq, Option.some.injEq]
  refine (Concat_ok fixedFds l (by decide) hl (by decide) _).to ?_
  simp (implicitDefEqProofs := false) (disch := omega) only [push_cast, ↓guardK_tt, ↓guardK_ff, ↓guardK_tf, ↓guardK_ft, ↓condK_t, ↓condK_f, ↓reduceIte, Nat.reduceEqDiff, reduceCtorEq, Nat.reduceAdd, Nat.reduceSub, Nat.reduceMul, Nat.reduceLT, Nat.reduceLeDiff, Int.reduceToNat, Int.reduceLE, Int.reduceLT, Int.reduceEq, Int.reduceNe, Int.reduceAdd, Int.reduceSub, Nat.reduceBEq, Option.some.injEq]
  exact fin1 (cl_fds2 _ _ _) rfl

theorem l3All_ok (l : List Fd) (max : Int) (hl : l.length ≤ 2000000) (S : List Blk) : VCall Try.prog 90 [tV l max] S fun r S' => r = .rows none ((fixedFds ++ l).map fV) ∧ S' = S := by
  refine VCall.of_ev hD (fun _ => false) (fun id => if id = 1 then [3, 3, 3, 5, 5] else []) (n := 7) Try.func90 rfl rfl Try.ntmps90 (by kernel_rfl) (by kernel_rfl) (congrArg Array.toList Try.results90) (by simp) ?_
  simp (implicitDefEqProofs := false) (disch := omega) only [push_cast, ↓guardK_tt, ↓guardK_ff, ↓guardK_tf, ↓guardK_ft, ↓condK_t, ↓condK_f, ↓reduceIte, Nat.reduceEqDiff, reduceCtorEq, Nat.reduceAdd, Nat.reduceSub, Nat.reduceMul, Nat.reduceLT, Nat.reduceLeDiff, Int.reduceToNat, Int.reduceLE, Int.reduceLT, Int.reduceEq, Int.reduceNe, Int.reduceAdd, Int.reduceSub, Nat.reduceBEq, Option.some.injEq]
  refine (sTableFixed_ok _).to ?_
  simp (implicitDefEqProofs := false) (disch := omega) only [push_cast, ↓guardK_tt, ↓guardK_ff, ↓guardK_tf, ↓guardK_ft, ↓condK_t, ↓condK_f, ↓reduceIte, Nat.reduceEqDiff, reduceCtorEq, Nat.reduceAdd, Nat.reduceSub, Nat.reduceMul, Nat.reduceLT, Nat.reduceLeDiff, Int.reduceToNat, Int.reduceLE, Int.reduceLT, Int.reduceEq, Int.reduceNe, Int.reduceAdd, Int.reduceSub, Nat.reduceBEq, Option.some.injEq]
  exact ⟨by omega, by decide, finE (cl_fds2 _ _ _) rfl⟩

def nameP (f g : Fd) : Bool := decide (g.name = f.name)
def bothP (f g : Fd) : Bool := decide (g.name = f.name) && decide (g.val = f.val)
def placeOf (l : List Fd) (f : Fd) : Nat := if (fixedFds ++ l).any (bothP f) then (fixedFds ++ l).findIdx (bothP f) + 1 else if (fixedFds ++ l).any (nameP f) then (fixedFds ++ l).findIdx (nameP f) + 1 else 0
def foundIn (l : List Fd) (f : Fd) : Bool := (fixedFds ++ l).any (bothP f)

theorem find1_ok (f g : Fd) (b : Nat) (S : List Blk) (hS : S[b]? = some (.cells 0 [.str f.name, .str f.val, .bool f.never])) : VCall Try.prog 86 [fV g, .ptr b 0] S fun r S' => r = .bool (bothP f g) ∧ S' = S := by
  have hbl : b < S.length := by
    rcases Nat.lt_or_ge b S.length with g | g
    · exact g
    · rw [List.getElem?_eq_none g] at hS; cases hS
  have hS2 : ∀ B, (S ++ [B])[b]? = some (.cells 0 [.str f.name, .str f.val, .bool f.never]) := fun B => by rw [List.getElem?_append_left hbl]; exact hS
  refine VCall.of_ev hD (fun _ => false) (fun _ => []) (n := 16) Try.func86 rfl rfl Try.ntmps86 (by kernel_rfl) (by kernel_rfl) (congrArg Array.toList Try.results86) (by simp) ?_
  by_cases h : g.name = f.name
  · simp (implicitDefEqProofs := false) (disch := omega) only [push_cast, hS2, h, ↓guardK_tt, ↓guardK_ff, ↓guardK_tf, ↓guardK_ft, ↓condK_t, ↓condK_f, ↓reduceIte, Nat.reduceEqDiff, reduceCtorEq, Nat.reduceAdd, Nat.reduceSub, Nat.reduceMul, Nat.reduceLT, Nat.reduceLeDiff, Int.reduceToNat, Int.reduceLE, Int.reduceLT, Int.reduceEq, Int.reduceNe, Int.reduceAdd, Int.reduceSub, Nat.reduceBEq, Option.some.injEq]
    exact fin1 (.bool _) (by simp [bothP, h])
  · simp (implicitDefEqProofs := false) (disch := omega) only [push_cast, hS2, h, ↓guardK_tt, ↓guardK_ff, ↓guardK_tf, ↓guardK_ft, ↓condK_t, ↓condK_f, ↓reduceIte, Nat.reduceEqDiff, reduceCtorEq, Nat.reduceAdd, Nat.reduceSub, Nat.reduceMul, Nat.reduceLT, Nat.reduceLeDiff, Int.reduceToNat, Int.reduceLE, Int.reduceLT, Int.reduceEq, Int.reduceNe, Int.reduceAdd, Int.reduceSub, Nat.reduceBEq, Option.some.injEq]
    exact fin1 (.bool _) (by simp [bothP, h])
theorem find2_ok (f g : Fd) (b : Nat) (S : List Blk) (hS : S[b]? = some (.cells 0 [.str f.name, .str f.val, .bool f.never])) : VCall Try.prog 87 [fV g, .ptr b 0] S fun r S' => r = .bool (nameP f g) ∧ S' = S := by
  have hbl : b < S.length := by
    rcases Nat.lt_or_ge b S.length with g | g
    · exact g
    · rw [List.getElem?_eq_none g] at hS; cases hS
  have hS2 : ∀ B, (S ++ [B])[b]? = some (.cells 0 [.str f.name, .str f.val, .bool f.never]) := fun B => by rw [List.getElem?_append_left hbl]; exact hS
  refine VCall.of_ev hD (fun _ => false) (fun _ => []) (n := 9) Try.func87 rfl rfl Try.ntmps87 (by kernel_rfl) (by kernel_rfl) (congrArg Array.toList Try.results87) (by simp) ?_
  simp (implicitDefEqProofs := false) (disch := omega) only [push_cast, hS2, ↓guardK_tt, ↓guardK_ff, ↓guardK_tf, ↓guardK_ft, ↓condK_t, ↓condK_f, ↓reduceIte, Nat.reduceEqDiff, reduceCtorEq, Nat.reduceAdd, Nat.reduceSub, Nat.reduceMul, Nat.reduceLT, Nat.reduceLeDiff, Int.reduceToNat, Int.reduceLE, Int.reduceLT, Int.reduceEq, Int.reduceNe, Int.reduceAdd, Int.reduceSub, Nat.reduceBEq, Option.some.injEq]
  exact fin1 (.bool _) rfl

theorem find_ok (l : List Fd) (max : Int) (f : Fd) (hl : l.length ≤ 1000000) (S : List Blk) : VCall Try.prog 70 [tV l max, fV f] S fun r S' => r = .tup [.int .i64 (placeOf l f), .bool (foundIn l f)] ∧ S' = S := by
  refine VCall.of_ev hD (fun _ => false) (fun _ => []) (n := 21) Try.func70 rfl rfl Try.ntmps70 (by kernel_rfl) (by kernel_rfl) (congrArg Array.toList Try.results70) (by simp) ?_
  simp (implicitDefEqProofs := false) (disch := omega) only [push_cast, ↓guardK_tt, ↓guardK_ff, ↓guardK_tf, ↓guardK_ft, ↓condK_t, ↓condK_f, ↓reduceIte, Nat.reduceEqDiff, reduceCtorEq, Nat.reduceAdd, Nat.reduceSub, Nat.reduceMul, Nat.reduceLT, Nat.reduceLeDiff, Int.reduceToNat, Int.reduceLE, Int.reduceLT, Int.reduceEq, Int.reduceNe, Int.reduceAdd, Int.reduceSub, Nat.reduceBEq, Option.some.injEq]
  refine (all_ok l max (by omega) _).to ?_
  obtain ⟨w, hw⟩ : ∃ w, w = fixedFds ++ l := ⟨_, rfl⟩
  have hwl : w.length ≤ 2000000 := by rw [hw]; simp [fixedFds]; omega
  have hix : w.findIdx (nameP f) ≤ w.length := List.findIdx_le_length
  have hix2 : w.findIdx (bothP f) ≤ w.length := List.findIdx_le_length
  rw [← hw]
  simp (implicitDefEqProofs := false) (disch := omega) only [push_cast, ↓guardK_tt, ↓guardK_ff, ↓guardK_tf, ↓guardK_ft, ↓condK_t, ↓condK_f, ↓reduceIte, Nat.reduceEqDiff, reduceCtorEq, Nat.reduceAdd, Nat.reduceSub, Nat.reduceMul, Nat.reduceLT, Nat.reduceLeDiff, Int.reduceToNat, Int.reduceLE, Int.reduceLT, Int.reduceEq, Int.reduceNe, Int.reduceAdd, Int.reduceSub, Nat.reduceBEq, Option.some.injEq]
  refine (IndexFunc_ok w _ [.ptr (S.length + 1) 0] (bothP f) hwl _ (fun g hg => (find1_ok f g (S.length + 1) _ (by simp)).as rfl)).to ?_
  cases h : w.any (bothP f)
  · simp (implicitDefEqProofs := false) (disch := omega) only [push_cast, ↓guardK_tt, ↓guardK_ff, ↓guardK_tf, ↓guardK_ft, ↓condK_t, ↓condK_f, ↓reduceIte, Nat.reduceEqDiff, reduceCtorEq, Nat.reduceAdd, Nat.reduceSub, Nat.reduceMul, Nat.reduceLT, Nat.reduceLeDiff, Int.reduceToNat, Int.reduceLE, Int.reduceLT, Int.reduceEq, Int.reduceNe, Int.reduceAdd, Int.reduceSub, Nat.reduceBEq, Option.some.injEq]
    refine (IndexFunc_ok w _ [.ptr (S.length + 1) 0] (nameP f) hwl _ (fun g hg => (find2_ok f g (S.length + 1) _ (by simp)).as rfl)).to ?_
    cases h2 : w.any (nameP f)
    · simp (implicitDefEqProofs := false) (disch := omega) only [push_cast, ↓guardK_tt, ↓guardK_ff, ↓guardK_tf, ↓guardK_ft, ↓condK_t, ↓condK_f, ↓reduceIte, Nat.reduceEqDiff, reduceCtorEq, Nat.reduceAdd, Nat.reduceSub, Nat.reduceMul, Nat.reduceLT, Nat.reduceLeDiff, Int.reduceToNat, Int.reduceLE, Int.reduceLT, Int.reduceEq, Int.reduceNe, Int.reduceAdd, Int.reduceSub, Nat.reduceBEq, Option.some.injEq]
      exact fin1 (Cl.two (.int _ _) (.bool _)) (by simp [placeOf, foundIn, ← hw, h, h2])
    · simp (implicitDefEqProofs := false) (disch := omega) only [push_cast, ↓guardK_tt, ↓guardK_ff, ↓guardK_tf, ↓guardK_ft, ↓condK_t, ↓condK_f, ↓reduceIte, Nat.reduceEqDiff, reduceCtorEq, Nat.reduceAdd, Nat.reduceSub, Nat.reduceMul, Nat.reduceLT, Nat.reduceLeDiff, Int.reduceToNat, Int.reduceLE, Int.reduceLT, Int.reduceEq, Int.reduceNe, Int.reduceAdd, Int.reduceSub, Nat.reduceBEq, Option.some.injEq]
      exact fin1 (Cl.two (.int _ _) (.bool _)) (by simp [placeOf, foundIn, ← hw, h, h2])
  · simp (implicitDefEqProofs := false) (disch := omega) only [push_cast, ↓guardK_tt, ↓guardK_ff, ↓guardK_tf, ↓guardK_ft, ↓condK_t, ↓condK_f, ↓reduceIte, Nat.reduceEqDiff, reduceCtorEq, Nat.reduceAdd, Nat.reduceSub, Nat.reduceMul, Nat.reduceLT, Nat.reduceLeDiff, Int.reduceToNat, Int.reduceLE, Int.reduceLT, Int.reduceEq, Int.reduceNe, Int.reduceAdd, Int.reduceSub, Nat.reduceBEq, Option.some.injEq]
    exact ⟨fun _ => fin1 (Cl.two (.int _ _) (.bool _)) (by simp [placeOf, foundIn, ← hw, h]), fun g => absurd (by omega) g⟩

def firstAt (p : Fd → Bool) (l : List Fd) (i : Nat) : Nat := if (l.drop i).any p then i + (l.drop i).findIdx p + 1 else 0
theorem drop_fd {l : List Fd} {i : Nat} (h : i < l.length) : l.drop i = l.getD i fd0 :: l.drop (i + 1) := by
  rw [List.drop_eq_getElem_cons h, List.getD, List.getElem?_eq_getElem h]; rfl
theorem firstAt_end (p : Fd → Bool) (l : List Fd) : firstAt p l l.length = 0 := by simp [firstAt]
theorem firstAt_yes {p : Fd → Bool} {l : List Fd} {i : Nat} (h : i < l.length) (hp : p (l.getD i fd0) = true) : firstAt p l i = i + 1 := by
  rw [firstAt, drop_fd h, List.any_cons, hp, List.findIdx_cons, hp]; simp
theorem firstAt_no {p : Fd → Bool} {l : List Fd} {i : Nat} (h : i < l.length) (hp : p (l.getD i fd0) = false) : firstAt p l i = firstAt p l (i + 1) := by
  rw [firstAt, firstAt, drop_fd h, List.any_cons, hp, List.findIdx_cons, hp]
  cases (l.drop (i + 1)).any p
  · rfl
  · show i + ((l.drop (i + 1)).findIdx p + 1) + 1 = i + 1 + (l.drop (i + 1)).findIdx p + 1
    omega
theorem firstAt_le (p : Fd → Bool) (l : List Fd) (i : Nat) (h : i ≤ l.length) : firstAt p l i ≤ l.length + 1 := by
  have : (l.drop i).findIdx p ≤ (l.drop i).length := List.findIdx_le_length
  rw [List.length_drop] at this
  unfold firstAt; split <;> omega

theorem l3Find_ok (l : List Fd) (max : Int) (f : Fd) (hl : l.length ≤ 1000000) (S : List Blk) : VCall Try.prog 96 [tV l max, fV f] S fun r S' => r = .tup [.int .i64 (placeOf l f), .bool (foundIn l f)] ∧ S' = S := by
  obtain ⟨w, hw⟩ : ∃ w, w = fixedFds ++ l := ⟨_, rfl⟩
  have hwl : w.length ≤ 2000000 := by rw [hw]; simp [fixedFds]; omega
  obtain ⟨Sx, hSx⟩ : ∃ Sx, Sx = S ++ [Blk.cells 0 [V.rows none (List.map fV l), V.int IntKind.i64 max], Blk.cells 0 [V.str f.name, V.str f.val, V.bool f.never]] := ⟨_, rfl⟩
  have hTb : Sx[S.length + 1]? = some (Blk.cells 0 [V.str f.name, V.str f.val, V.bool f.never]) := by rw [hSx]; simp
  refine VCall.of_ev hD (fun _ => false) (fun id => if id = 6 then [8, 8, 8, 8, 8, 8, 8, 8] else if id = 11 then [18, 18, 18, 18, 18, 18, 18, 18, 18, 18, 18, 18, 18, 18, 18, 18, 18, 18] else []) (n := 56) Try.func96 rfl rfl Try.ntmps96 (by kernel_rfl) (by kernel_rfl) (congrArg Array.toList Try.results96) (by simp) ?_
  simp (implicitDefEqProofs := false) (disch := omega) only [push_cast, ↓guardK_tt, ↓guardK_ff, ↓guardK_tf, ↓guardK_ft, ↓condK_t, ↓condK_f, ↓reduceIte, Nat.reduceEqDiff, reduceCtorEq, Nat.reduceAdd, Nat.reduceSub, Nat.reduceMul, Nat.reduceLT, Nat.reduceLeDiff, Int.reduceToNat, Int.reduceLE, Int.reduceLT, Int.reduceEq, Int.reduceNe, Int.reduceAdd, Int.reduceSub, Nat.reduceBEq, Option.some.injEq]
  refine (l3All_ok l max (by omega) _).to ?_
  rw [← hw, ← hSx]
  simp (implicitDefEqProofs := false) (disch := omega) only [push_cast, ↓guardK_tt, ↓guardK_ff, ↓guardK_tf, ↓guardK_ft, ↓condK_t, ↓condK_f, ↓reduceIte, Nat.reduceEqDiff, reduceCtorEq, Nat.reduceAdd, Nat.reduceSub, Nat.reduceMul, Nat.reduceLT, Nat.reduceLeDiff, Int.reduceToNat, Int.reduceLE, Int.reduceLT, Int.reduceEq, Int.reduceNe, Int.reduceAdd, Int.reduceSub, Nat.reduceBEq, Option.some.injEq]
  refine wpV_loop (fun m t S' => m ≤ w.length ∧ t 3 = .ptr (S.length + 1) 0 ∧ t 6 = .rows none (w.map fV) ∧ t 7 = .int .i64 (firstAt (nameP f) w m) ∧ t 8 = .int .i64 ((m : Int) - 1) ∧ S' = Sx) w.length ⟨Nat.le_refl _, rfl, rfl, by rw [firstAt_end]; rfl, rfl, rfl⟩ ?_
  rintro m t S' ⟨hm, h3, h6, h7, h8, rfl⟩
  refine wpV_of hD (fun _ => false) (fun id => if id = 6 then [8, 8, 8, 8, 8, 8, 8, 8] else if id = 11 then [18, 18, 18, 18, 18, 18, 18, 18, 18, 18, 18, 18, 18, 18, 18, 18, 18, 18] else []) (by kernel_rfl) ?_
  have hfa := firstAt_le (nameP f) w m hm
  rcases m with _ | k
  · have h8' : t 8 = .int .i64 (-1) := h8
    simp (implicitDefEqProofs := false) (disch := omega) only [push_cast, h3, h6, h7, h8', ↓guardK_tt, ↓guardK_ff, ↓guardK_tf, ↓guardK_ft, ↓condK_t, ↓condK_f, ↓reduceIte, Nat.reduceEqDiff, reduceCtorEq, Nat.reduceAdd, Nat.reduceSub, Nat.reduceMul, Nat.reduceLT, Nat.reduceLeDiff, Int.reduceToNat, Int.reduceLE, Int.reduceLT, Int.reduceEq, Int.reduceNe, Int.reduceAdd, Int.reduceSub, Nat.reduceBEq, Option.some.injEq]
    clear h8 h8' hm
    refine wpV_loop (fun m t S2 => ∃ i : Nat, m = w.length - i ∧ i ≤ w.length ∧ (w.take i).any (bothP f) = false ∧ t 3 = .ptr (S.length + 1) 0 ∧ t 6 = .rows none (w.map fV) ∧ t 7 = .int .i64 (firstAt (nameP f) w 0) ∧ t 9 = .int .i64 i ∧ S2 = S') w.length ⟨0, by omega, by omega, by simp, h3, h6, h7, rfl, rfl⟩ ?_
    clear h3 h6 h7
    rintro m t S2 ⟨i, rfl, hi, hno, h3, h6, h7, h9, rfl⟩
    refine wpV_of hD (fun _ => false) (fun id => if id = 11 then [18, 18, 18, 18, 18, 18, 18, 18, 18, 18, 18, 18, 18, 18, 18, 18, 18, 18] else []) (by kernel_rfl) ?_
    simp (implicitDefEqProofs := false) (disch := omega) only [push_cast, h3, h6, h7, h9, ↓guardK_tt, ↓guardK_ff, ↓guardK_tf, ↓guardK_ft, ↓condK_t, ↓condK_f, ↓reduceIte, Nat.reduceEqDiff, reduceCtorEq, Nat.reduceAdd, Nat.reduceSub, Nat.reduceMul, Nat.reduceLT, Nat.reduceLeDiff, Int.reduceToNat, Int.reduceLE, Int.reduceLT, Int.reduceEq, Int.reduceNe, Int.reduceAdd, Int.reduceSub, Nat.reduceBEq, Option.some.injEq]
    refine ⟨fun h => ⟨by omega, by omega, ?_⟩, fun h => ?_⟩
    · have hil : i < w.length := by omega
      have hgd := getD_fV hil
      generalize hg : w.getD i fd0 = g at hgd
      by_cases hn : g.name = f.name
      · by_cases hv : g.val = f.val
        · simp (implicitDefEqProofs := false) (disch := omega) only [push_cast, h3, h6, h7, h9, hgd, hTb, hn, hv, ↓guardK_tt, ↓guardK_ff, ↓guardK_tf, ↓guardK_ft, ↓condK_t, ↓condK_f, ↓reduceIte, Nat.reduceEqDiff, reduceCtorEq, Nat.reduceAdd, Nat.reduceSub, Nat.reduceMul, Nat.reduceLT, Nat.reduceLeDiff, Int.reduceToNat, Int.reduceLE, Int.reduceLT, Int.reduceEq, Int.reduceNe, Int.reduceAdd, Int.reduceSub, Nat.reduceBEq, Option.some.injEq]
          refine ⟨by omega, by omega, ?_⟩
          rw [hSx]
          refine fin1 (Cl.two (.int _ _) (.bool _)) ?_
          have hb : bothP f (w.getD i fd0) = true := by rw [hg]; simp [bothP, hn, hv]
          simp [placeOf, foundIn, ← hw, any_at hil hno hb, findIdx_at hil hno hb]
        · simp (implicitDefEqProofs := false) (disch := omega) only [push_cast, h3, h6, h7, h9, hgd, hTb, hn, hv, ↓guardK_tt, ↓guardK_ff, ↓guardK_tf, ↓guardK_ft, ↓condK_t, ↓condK_f, ↓reduceIte, Nat.reduceEqDiff, reduceCtorEq, Nat.reduceAdd, Nat.reduceSub, Nat.reduceMul, Nat.reduceLT, Nat.reduceLeDiff, Int.reduceToNat, Int.reduceLE, Int.reduceLT, Int.reduceEq, Int.reduceNe, Int.reduceAdd, Int.reduceSub, Nat.reduceBEq, Option.some.injEq]
          exact ⟨by omega, by omega, w.length - (i + 1), by omega, i + 1, rfl, by omega, by rw [take_fd hil, List.any_append, hno, hg]; simp [bothP, hv], by simp⟩
      · simp (implicitDefEqProofs := false) (disch := omega) only [push_cast, h3, h6, h7, h9, hgd, hTb, hn, ↓guardK_tt, ↓guardK_ff, ↓guardK_tf, ↓guardK_ft, ↓condK_t, ↓condK_f, ↓reduceIte, Nat.reduceEqDiff, reduceCtorEq, Nat.reduceAdd, Nat.reduceSub, Nat.reduceMul, Nat.reduceLT, Nat.reduceLeDiff, Int.reduceToNat, Int.reduceLE, Int.reduceLT, Int.reduceEq, Int.reduceNe, Int.reduceAdd, Int.reduceSub, Nat.reduceBEq, Option.some.injEq]
        exact ⟨w.length - (i + 1), by omega, i + 1, rfl, by omega, by rw [take_fd hil, List.any_append, hno, hg]; simp [bothP, hn], by simp⟩
    · have : i = w.length := by omega
      subst this
      rw [List.take_length] at hno
      rw [hSx]
      refine fin1 (Cl.two (.int _ _) (.bool _)) ?_
      simp [placeOf, foundIn, ← hw, hno, firstAt]
  · have h8' : t 8 = .int .i64 (k : Int) := by rw [h8]; congr 1; omega
    have hkl : k < w.length := by omega
    have hgd := getD_fV (l := w) (i := k) (by omega)
    generalize hg : w.getD k fd0 = g at hgd
    simp (implicitDefEqProofs := false) (disch := omega) only [push_cast, h3, h6, h7, h8', hgd, hTb, ↓guardK_tt, ↓guardK_ff, ↓guardK_tf, ↓guardK_ft, ↓condK_t, ↓condK_f, ↓reduceIte, Nat.reduceEqDiff, reduceCtorEq, Nat.reduceAdd, Nat.reduceSub, Nat.reduceMul, Nat.reduceLT, Nat.reduceLeDiff, Int.reduceToNat, Int.reduceLE, Int.reduceLT, Int.reduceEq, Int.reduceNe, Int.reduceAdd, Int.reduceSub, Nat.reduceBEq, Option.some.injEq]
    refine ⟨fun _ => ⟨by omega, by omega, fun hn => ⟨k, by omega, by omega, ?_, rfl⟩, fun hn => ⟨k, by omega, by omega, ?_, rfl⟩⟩, fun h => absurd (by omega) h⟩
    · rw [firstAt_yes hkl (by rw [hg]; simp [nameP, hn])]; rfl
    · rw [firstAt_no hkl (by rw [hg]; simp [nameP, hn])]

end Go.Proofs.Ytblbaniokmgjgaa
