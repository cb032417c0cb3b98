/- A part of the proof: contracts of functions, or plain facts on which these lean. -/
import Derived.Shelf.Spec.SlicesGrow
import Derived.Test.YtodjmflbakfmjaaGreatDoorMa14
namespace Go.Proofs.YtodjmflbakfmjaaGreatDoor
open Go
set_option linter.unusedVariables false
set_option linter.unusedSimpArgs false
set_option maxRecDepth 100000
set_option maxHeartbeats 16000000

section
open Go
theorem numW_len (n bits head : Nat) : (numW n bits head).length ≤ n + 2 := by
 unfold numW
 split
 ·simp
 ·have := numTail_len (n - (2 ^ bits - 1)); simp only [List.length_cons]; omega
def wordW (w : List UInt8) : List UInt8 := if (pack w).length < w.length then numW (pack w).length 7 1 ++ pack w else numW w.length 7 0 ++ w
theorem l2Write_ok (w : List UInt8) (hw : w.length ≤ 1000) (hs : ∀ c ∈ w, 0 ≤ signAt c) (S : List Blk) : VCall Tryz.prog 192 [.str w] S fun r S' => r = .str (wordW w) ∧ S' = S := by
 refine VCall.en hD Tryz.func192 Tryz.ntmps192 Tryz.results192 ?_
 simp -implicitDefEqProofs (disch := omega) only [push_cast, simprocAttr, ↓gd]
 refine (l2Pack_ok w hw hs S).to ?_
 simp -implicitDefEqProofs (disch := omega) only [push_cast, simprocAttr, ↓gd]
 refine ⟨fun h => ?_, fun h => ?_⟩
 ·refine (l1Write_ok (pack w).length 7 1 (by omega) (by omega) (by omega) S).to ?_
  simp -implicitDefEqProofs (disch := omega) only [push_cast, simprocAttr, ↓gd]
  refine ⟨by have := numW_len (pack w).length 7 1; omega, fin0 ?_⟩
  rw [wordW, if_pos (by omega)]
 ·refine (l1Write_ok w.length 7 0 (by omega) (by omega) (by omega) S).to ?_
  simp -implicitDefEqProofs (disch := omega) only [push_cast, simprocAttr, ↓gd]
  refine ⟨by have := numW_len w.length 7 0; omega, fin0 ?_⟩
  rw [wordW, if_neg (by omega)]
theorem WordWrite_ok (w : List UInt8) (hw : w.length ≤ 1000) (S : List Blk) : VCall Tryz.prog 161 [.str w] S fun r S' => r = .str (if wordOk w then wordW w else []) ∧ S' = S := by
 refine VCall.en hD Tryz.func161 Tryz.ntmps161 Tryz.results161 ?_
 simp -implicitDefEqProofs (disch := omega) only [push_cast, simprocAttr, ↓gd]
 refine (WordOk_ok w (by omega) S).to ?_
 cases hok : wordOk w
 ·simp -implicitDefEqProofs (disch := omega) only [push_cast, simprocAttr, ↓gd]
  exact fin0 rfl
 ·obtain ⟨hs, h16⟩ := wordOk_signs hok
  simp -implicitDefEqProofs (disch := omega) only [push_cast, simprocAttr, ↓gd]
  refine (WordPack_ok w hw S).to ?_
  rw [hok]
  simp -implicitDefEqProofs (disch := omega) only [push_cast, simprocAttr, ↓gd]
  refine ⟨fun h => ?_, fun h => ?_⟩
  ·refine ((NumWrite_ok (pack w).length 7 1 (by omega) (by omega) (by omega) S).as (by simp)).to ?_
   rw [if_pos ⟨by omega, by omega, by decide⟩]
   simp -implicitDefEqProofs (disch := omega) only [push_cast, simprocAttr, ↓gd]
   refine ⟨by have := numW_len (pack w).length 7 1; omega, fin0 ?_⟩
   rw [wordW, if_pos (by omega)]
  ·refine ((NumWrite_ok w.length 7 0 (by omega) (by omega) (by omega) S).as (by simp)).to ?_
   rw [if_pos ⟨by omega, by omega, by decide⟩]
   simp -implicitDefEqProofs (disch := omega) only [push_cast, simprocAttr, ↓gd]
   refine ⟨by have := numW_len w.length 7 0; omega, fin0 ?_⟩
   rw [wordW, if_neg (by omega)]
structure Fd where
 name : List UInt8
 val : List UInt8
 never : Bool
def fV (f : Fd) : V := .agg [.str f.name, .str f.val, .bool f.never]
theorem fV_eq (f : Fd) : fV f = .agg [.str f.name, .str f.val, .bool f.never] := rfl
attribute [push_cast] fV_eq
@[push_cast] theorem all_fV_len (l : List Fd) : (l.map fV).all (lenIs 3) = true := by induction l <;> simp_all [lenIs, fV, V.cells]
def fd0 : Fd := ⟨[], [], false⟩
theorem getD_fV {l : List Fd} {i : Nat} (h : i < l.length) : (l.map fV).getD i .junk = fV (l.getD i fd0) := by
 simp [List.getD, List.getElem?_eq_getElem h]
def FdB (f : Fd) : Prop := f.name.length ≤ 2000000 ∧ f.val.length ≤ 2000000
def FdsB (l : List Fd) : Prop := l.length ≤ 2000000 ∧ ∀ f ∈ l, FdB f
def fieldOk (f : Fd) : Bool := wordOk f.name && wordOk f.val && decide (f.name ≠ [])
theorem sFieldOk_ok (f : Fd) (hf : FdB f) (S : List Blk) : VCall Tryz.prog 120 [fV f] S fun r S' => r = .bool (fieldOk f) ∧ S' = S := by
 obtain ⟨h1, h2⟩ := hf
 refine VCall.en hD Tryz.func120 Tryz.ntmps120 Tryz.results120 ?_
 simp -implicitDefEqProofs (disch := omega) only [push_cast, simprocAttr, ↓gd]
 refine (sWordOk_ok f.name (by omega) _).to ?_
 cases hn : wordOk f.name
 ·simp -implicitDefEqProofs (disch := omega) only [push_cast, simprocAttr, ↓gd]
  exact fin1 (.bool _) (by simp [fieldOk, hn])
 ·by_cases h0 : f.name = []
  ·simp -implicitDefEqProofs (disch := omega) only [push_cast, simprocAttr, h0, ↓gd]
   exact fin1 (.bool _) (by simp [fieldOk, h0])
  ·simp -implicitDefEqProofs (disch := omega) only [push_cast, simprocAttr, h0, ↓gd]
   refine (sWordOk_ok f.val (by omega) _).to ?_
   simp -implicitDefEqProofs (disch := omega) only [push_cast, simprocAttr, ↓gd]
   exact fin1 (.bool _) (by simp [fieldOk, hn, h0])
theorem FieldOk_ok (f : Fd) (hf : FdB f) (S : List Blk) : VCall Tryz.prog 132 [fV f] S fun r S' => r = .bool (fieldOk f) ∧ S' = S := by
 obtain ⟨h1, h2⟩ := hf
 refine VCall.en hD Tryz.func132 Tryz.ntmps132 Tryz.results132 ?_
 simp -implicitDefEqProofs (disch := omega) only [push_cast, simprocAttr, ↓gd]
 refine (WordOk_ok f.name (by omega) _).to ?_
 cases hn : wordOk f.name
 ·simp -implicitDefEqProofs (disch := omega) only [push_cast, simprocAttr, ↓gd]
  exact fin1 (.bool _) (by simp [fieldOk, hn])
 ·simp -implicitDefEqProofs (disch := omega) only [push_cast, simprocAttr, ↓gd]
  refine (WordOk_ok f.val (by omega) _).to ?_
  cases hv : wordOk f.val
  ·simp -implicitDefEqProofs (disch := omega) only [push_cast, simprocAttr, ↓gd]
   exact fin1 (.bool _) (by simp [fieldOk, hv])
  ·simp -implicitDefEqProofs (disch := omega) only [push_cast, simprocAttr, ↓gd]
   exact fin1 (.bool _) (by simp [fieldOk, hn, hv])
end
section
open Go
def fixedFds : List Fd := [⟨[58, 112, 97, 116, 104], [], false⟩, ⟨[58, 115, 116, 97, 116, 117, 115], [48], false⟩, ⟨[58, 115, 116, 97, 116, 117, 115], [49, 50], false⟩, ⟨[107, 105, 110, 100], [116, 101, 120, 116], false⟩, ⟨[115, 105, 122, 101], [], false⟩, ⟨[116, 101], [116, 114, 97, 105, 108, 101, 114, 115], false⟩]
theorem sTableFixed_ok (S : List Blk) : VCall Tryz.prog 206 [] S fun r S' => r = .rows (some S.length) (fixedFds.map fV) ∧ S' = S ++ [.right 3] := by
 refine VCall.en hD Tryz.func206 Tryz.ntmps206 Tryz.results206 ?_
 simp -implicitDefEqProofs (disch := omega) only [push_cast, simprocAttr, ↓gd]
 exact ⟨_, _, Wk.refl _ _ _, rfl, rfl⟩
theorem TableFixed_ok (S : List Blk) : VCall Tryz.prog 175 [] S fun r S' => r = .rows (some S.length) (fixedFds.map fV) ∧ S' = S ++ [.right 3] := by
 refine VCall.en hD Tryz.func175 Tryz.ntmps175 Tryz.results175 ?_
 simp -implicitDefEqProofs (disch := omega) only [push_cast, simprocAttr, ↓gd]
 exact ⟨_, _, Wk.refl _ _ _, rfl, rfl⟩
def fdSize (f : Fd) : Nat := f.name.length + f.val.length + 4
def fdsSize (l : List Fd) : Nat := (l.map fdSize).sum
theorem fdsSize_append (l : List Fd) (f : Fd) : fdsSize (l ++ [f]) = fdsSize l + fdSize f := by simp [fdsSize]
theorem take_fd {l : List Fd} {i : Nat} (h : i < l.length) : l.take (i + 1) = l.take i ++ [l.getD i fd0] := by
 rw [List.take_succ_eq_append_getElem h, List.getD, List.getElem?_eq_getElem h]; rfl
theorem fdsSize_le (l : List Fd) (h : ∀ f ∈ l, FdB f) : fdsSize l ≤ l.length * 4000004 := by
 induction l with
 | nil => simp [fdsSize]
 | cons f l ih =>
  obtain ⟨h1, h2⟩ := h f (by simp)
  have := ih (fun g hg => h g (by simp [hg]))
  simp only [fdsSize, List.map_cons, List.sum_cons, List.length_cons, fdSize] at this ⊢
  omega
theorem getD_fd_mem {l : List Fd} {i : Nat} (h : i < l.length) : l.getD i fd0 ∈ l := by
 rw [List.getD, List.getElem?_eq_getElem h]; exact List.getElem_mem h
theorem l3One_ok (f : Fd) (hf : FdB f) (S : List Blk) : VCall Tryz.prog 152 [fV f] S fun r S' => r = .int .i64 (fdSize f) ∧ S' = S := by
 obtain ⟨h1, h2⟩ := hf
 refine VCall.en hD Tryz.func152 Tryz.ntmps152 Tryz.results152 ?_
 simp -implicitDefEqProofs (disch := omega) only [push_cast, simprocAttr, ↓gd]
 exact fin1 (.int _ _) (by simp [fdSize])
theorem l3Size_ok (l : List Fd) (hl : FdsB l) (S : List Blk) : VCall Tryz.prog 121 [.rows none (l.map fV)] S fun r S' => r = .int .i64 (fdsSize l) ∧ S' = S := by
 obtain ⟨hlen, hb⟩ := hl
 refine VCall.en hD Tryz.func121 Tryz.ntmps121 Tryz.results121 ?_
 simp -implicitDefEqProofs (disch := omega) only [push_cast, simprocAttr, ↓gd]
 refine wpV_loop (fun m t S' => ∃ i : Nat, m = l.length - i ∧ i ≤ l.length ∧ t 0 = .rows none (l.map fV) ∧ t 3 = .int .i64 (fdsSize (l.take i)) ∧ t 4 = .int .i64 i ∧ S' = S) l.length ⟨0, by omega, by omega, rfl, rfl, rfl, rfl⟩ ?_
 rintro m t S' ⟨i, rfl, hi, h0, h3, h4, rfl⟩
 refine wpV_of0 hD ?_
 have hsz := fdsSize_le (l.take i) (fun f hf => hb f (List.mem_of_mem_take hf))
 have hti : (l.take i).length ≤ 2000000 := by simp; omega
 simp -implicitDefEqProofs (disch := omega) only [push_cast, simprocAttr, h0, h3, h4, ↓gd]
 refine ⟨fun h => ⟨by omega, by omega, ?_⟩, fun h => fin0 ?_⟩
 ·have hil : i < l.length := by omega
  have hfb := hb _ (getD_fd_mem hil)
  rw [getD_fV hil]
  simp -implicitDefEqProofs (disch := omega) only [push_cast, simprocAttr, h0, h3, h4, ↓gd]
  refine (l3One_ok (l.getD i fd0) hfb S').to ?_
  have hone : fdSize (l.getD i fd0) ≤ 4000004 := by obtain ⟨a, b⟩ := hfb; unfold fdSize; omega
  simp -implicitDefEqProofs (disch := omega) only [push_cast, simprocAttr, h0, h3, h4, ↓gd]
  refine ⟨l.length - (i + 1), by omega, i + 1, rfl, by omega, ?_, by simp⟩
  rw [take_fd hil, fdsSize_append]
  simp
 ·have : i = l.length := by omega
  subst this
  rw [List.take_length]
theorem size_ok (l : List Fd) (max : Int) (hl : FdsB l) (S : List Blk) : VCall Tryz.prog 138 [.agg [.rows none (l.map fV), .int .i64 max]] S fun r S' => r = .int .i64 (fdsSize l) ∧ S' = S := by
 obtain ⟨hlen, hb⟩ := hl
 refine VCall.en hD Tryz.func138 Tryz.ntmps138 Tryz.results138 ?_
 simp -implicitDefEqProofs (disch := omega) only [push_cast, simprocAttr, ↓gd]
 refine wpV_loop (fun m t S' => ∃ i : Nat, m = l.length - i ∧ i ≤ l.length ∧ t 7 = .rows none (l.map fV) ∧ t 3 = .int .i64 (fdsSize (l.take i)) ∧ t 8 = .int .i64 l.length ∧ t 9 = .int .i64 i ∧ ∃ X, S' = S ++ X) l.length ⟨0, by omega, by omega, rfl, rfl, rfl, rfl, _, rfl⟩ ?_
 rintro m t S' ⟨i, rfl, hi, h7, h3, h8, h9, X, rfl⟩
 refine wpV_of0 hD ?_
 have hsz := fdsSize_le (l.take i) (fun f hf => hb f (List.mem_of_mem_take hf))
 have hti : (l.take i).length ≤ 2000000 := by simp; omega
 simp -implicitDefEqProofs (disch := omega) only [push_cast, simprocAttr, h7, h3, h8, h9, ↓gd]
 refine ⟨fun h => ?_, fun h => fin1 (.int _ _) ?_⟩
 ·have hil : i < l.length := by omega
  have hfb := hb _ (getD_fd_mem hil)
  have hone : fdSize (l.getD i fd0) ≤ 4000004 := by obtain ⟨a, b⟩ := hfb; unfold fdSize; omega
  obtain ⟨hna, hva⟩ := hfb
  rw [getD_fV hil]
  simp -implicitDefEqProofs (disch := omega) only [push_cast, simprocAttr, h7, h3, h8, h9, ↓gd]
  refine ⟨by omega, by omega, l.length - (i + 1), by omega, i + 1, rfl, by omega, ?_, by simp, _, rfl⟩
  rw [take_fd hil, fdsSize_append]
  simp [fdSize]
 ·have : i = l.length := by omega
  subst this
  rw [List.take_length]
def tableOk (l : List Fd) (max : Int) : Bool := l.all (fun f => fieldOk f && !f.never) && (decide (0 ≤ max) && decide (max ≤ 64)) && decide ((fdsSize l : Int) ≤ max)
theorem all_fd_bad {p : Fd → Bool} {w : List Fd} {i : Nat} (h : i < w.length) (hb : p (w.getD i fd0) = false) : w.all p = false := by
 rw [Bool.eq_false_iff]
 intro ha
 have := List.all_eq_true.1 ha _ (getD_fd_mem h)
 rw [hb] at this; cases this
theorem all_fd_succ {p : Fd → Bool} {w : List Fd} {i : Nat} (h : i < w.length) (h1 : (w.take i).all p = true) (h2 : p (w.getD i fd0) = true) : (w.take (i + 1)).all p = true := by
 rw [take_fd h, List.all_append, h1]
 simpa using h2
theorem sTableOk_ok (l : List Fd) (max : Int) (hl : FdsB l) (S : List Blk) : VCall Tryz.prog 77 [.agg [.rows none (l.map fV), .int .i64 max]] S fun r S' => r = .bool (tableOk l max) ∧ S' = S := by
 have hl' := hl
 obtain ⟨hlen, hb⟩ := hl
 refine VCall.ex hD (fun _ => false) (fun id => if id = 6 then [2, 2, 6, 6, 6, 6, 12, 12, 12, 12, 12, 12] else []) Tryz.func77 Tryz.ntmps77 Tryz.results77 ?_
 simp -implicitDefEqProofs (disch := omega) only [push_cast, simprocAttr, ↓gd]
 refine wpV_loop (fun m t S' => ∃ i : Nat, m = l.length - i ∧ i ≤ l.length ∧ (l.take i).all (fun f => fieldOk f && !f.never) = true ∧ t 1 = .ptr S.length 0 ∧ t 3 = .int .i64 i ∧ S' = S ++ [.cells 0 [.rows none (l.map fV), .int .i64 max]]) l.length ⟨0, by omega, by omega, by simp, rfl, rfl, rfl⟩ ?_
 rintro m t S' ⟨i, rfl, hi, hno, h1, h3, rfl⟩
 refine wpV_of hD (fun _ => false) (fun id => if id = 6 then [2, 2, 6, 6, 6, 6, 12, 12, 12, 12, 12, 12] else []) (by kernel_rfl) ?_
 simp -implicitDefEqProofs (disch := omega) only [push_cast, simprocAttr, h1, h3, ↓gd]
 refine ⟨fun h => ⟨by omega, by omega, ?_⟩, fun h => ?_⟩
 ·have hil : i < l.length := by omega
  have hfb := hb _ (getD_fd_mem hil)
  have hgd := getD_fV hil
  generalize hf : l.getD i fd0 = f at hfb hgd
  simp -implicitDefEqProofs (disch := omega) only [push_cast, simprocAttr, h1, h3, hgd, ↓gd]
  refine (sFieldOk_ok f hfb _).to ?_
  cases hok : fieldOk f
  ·simp -implicitDefEqProofs (disch := omega) only [push_cast, simprocAttr, h1, h3, ↓gd]
   exact fin1 (.bool _) (by rw [tableOk, all_fd_bad hil (by rw [hf, hok]; rfl)]; rfl)
  ·cases hne : f.never
   ·simp -implicitDefEqProofs (disch := omega) only [push_cast, simprocAttr, h1, h3, hgd, hne, ↓gd]
    exact ⟨by omega, by omega, l.length - (i + 1), by omega, i + 1, rfl, by omega, all_fd_succ hil hno (by rw [hf, hok, hne]; rfl), by simp⟩
   ·simp -implicitDefEqProofs (disch := omega) only [push_cast, simprocAttr, h1, h3, hgd, hne, ↓gd]
    exact ⟨by omega, by omega, fin1 (.bool _) (by rw [tableOk, all_fd_bad hil (by rw [hf, hok, hne]; rfl)]; rfl)⟩
 ·have : i = l.length := by omega
  subst this
  rw [List.take_length] at hno
  refine (l6In_ok max 0 64 _).to ?_
  cases hin : (decide ((0 : Int) ≤ max) && decide (max ≤ 64))
  ·simp -implicitDefEqProofs (disch := omega) only [push_cast, simprocAttr, h1, h3, ↓gd]
   exact fin1 (.bool _) (by rw [tableOk, hin]; simp)
  ·simp -implicitDefEqProofs (disch := omega) only [push_cast, simprocAttr, h1, h3, ↓gd]
   refine (l3Size_ok l hl' _).to ?_
   simp -implicitDefEqProofs (disch := omega) only [push_cast, simprocAttr, h1, h3, ↓gd]
   exact fin1 (.bool _) (by rw [tableOk, hin, hno]; simp)
theorem any_at {p : Fd → Bool} {l : List Fd} {i : Nat} (h : i < l.length) (h1 : (l.take i).any p = false) (h2 : p (l.getD i fd0) = true) : l.any p = true :=
 List.any_eq_true.2 ⟨_, getD_fd_mem h, h2⟩
theorem findIdx_at {p : Fd → Bool} {l : List Fd} {i : Nat} (h : i < l.length) (h1 : (l.take i).any p = false) (h2 : p (l.getD i fd0) = true) : l.findIdx p = i := by
 rw [List.getD, List.getElem?_eq_getElem h, Option.getD_some] at h2
 rw [List.findIdx_eq h]
 refine ⟨h2, fun j hj => ?_⟩
 have := List.any_eq_false.1 h1 l[j] (by rw [List.mem_take_iff_getElem]; exact ⟨j, by omega, rfl⟩)
 simpa using this
theorem IndexFunc_ok (l : List Fd) (fid : Nat) (caps : List V) (p : Fd → Bool) (hlen : l.length ≤ 2000000) (S : List Blk) (hp : ∀ g ∈ l, VCall Tryz.prog fid (eraseArgs (fV g :: caps)) S fun r S' => r = .bool (p g) ∧ S' = S) :
  VCall Tryz.prog 154 [.rows none (l.map fV), .fn fid caps] S fun r S' => r = .int .i64 (if l.any p then (l.findIdx p : Int) else -1) ∧ S' = S := by
 refine VCall.en hD Tryz.func154 Tryz.ntmps154 Tryz.results154 ?_
 simp -implicitDefEqProofs (disch := omega) only [push_cast, simprocAttr, ↓gd]
 refine wpV_loop (fun m t S' => ∃ i : Nat, m = l.length - i ∧ i ≤ l.length ∧ (l.take i).any p = false ∧ t 0 = .rows none (l.map fV) ∧ t 1 = .fn fid caps ∧ t 7 = .int .i64 l.length ∧ t 8 = .int .i64 i ∧ S' = S) l.length ⟨0, by omega, by omega, by simp, rfl, rfl, rfl, rfl, rfl⟩ ?_
 rintro m t S' ⟨i, rfl, hi, hno, h0, h1, h7, h8, rfl⟩
 refine wpV_of0 hD ?_
 simp -implicitDefEqProofs (disch := omega) only [push_cast, simprocAttr, h0, h1, h7, h8, ↓gd]
 refine ⟨fun h => ?_, fun h => ?_⟩
 ·have hil : i < l.length := by omega
  have hgd := getD_fV hil
  have hpf := hp _ (getD_fd_mem hil)
  generalize hf : l.getD i fd0 = f at hgd hpf
  simp -implicitDefEqProofs (disch := omega) only [push_cast, simprocAttr, h0, h1, h7, h8, hgd, ↓gd]
  refine ⟨by omega, by omega, (hpf.as rfl).to ?_⟩
  cases hpv : p f
  ·simp -implicitDefEqProofs (disch := omega) only [push_cast, simprocAttr, h0, h1, h7, h8, ↓gd]
   refine ⟨l.length - (i + 1), by omega, i + 1, rfl, by omega, ?_, by simp⟩
   rw [take_fd hil, List.any_append, hno, hf]; simp [hpv]
  ·simp -implicitDefEqProofs (disch := omega) only [push_cast, simprocAttr, h0, h1, h7, h8, ↓gd]
   refine fin0 ?_
   rw [any_at hil hno (by rw [hf, hpv]), findIdx_at hil hno (by rw [hf, hpv])]; rfl
 ·have : i = l.length := by omega
  subst this
  rw [List.take_length] at hno
  refine fin0 ?_
  rw [hno]; rfl
theorem ContainsFunc_ok (l : List Fd) (fid : Nat) (caps : List V) (p : Fd → Bool) (hlen : l.length ≤ 2000000) (S : List Blk) (hp : ∀ g ∈ l, VCall Tryz.prog fid (eraseArgs (fV g :: caps)) S fun r S' => r = .bool (p g) ∧ S' = S) :
  VCall Tryz.prog 130 [.rows none (l.map fV), .fn fid caps] S fun r S' => r = .bool (l.any p) ∧ S' = S := by
 refine VCall.en hD Tryz.func130 Tryz.ntmps130 Tryz.results130 ?_
 simp -implicitDefEqProofs (disch := omega) only [push_cast, simprocAttr, ↓gd]
 refine (IndexFunc_ok l fid caps p hlen S hp).to ?_
 cases h : l.any p
 ·simp -implicitDefEqProofs (disch := omega) only [push_cast, simprocAttr, ↓gd]
  exact fin0 rfl
 ·simp -implicitDefEqProofs (disch := omega) only [push_cast, simprocAttr, ↓gd]
  exact fin0 (by simp)
theorem tableOk1_ok (f : Fd) (hf : FdB f) (S : List Blk) : VCall Tryz.prog 137 [fV f] S fun r S' => r = .bool (!fieldOk f || f.never) ∧ S' = S := by
 refine VCall.en hD Tryz.func137 Tryz.ntmps137 Tryz.results137 ?_
 simp -implicitDefEqProofs (disch := omega) only [push_cast, simprocAttr, ↓gd]
 refine (FieldOk_ok f hf _).to ?_
 cases hok : fieldOk f
 ·simp -implicitDefEqProofs (disch := omega) only [push_cast, simprocAttr, ↓gd]
  exact fin1 (.bool _) rfl
 ·simp -implicitDefEqProofs (disch := omega) only [push_cast, simprocAttr, ↓gd]
  exact fin1 (.bool _) (by simp)
theorem headOk1_ok (f : Fd) (hf : FdB f) (S : List Blk) : VCall Tryz.prog 131 [fV f] S fun r S' => r = .bool (!fieldOk f) ∧ S' = S := by
 refine VCall.en hD Tryz.func131 Tryz.ntmps131 Tryz.results131 ?_
 simp -implicitDefEqProofs (disch := omega) only [push_cast, simprocAttr, ↓gd]
 refine (FieldOk_ok f hf _).to ?_
 simp -implicitDefEqProofs (disch := omega) only [push_cast, simprocAttr, ↓gd]
 exact fin1 (.bool _) rfl
theorem any_not_all (l : List Fd) : l.any (fun f => !fieldOk f || f.never) = !l.all (fun f => fieldOk f && !f.never) := by
 induction l with
 | nil => rfl
 | cons f l ih => simp only [List.any_cons, List.all_cons, ih, Bool.not_and, Bool.not_not]
theorem TableOk_ok (l : List Fd) (max : Int) (hl : FdsB l) (S : List Blk) : VCall Tryz.prog 100 [.agg [.rows none (l.map fV), .int .i64 max]] S fun r S' => r = .bool (tableOk l max) ∧ S' = S := by
 have hl' := hl
 obtain ⟨hlen, hb⟩ := hl
 refine VCall.ex hD (fun _ => false) (fun id => if id = 1 then [2, 2, 6, 6, 6, 6, 11, 11, 11, 11, 11, 17, 17, 17, 17, 17, 17] else []) Tryz.func100 Tryz.ntmps100 Tryz.results100 ?_
 simp -implicitDefEqProofs (disch := omega) only [push_cast, simprocAttr, ↓gd]
 refine (in_ok max 0 64 _).to ?_
 cases hin : (decide ((0 : Int) ≤ max) && decide (max ≤ 64))
 ·simp -implicitDefEqProofs (disch := omega) only [push_cast, simprocAttr, ↓gd]
  exact fin1 (.bool _) (by rw [tableOk, hin]; simp)
 ·simp -implicitDefEqProofs (disch := omega) only [push_cast, simprocAttr, ↓gd]
  refine (ContainsFunc_ok l _ [] _ hlen _ (fun g hg => (tableOk1_ok g (hb g hg) _).as rfl)).to ?_
  rw [any_not_all]
  cases hall : l.all (fun f => fieldOk f && !f.never)
  ·simp -implicitDefEqProofs (disch := omega) only [push_cast, simprocAttr, ↓gd]
   exact fin1 (.bool _) (by rw [tableOk, hall]; simp)
  ·simp -implicitDefEqProofs (disch := omega) only [push_cast, simprocAttr, ↓gd]
   refine (size_ok l max hl' _).to ?_
   simp -implicitDefEqProofs (disch := omega) only [push_cast, simprocAttr, ↓gd]
   exact fin1 (.bool _) (by rw [tableOk, hin, hall]; simp)
end
section
open Go
def growRen : Go.Shelf.Ren := ⟨fun _ => 177, fun t => if t = 0 then 0 else if t = 3 then 3 else if t = 4 then 4 else if t = 9 then 9 else if t = 20 then 20 else if t = 22 then 25 else 136, fun g => g⟩
theorem growLay : Lays8.n4 Tryz.prog growRen where
 mixed := by kernel_rfl
 f4 := ⟨Tryz.f177.name, by decide, by kernel_rfl⟩
 t0 := by kernel_rfl
 a0 := Tryz.isAgg0
 z0 := Tryz.sizeOf0
 v0 := Tryz.zeroValue0
 t3 := by kernel_rfl
 a3 := Tryz.isAgg3
 z3 := Tryz.sizeOf3
 v3 := Tryz.zeroValue3
 t4 := by kernel_rfl
 a4 := Tryz.isAgg4
 z4 := Tryz.sizeOf4
 v4 := Tryz.zeroValue4
 t9 := by kernel_rfl
 a9 := Tryz.isAgg9
 z9 := Tryz.sizeOf9
 v9 := Tryz.zeroValue9
 t20 := by kernel_rfl
 a20 := Tryz.isAgg20
 z20 := Tryz.sizeOf20
 v20 := Tryz.zeroValue20
 t22 := by kernel_rfl
 a22 := Tryz.isAgg25
 z22 := Tryz.sizeOf25
 v22 := Tryz.zeroValue25
theorem zeroCells_add (a : Array Value) (n m : Nat) : Builtin.zeroCells a n ++ Builtin.zeroCells a m = Builtin.zeroCells a (n + m) := by
 apply Array.ext
 ·simp [Builtin.zeroCells, Nat.add_mul]
 ·intro i h1 h2
  rw [Array.getElem_append]
  split
  ·simp [Builtin.zeroCells]
  ·rename_i h
   simp only [Builtin.zeroCells, Array.size_map, Array.size_range, Nat.not_lt, Array.getElem_map, Array.getElem_range] at h ⊢
   congr 1
   rw [← Nat.sub_add_cancel h, Nat.add_sub_cancel, Nat.add_mul_mod_self_right]
theorem Grow_ok (n : Nat) (hn : 0 < n) (hn2 : n ≤ 4194304) (S : List Blk) : VCall Tryz.prog 177 [.nils, .int .i64 n] S fun r S' => r = .rows (some S.length) [] ∧ S' = S ++ [.right 3] := by
 refine .inl ⟨⟨_, Tryz.func177, rfl, rfl⟩, _, _, ⟨rfl, rfl⟩, ?_⟩
 intro G w cargs hall hR
 obtain ⟨i, z, hi, hisz, hiby, hz, _, _, hzs⟩ := ty_info hD (t := 136) rfl
 have hc : cargs = #[.slice none 0 0, .int .i64 n] := by
  obtain ⟨hl, hv⟩ := hall
  obtain ⟨l⟩ := cargs
  match l, hl with
  | [a, b], _ =>
   have h0 := hv 0 .nils a rfl rfl
   have h1 := hv 1 (.int .i64 n) b rfl rfl
   cases h0; cases h1; rfl
 subst hc
 have hcall := Any8.slices_Grow_grow growLay i z hi hz (by rw [hisz]; decide) none 0 0 n [] w (Nat.le_refl _) (by omega) (by rw [hiby]; show (0 + n) * 40 ≤ _; omega) (by omega) (by simp) (fun _ => rfl) (fun a h => by cases h)
 refine Calls.mono hcall ?_
 rintro e w' ⟨rfl, rfl⟩
 obtain ⟨G', h1, h2, h3⟩ := grow_row hD (e := 136) rfl hR (zs := []) (fun v hv => by cases hv) (c := #[]) ⟨rfl, by simp, by simp⟩ hzs (cap := grownCap w (0 + n) 0 136) (Nat.zero_le _)
 have hG := grownCap_ge w (0 + n) 0 136
 have e : (#[] : Array Value) ++ Builtin.zeroCells z.cells (grownCap w (0 + n) 0 136 - ([] : List V).length) = ([] : List Value).toArray ++ Builtin.zeroCells z.cells (0 + n - 0) ++ Builtin.zeroCells z.cells (grownCap w (0 + n) 0 136 - (0 + n)) := by
  rw [Array.append_assoc, zeroCells_add]
  congr 2
  simp only [List.length_nil]
  omega
 rw [e] at h1 h2 h3
 exact ⟨_, G', rfl, h1, h2, h3⟩
end
end Go.Proofs.YtodjmflbakfmjaaGreatDoor
