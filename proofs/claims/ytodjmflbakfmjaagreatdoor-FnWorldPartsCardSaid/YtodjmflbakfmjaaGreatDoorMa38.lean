/- A part of the proof: contracts of functions, or plain facts on which these lean. -/
import Derived.Test.YtodjmflbakfmjaaGreatDoorMa21
import Derived.Test.YtodjmflbakfmjaaGreatDoorMa37
namespace Go.Proofs.YtodjmflbakfmjaaGreatDoor
open Go
set_option linter.unusedVariables false
set_option linter.unusedSimpArgs false
set_option maxRecDepth 100000
set_option maxHeartbeats 16000000

section
open Go
def DrawnE (e : En) (wire : List UInt8) : Prop := ∃ w : Wo, Drawn w ∧ ((e = w.caller ∧ wire = w.down) ∨ (e = w.answerer ∧ wire = w.up))
theorem DrawnE.b {e : En} {wire : List UInt8} (h : DrawnE e wire) : EnB e ∧ wire.length ≤ 1000000 := by
 obtain ⟨w, hd, h⟩ := h
 have hB := hd.b
 rcases h with ⟨rfl, rfl⟩ | ⟨rfl, rfl⟩
 ·exact ⟨hB.caller, hB.down⟩
 ·exact ⟨hB.answerer, hB.up⟩
structure EnDr (S : List Blk) (b : Nat) (bs : List UInt8) (P : Nat) (e : En) (b1 c1 : Nat) (S' : List Blk) : Prop where
 at_ : EnAt S' b1 c1 e
 hb : S.length ≤ b1
 hc : S.length ≤ c1
 upd : Upd [b] S S'
 rd : S'[b]? = some (Rd bs P)
theorem EnAt.var {S : List Blk} {b c : Nat} {e : En} (h : EnAt S b c e) {j : Nat} {cs : List V} (hj : S[j]? = some (.cells 0 cs)) : b ≠ j ∧ c ≠ j := ⟨cells_ne h.1 hj (by decide), cells_ne h.2 hj (by decide)⟩
theorem EnDr.set {S : List Blk} {b : Nat} {bs : List UInt8} {P : Nat} {e : En} {b1 c1 : Nat} {S' : List Blk} (h : EnDr S b bs P e b1 c1 S') {j : Nat} (B : Blk) (hj : S.length ≤ j) (hn : b1 ≠ j ∧ c1 ≠ j) (hb : b ≠ j) : EnDr S b bs P e b1 c1 (S'.set j B) :=
 ⟨h.at_.set B hn.1 hn.2, h.hb, h.hc, h.upd.set B (.inl hj), by rw [get_set_ne (Ne.symm hb)]; exact h.rd⟩
theorem EnDr.app {S : List Blk} {b : Nat} {bs : List UInt8} {P : Nat} {e : En} {b1 c1 : Nat} {S' : List Blk} (h : EnDr S b bs P e b1 c1 S') (X : List Blk) : EnDr S b bs P e b1 c1 (S' ++ X) :=
 ⟨h.at_.app X, h.hb, h.hc, h.upd.app X, by rw [List.getElem?_append_left (lt_of_some h.rd)]; exact h.rd⟩
theorem EnDr.draw {S : List Blk} {b : Nat} {bs : List UInt8} {P : Nat} {e : En} {b1 c1 : Nat} {S' : List Blk} (h : EnDr S b bs P e b1 c1 S') (Q : Nat) : EnDr S b bs Q e b1 c1 (S'.set b (Rd bs Q)) :=
 ⟨h.at_.set _ (h.at_.var (cs := _) h.rd).1 (h.at_.var (cs := _) h.rd).2, h.hb, h.hc, h.upd.set _ (.inr (by simp)), List.getElem?_set_self (lt_of_some h.rd)⟩
theorem WoDr.mk' {S X : List Blk} {b : Nat} {bs : List UInt8} {P : Nat} {w : Wo} {b1 c1 d1 f1 : Nat} {S' : List Blk} (h : WoDr (S ++ X) b bs P w b1 c1 d1 f1 S') : WoDr S b bs P w b1 c1 d1 f1 S' := by
 have h1 := h.hb; have h2 := h.hc; have h3 := h.hd; have h4 := h.hf
 rw [List.length_append] at h1 h2 h3 h4
 exact ⟨h.at_, by omega, by omega, by omega, by omega, ((Upd.refl [b] S).app X).trans h.upd, h.rd⟩
theorem EnDr.mk' {S X : List Blk} {b : Nat} {bs : List UInt8} {P : Nat} {w : En} {b1 c1 : Nat} {S' : List Blk} (h : EnDr (S ++ X) b bs P w b1 c1 S') : EnDr S b bs P w b1 c1 S' := by
 have h1 := h.hb; have h2 := h.hc
 rw [List.length_append] at h1 h2
 exact ⟨h.at_, by omega, by omega, ((Upd.refl [b] S).app X).trans h.upd, h.rd⟩
theorem l72End_ok (bs : List UInt8) (b p : Nat) (hp : p ≤ 900000) (hbs : bs.length ≤ 2000) (S : List Blk) (hS : S[b]? = some (Rd bs p)) :
  VCall Tryz.prog 69 [.ptr b 0] S fun r S' => ∃ (e : En) (wire : List UInt8) (P b1 c1 : Nat), DrawnE e wire ∧ r = .tup [eV b1 c1 e, .str wire] ∧ P ≤ p + 40001 ∧ EnDr S b bs P e b1 c1 S' := by
 have hbl := rd_lt hS
 refine VCall.ex hDe (fun _ => false) (fun id => if id = 3 then [4, 4, 6, 6, 6, 6] else if id = 4 then [4, 4, 6, 6, 6, 6] else []) Tryz.func69 Tryz.ntmps69 Tryz.results69 ?_
 simp -implicitDefEqProofs (disch := omega) only [push_cast, simprocAttr, ↓gd]
 refine (l72World_ok bs b p hp hbs _ (by rw [List.getElem?_append_left hbl]; exact hS)).mono ?_
 rintro r S1 ⟨w, P, b1, c1, d1, f1, hw, rfl, hP, hdr⟩
 have k0 : S1[S.length]? = some (.cells 0 zE) := hdr.upd.get (by simp -implicitDefEqProofs (disch := omega) only [push_cast, simprocAttr, ↓gd]) (by simp; omega)
 have hdr := hdr.mk'
 have l0 := lt_of_some k0
 have kr := hdr.rd
 have lr := lt_of_some kr
 have v0 := hdr.at_.var k0
 have hbS : b ≠ S.length := by omega
 simp -implicitDefEqProofs (disch := omega) only [push_cast, simprocAttr, k0, ↓gd]
 refine (pickI bs b P 2 _ (by simp) (by omega) (by omega) hbs _ (by rw [List.getElem?_append_left lr]; exact kr)).mono ?_
 rintro r S2 ⟨⟨q, hq, rfl⟩, rfl⟩
 have hd1 := hdr.draw (P + 1)
 have hset := fun B => hd1.set (j := S.length) B (Nat.le_refl _) v0 hbS
 rcases (by omega : q = 0 ∨ q = 1) with rfl | rfl
 ·simp -implicitDefEqProofs (disch := omega) only [push_cast, simprocAttr, k0, stA lr, stB lr, ↓gd]
  exact ⟨_, _, Wk.refl _ _ _, w.caller, w.down, P + 1, b1, c1, ⟨w, hw, .inl ⟨rfl, rfl⟩⟩, rfl, by omega, ⟨(hset _).at_.caller.app _, hdr.hb, hdr.hc, (hset _).upd.app _, by rw [List.getElem?_append_left (lt_of_some (hset _).rd)]; exact (hset _).rd⟩⟩
 ·simp -implicitDefEqProofs (disch := omega) only [push_cast, simprocAttr, k0, stA lr, stB lr, ↓gd]
  exact ⟨_, _, Wk.refl _ _ _, w.answerer, w.up, P + 1, d1, f1, ⟨w, hw, .inr ⟨rfl, rfl⟩⟩, rfl, by omega, ⟨(hset _).at_.answerer.app _, hdr.hd, hdr.hf, (hset _).upd.app _, by rw [List.getElem?_append_left (lt_of_some (hset _).rd)]; exact (hset _).rd⟩⟩
theorem Upd.open_ {S S' : List Blk} {B : Blk} {b : Nat} (hb : S.length ≤ b) (h : Upd [b] (S ++ [B]) S') : Upd [] S S' :=
 ((Upd.refl [] S).app [B]).then_ h (fun j hj hm => by simp at hm; omega)
theorem Wk.forget {S Z : List Blk} {r : V} (h : Upd [] S Z) (hc : Cl S.length r) : Wk S r Z r S := by
 have e : Z.take S.length = S := by
  apply List.ext_getElem?
  intro j
  rw [List.getElem?_take]
  split
  ·rename_i hj; exact h.2 j hj (by simp)
  ·rename_i hj; rw [List.getElem?_eq_none (by omega)]
 have hk := Wk.cut (S0 := S) (S := Z) (r := r) (n := S.length) (Nat.le_refl _) h.1 hc (fun j sz cs hj hz => .inl (by rw [← h.2 j hj (by simp)]; exact hz))
 rwa [e] at hk
theorem evs_cl (n : Nat) (l : List Ev) : Cl n (.rows none (l.map evV)) := by
 refine .rows (fun τ h => by cases h) ?_
 intro v hv
 obtain ⟨x, hx, hvx⟩ := List.mem_flatMap.1 hv
 obtain ⟨u, _, rfl⟩ := List.mem_map.1 hx
 exact (evV_cl n u).cells v hvx
theorem DrawWorldPlay_ok (code : List UInt8) (hc : code.length ≤ 1073741824) (S : List Blk) :
  VCall Tryz.prog 15 [.rows none (code.map u8V)] S fun r S' => ∃ l : List Ev, l.length ≤ 61 ∧ (∀ v ∈ l, EvS v) ∧ r = .rows none (l.map evV) ∧ S' = S := by
 refine VCall.en hD Tryz.func15 Tryz.ntmps15 Tryz.results15 ?_
 simp -implicitDefEqProofs (disch := omega) only [push_cast, simprocAttr, ↓gd]
 refine (l6Open_ok code hc _).to ?_
 simp -implicitDefEqProofs (disch := omega) only [push_cast, simprocAttr, ↓gd]
 generalize hbs : code.take 2000 = bs
 have hbl : bs.length ≤ 2000 := by rw [← hbs, List.length_take]; omega
 refine (l72Play_ok bs S.length 0 (by omega) hbl _ (by simp)).mono ?_
 rintro r S1 ⟨l, τ, P, b1, c1, d1, f1, hl, hv, rfl, hτ, hτ2, hP, hdr⟩
 rw [List.length_append] at hτ2
 have kr := hdr.rd
 have lr := lt_of_some kr
 have ntb := right_ne hτ kr
 have lt := lt_of_some hτ
 have hu : S.length < S1.length := by have := hdr.upd.1; simp at this; omega
 simp -implicitDefEqProofs (disch := omega) only [push_cast, simprocAttr, ↓gd]
 refine (pickI bs S.length P 40 _ (by simp) (by omega) (by omega) hbl _ (by rw [List.getElem?_append_left lr]; exact kr)).mono ?_
 rintro r S2 ⟨⟨q, hq, rfl⟩, rfl⟩
 have fin : ∀ (k : List Ev) (tok : Option Nat) (Z : List Blk), k.length ≤ 61 → (∀ v ∈ k, EvS v) → Upd [] S Z → ∃ r S2, Wk S (V.rows tok (k.map evV)) Z r S2 ∧ ∃ l : List Ev, l.length ≤ 61 ∧ (∀ v ∈ l, EvS v) ∧ r = .rows none (l.map evV) ∧ S2 = S := by
  intro k tok Z h1 h2 h3
  exact ⟨_, _, (Wk.eraseT S (.rows tok (k.map evV)) Z).trans (Wk.forget h3 (evs_cl _ k)), k, h1, h2, rfl, rfl⟩
 have hup := Upd.open_ (Nat.le_refl _) hdr.upd
 have hup2 : ∀ B X, Upd [] S (S1.set S.length B ++ X) := fun B X => (hup.set B (.inl (Nat.le_refl _))).app X
 by_cases q0 : q = 0
 ·subst q0
  simp -implicitDefEqProofs (disch := omega) only [push_cast, simprocAttr, stA lr, stB lr, ↓gd]
  refine wpV_loop (fun m t S2 => ∃ (k : List Ev) (τ : Nat), m = 61 - k.length ∧ k.length ≤ 61 ∧ (∀ v ∈ k, EvS v) ∧ t 4 = .rows (some τ) (k.map evV) ∧ S.length ≤ τ ∧ S2[τ]? = some (.right 5) ∧ Upd [] S S2) (61 - l.length)
   ⟨l, τ, rfl, by omega, hv, rfl, by omega, by rw [List.getElem?_append_left (by simpa using lt), get_set_ne (Ne.symm ntb)]; exact hτ, hup2 _ _⟩ ?_
  rintro m t S2 ⟨k, τ, rfl, hk, hkv, h4, hτn, hτ, hu2⟩
  have ltt := lt_of_some hτ
  refine wpV_of0 hD ?_
  by_cases hkl : k.length ≤ 60
  ·have hkl' : (k.length : Int) ≤ 60 := by omega
   simp -implicitDefEqProofs (disch := omega) only [push_cast, simprocAttr, h4, hkl', hτ, evs_len5, ↓gd]
   exact ⟨by omega, 61 - (k.length + 1), by omega, k ++ [⟨3, 0, 0, [], []⟩], S2.length + 1, by simp, by simp; omega, fun u hu => (List.mem_append.1 hu).elim (fun g => hkv u g) (fun g => by rw [List.mem_singleton.1 g]; exact ⟨by simp, by simp⟩), by simp [evV], by have := hu2.1; omega, by simp -implicitDefEqProofs (disch := omega) only [push_cast, simprocAttr, ↓gd], (hu2.set _ (.inl hτn)).app _⟩
  ·have hkl' : ¬ (k.length : Int) ≤ 60 := by omega
   simp -implicitDefEqProofs (disch := omega) only [push_cast, simprocAttr, h4, hkl', ↓gd]
   exact fin k _ _ hk hkv hu2
 ·have q0' : ¬ (q : Int) = 0 := by omega
  simp -implicitDefEqProofs (disch := omega) only [push_cast, simprocAttr, stA lr, stB lr, q0', ↓gd]
  exact fin l _ _ (by omega) hv (hup2 _ _)
end
section
open Go
theorem WoDr.new {S : List Blk} {B : Blk} {b : Nat} {bs : List UInt8} {P : Nat} {w : Wo} {b1 c1 d1 f1 : Nat} {S' : List Blk} (h : WoDr S b bs P w b1 c1 d1 f1 S') (hb : S.length ≤ b) : WoNew S w b1 c1 d1 f1 S' :=
 ⟨h.at_, h.hb, h.hc, h.hd, h.hf, (Upd.refl [] S).then_ h.upd (fun j hj hm => by simp at hm; omega)⟩
theorem three {a b c : Int} {x : Nat} (h : x < 3) : ∃ z : Int, [V.int .i64 a, V.int .i64 b, V.int .i64 c].getD x .junk = .int .i64 z := by
 rcases (by omega : x = 0 ∨ x = 1 ∨ x = 2) with rfl | rfl | rfl <;> exact ⟨_, rfl⟩
theorem DrawWorldDo_ok (code : List UInt8) (hc : code.length ≤ 1073741824) (S : List Blk) :
  VCall Tryz.prog 26 [.rows none (code.map u8V)] S fun r S' => ∃ (w : Wo) (v : Ev) (b1 c1 d1 f1 : Nat), Drawn w ∧ EvB v ∧ r = .tup [wV b1 c1 d1 f1 w, evV v] ∧ WoNew S w b1 c1 d1 f1 S' := by
 refine VCall.ex hD (fun _ => false) (fun id => if id = 11 then [2, 3, 3, 4] else []) Tryz.func26 Tryz.ntmps26 Tryz.results26 ?_
 simp -implicitDefEqProofs (disch := omega) only [push_cast, simprocAttr, ↓gd]
 refine (l6Open_ok code hc _).to ?_
 simp -implicitDefEqProofs (disch := omega) only [push_cast, simprocAttr, ↓gd]
 generalize hbs : code.take 2000 = bs
 have hbl : bs.length ≤ 2000 := by rw [← hbs, List.length_take]; omega
 refine (l72World_ok bs (S.length + 2) 0 (by omega) hbl _ (by simp -implicitDefEqProofs (disch := omega) only [push_cast, simprocAttr, ↓gd])).mono ?_
 rintro r S1 ⟨w, P, b1, c1, d1, f1, hw, rfl, hP, hdr⟩
 have k0 : S1[S.length]? = some (.cells 0 zW) := hdr.upd.get (by simp -implicitDefEqProofs (disch := omega) only [push_cast, simprocAttr, ↓gd]) (by simp)
 have k1 : S1[S.length + 1]? = some (.cells 0 [.int .i64 0, .int .i64 0, .int .i64 0, .str [], .str []]) := hdr.upd.get (by simp -implicitDefEqProofs (disch := omega) only [push_cast, simprocAttr, ↓gd]) (by simp)
 have hdr : WoDr S (S.length + 2) bs P w b1 c1 d1 f1 S1 := hdr.mk'
 have kr := hdr.rd
 have lr := lt_of_some kr
 have v0 := hdr.at_.var k0
 have v1 := hdr.at_.var k1
 have hB := hw.b
 simp -implicitDefEqProofs (disch := omega) only [push_cast, simprocAttr, k0, k1, ↓gd]
 refine (l72Event_ok hB b1 c1 d1 f1 bs (S.length + 2) P (by omega) hbl _ (by rw [List.getElem?_append_left lr]; exact kr)).mono ?_
 rintro r S2 ⟨⟨v, hv, rfl⟩, P2, hP2, rfl⟩
 have hS2b : ∀ B X, (S1.set (S.length + 2) B ++ X)[S.length + 2]? = some B := fun B X => stC lr _ _
 simp -implicitDefEqProofs (disch := omega) only [push_cast, simprocAttr, stA lr, stB lr, ↓gd]
 refine (pickI bs (S.length + 2) P2 20 _ (by simp) (by omega) (by omega) hbl _ (hS2b _ _)).mono ?_
 rintro r S2 ⟨⟨q, hq, rfl⟩, rfl⟩
 have fin : ∀ (u : Ev) (Q : Nat) (X : List Blk), u.path = v.path → u.text = v.text → ∃ r S2, Wk S (.tup [wV b1 c1 d1 f1 w, evV u]) (((S1.set (S.length + 2) (Rd bs Q)).set S.length (.cells 0 (wC b1 c1 d1 f1 w))).set (S.length + 1) (.cells 0 [.int .i64 u.kind, .int .i64 u.a, .int .i64 u.b, .str u.path, .str u.text]) ++ X) r S2 ∧
   ∃ (w : Wo) (v : Ev) (b1 c1 d1 f1 : Nat), Drawn w ∧ EvB v ∧ r = .tup [wV b1 c1 d1 f1 w, evV v] ∧ WoNew S w b1 c1 d1 f1 S2 := by
  intro u Q X h1 h2
  have hn := ((((hdr.draw Q).set (j := S.length) (.cells 0 (wC b1 c1 d1 f1 w)) (Nat.le_refl _) v0 (by omega)).set (j := S.length + 1) (.cells 0 [.int .i64 u.kind, .int .i64 u.a, .int .i64 u.b, .str u.path, .str u.text]) (by omega) v1 (by omega)).app X).new (B := .dead) (by omega)
  exact ⟨_, _, Wk.refl _ _ _, w, u, b1, c1, d1, f1, hw, ⟨by rw [h1]; exact hv.b.1, by rw [h2]; exact hv.b.2⟩, rfl, hn⟩
 by_cases q0 : q = 0
 ·subst q0
  simp -implicitDefEqProofs (disch := omega) only [push_cast, simprocAttr, stA lr, stB lr, ↓gd]
  refine (pickI bs (S.length + 2) (P2 + 1) 3 _ (by simp) (by omega) (by omega) hbl _ (hS2b _ _)).mono ?_
  rintro r S2 ⟨⟨x, hx, rfl⟩, rfl⟩
  obtain ⟨z, hz⟩ := three (a := 0) (b := 5) (c := -1) hx
  simp -implicitDefEqProofs (disch := omega) only [push_cast, simprocAttr, stA lr, stB lr, hz, k0, k1, ↓gd]
  repeat refine And.intro (by omega) ?_
  exact fin ⟨z, v.a, v.b, v.path, v.text⟩ _ _ rfl rfl
 by_cases q1 : q = 1
 ·subst q1
  simp -implicitDefEqProofs (disch := omega) only [push_cast, simprocAttr, stA lr, stB lr, ↓gd]
  refine (pickI bs (S.length + 2) (P2 + 1) 3 _ (by simp) (by omega) (by omega) hbl _ (hS2b _ _)).mono ?_
  rintro r S2 ⟨⟨x, hx, rfl⟩, rfl⟩
  obtain ⟨z, hz⟩ := three (a := -1) (b := 2) (c := 9) hx
  simp -implicitDefEqProofs (disch := omega) only [push_cast, simprocAttr, stA lr, stB lr, hz, k0, k1, ↓gd]
  repeat refine And.intro (by omega) ?_
  exact fin ⟨v.kind, z, v.b, v.path, v.text⟩ _ _ rfl rfl
 by_cases q2 : q = 2
 ·subst q2
  simp -implicitDefEqProofs (disch := omega) only [push_cast, simprocAttr, stA lr, stB lr, ↓gd]
  refine (pickI bs (S.length + 2) (P2 + 1) 3 _ (by simp) (by omega) (by omega) hbl _ (hS2b _ _)).mono ?_
  rintro r S2 ⟨⟨x, hx, rfl⟩, rfl⟩
  obtain ⟨z, hz⟩ := three (a := -1) (b := 0) (c := 91) hx
  simp -implicitDefEqProofs (disch := omega) only [push_cast, simprocAttr, stA lr, stB lr, hz, k0, k1, ↓gd]
  repeat refine And.intro (by omega) ?_
  exact fin ⟨v.kind, v.a, z, v.path, v.text⟩ _ _ rfl rfl
 have j0 : ¬ (q : Int) = 0 := by omega
 have j1 : ¬ (q : Int) = 1 := by omega
 have j2 : ¬ (q : Int) = 2 := by omega
 simp -implicitDefEqProofs (disch := omega) only [push_cast, simprocAttr, stA lr, stB lr, k0, k1, j0, j1, j2, ↓gd]
 exact fin v _ _ rfl rfl
theorem eight {a b c d e f g h : Int} {x : Nat} (hx : x < 8) : ∃ z : Int, [V.int .i64 a, V.int .i64 b, V.int .i64 c, V.int .i64 d, V.int .i64 e, V.int .i64 f, V.int .i64 g, V.int .i64 h].getD x .junk = .int .i64 z := by
 rcases (by omega : x = 0 ∨ x = 1 ∨ x = 2 ∨ x = 3 ∨ x = 4 ∨ x = 5 ∨ x = 6 ∨ x = 7) with rfl | rfl | rfl | rfl | rfl | rfl | rfl | rfl <;> exact ⟨_, rfl⟩
theorem DrawWorldCalm_ok (code : List UInt8) (hc : code.length ≤ 1073741824) (S : List Blk) :
  VCall Tryz.prog 34 [.rows none (code.map u8V)] S fun r S' => ∃ (w : Wo) (n : Int) (b1 c1 d1 f1 : Nat), Drawn w ∧ r = .tup [wV b1 c1 d1 f1 w, .int .i64 n] ∧ WoNew S w b1 c1 d1 f1 S' := by
 refine VCall.ex hD (fun f =>  if f = none then true else false) (fun id => if id = 2 then [1, 4, 9, 4, 7, 9, 9, 9, 9] else []) Tryz.func34 Tryz.ntmps34 Tryz.results34 ?_
 simp -implicitDefEqProofs (disch := omega) only [push_cast, simprocAttr, ↓gd]
 refine (l6Open_ok code hc _).to ?_
 simp -implicitDefEqProofs (disch := omega) only [push_cast, simprocAttr, ↓gd]
 generalize hbs : code.take 2000 = bs
 have hbl : bs.length ≤ 2000 := by rw [← hbs, List.length_take]; omega
 refine (l72World_ok bs (S.length + 1) 0 (by omega) hbl _ (by simp -implicitDefEqProofs (disch := omega) only [push_cast, simprocAttr, ↓gd])).mono ?_
 rintro r S1 ⟨w, P, b1, c1, d1, f1, hw, rfl, hP, hdr⟩
 have k0 : S1[S.length]? = some (.cells 0 zW) := hdr.upd.get (by simp -implicitDefEqProofs (disch := omega) only [push_cast, simprocAttr, ↓gd]) (by simp)
 have hdr : WoDr S (S.length + 1) bs P w b1 c1 d1 f1 S1 := hdr.mk'
 have kr := hdr.rd
 have lr := lt_of_some kr
 have v0 := hdr.at_.var k0
 simp -implicitDefEqProofs (disch := omega) only [push_cast, simprocAttr, k0, ↓gd]
 refine (pickI bs (S.length + 1) P 8 _ (by simp) (by omega) (by omega) hbl _ kr).mono ?_
 rintro r S2 ⟨⟨q, hq, rfl⟩, rfl⟩
 obtain ⟨z, hz⟩ := eight (a := 0) (b := 1) (c := 2) (d := 4) (e := 8) (f := 16) (g := 17) (h := -1) hq
 simp -implicitDefEqProofs (disch := omega) only [push_cast, simprocAttr, k0, hz, ↓gd]
 repeat refine And.intro (by omega) ?_
 exact ⟨_, _, Wk.refl _ _ _, w, z, b1, c1, d1, f1, hw, rfl, ((hdr.draw (P + 1)).set (j := S.length) _ (Nat.le_refl _) v0 (by omega)).new (B := .dead) (by omega)⟩
end
section
open Go
theorem four {a b c d : Int} {x : Nat} (hx : x < 4) : ∃ z : Int, ((z = a ∨ z = b) ∨ (z = c ∨ z = d)) ∧ [V.int .i64 a, V.int .i64 b, V.int .i64 c, V.int .i64 d].getD x .junk = .int .i64 z := by
 rcases (by omega : x = 0 ∨ x = 1 ∨ x = 2 ∨ x = 3) with rfl | rfl | rfl | rfl
 ·exact ⟨a, .inl (.inl rfl), rfl⟩
 ·exact ⟨b, .inl (.inr rfl), rfl⟩
 ·exact ⟨c, .inr (.inl rfl), rfl⟩
 ·exact ⟨d, .inr (.inr rfl), rfl⟩
def FrB (f : Fr) : Prop := 0 ≤ f.kind ∧ 0 ≤ f.stream ∧ f.body.length ≤ 1000
theorem frV_cl (n : Nat) (f : Fr) : Cl n (frV f) := by
 refine .agg ?_
 simp only [frmC, List.mem_cons, List.not_mem_nil, or_false, forall_eq_or_imp, forall_eq]
 exact ⟨.int _ _, .bool _, .int _ _, .str _⟩
theorem l71Frame_ok (bs : List UInt8) (b p : Nat) (hp : p ≤ 10000000) (hbs : bs.length ≤ 2000) (S : List Blk) (hS : S[b]? = some (Rd bs p)) :
  VCall Tryz.prog 71 [.ptr b 0] S fun r S' => (∃ f : Fr, FrB f ∧ r = frV f) ∧ ∃ p', p' ≤ p + 200 ∧ S' = S.set b (Rd bs p') := by
 have hbl := rd_lt hS
 have hS2b : ∀ B X, (S.set b B ++ X)[b]? = some B := fun B X => stC hbl _ _
 have fin : ∀ (f : Fr) (P : Nat) (X : List Blk), FrB f → P ≤ p + 200 → ∃ r S2, Wk S (frV f) (S.set b (Rd bs P) ++ X) r S2 ∧ (∃ f : Fr, FrB f ∧ r = frV f) ∧ ∃ p', p' ≤ p + 200 ∧ S2 = S.set b (Rd bs p') :=
  fun v P X h1 h2 => ⟨_, _, finS (frV_cl _ v), ⟨v, h1, rfl⟩, P, h2, rfl⟩
 refine VCall.ex hD (fun f =>  if f = none then true else false) (fun id => if id = 1 then [11, 11, 1000000, 11, 11, 11, 1000000, 11, 11, 11, 1000000, 12, 10] else if id = 9 then [6, 6, 3, 6, 6, 6, 7] else []) Tryz.func71 Tryz.ntmps71 Tryz.results71 ?_
 simp -implicitDefEqProofs (disch := omega) only [push_cast, simprocAttr, ↓gd]
 refine (pickI bs b p 4 _ (by simp) (by omega) (by omega) hbs _ (by rw [List.getElem?_append_left hbl]; exact hS)).mono ?_
 rintro r S1 ⟨⟨q1, hq1, rfl⟩, rfl⟩
 obtain ⟨z, hz4, hz⟩ := four (a := 0) (b := 1) (c := 3) (d := 8) hq1
 simp -implicitDefEqProofs (disch := omega) only [push_cast, simprocAttr, stA hbl, stB hbl, hz, ↓gd]
 repeat refine And.intro (by omega) ?_
 refine (pickI bs b (p + 1) 4 _ (by simp) (by omega) (by omega) hbs _ (hS2b _ _)).mono ?_
 rintro r S1 ⟨⟨q2, hq2, rfl⟩, rfl⟩
 rcases hz4 with (rfl | rfl) | (rfl | rfl)
 ·simp -implicitDefEqProofs (disch := omega) only [push_cast, simprocAttr, stA hbl, stB hbl, ↓gd]
  refine ⟨by omega, rfl, ?_⟩
  refine (pickI bs b (p + 2) 2 _ (by simp) (by omega) (by omega) hbs _ (hS2b _ _)).mono ?_
  rintro r S1 ⟨⟨q3, hq3, rfl⟩, rfl⟩
  simp -implicitDefEqProofs (disch := omega) only [push_cast, simprocAttr, stA hbl, stB hbl, ↓gd]
  refine (l71Word_ok bs b (p + 3) (by omega) hbs _ (hS2b _ _)).mono ?_
  rintro r S1 ⟨⟨s, hs, rfl⟩, P, hP, rfl⟩
  simp -implicitDefEqProofs (disch := omega) only [push_cast, simprocAttr, stA hbl, stB hbl, ↓gd]
  refine (pickI bs b (P) 24 _ (by simp) (by omega) (by omega) hbs _ (hS2b _ _)).mono ?_
  rintro r S1 ⟨⟨q9, hq9, rfl⟩, rfl⟩
  have hb9 : (s : List UInt8).length ≤ 1000 := by omega
  by_cases e0 : q9 = 0
  ·subst e0
   simp -implicitDefEqProofs (disch := omega) only [push_cast, simprocAttr, stA hbl, stB hbl, ↓gd]
   refine (pickI bs b (P + 1) 10 _ (by simp) (by omega) (by omega) hbs _ (hS2b _ _)).mono ?_
   rintro r S1 ⟨⟨x, hx, rfl⟩, rfl⟩
   simp -implicitDefEqProofs (disch := omega) only [push_cast, simprocAttr, stA hbl, stB hbl, ↓gd]
   exact fin ⟨x, (decide ((q3 : Int) = 0)), (1 + 2 * q2), s⟩ (P + 2) _ ⟨by simp only; omega, by simp only; omega, hb9⟩ (by omega)
  by_cases e1 : q9 = 1
  ·subst e1
   simp -implicitDefEqProofs (disch := omega) only [push_cast, simprocAttr, stA hbl, stB hbl, ↓gd]
   refine (pickI bs b (P + 1) 10 _ (by simp) (by omega) (by omega) hbs _ (hS2b _ _)).mono ?_
   rintro r S1 ⟨⟨x, hx, rfl⟩, rfl⟩
   simp -implicitDefEqProofs (disch := omega) only [push_cast, simprocAttr, stA hbl, stB hbl, ↓gd]
   exact fin ⟨0, (decide ((q3 : Int) = 0)), x, s⟩ (P + 2) _ ⟨by simp only; omega, by simp only; omega, hb9⟩ (by omega)
  by_cases e2 : q9 = 2
  ·subst e2
   simp -implicitDefEqProofs (disch := omega) only [push_cast, simprocAttr, stA hbl, stB hbl, ↓gd]
   refine (pickI bs b (P + 1) 10 _ (by simp) (by omega) (by omega) hbs _ (hS2b _ _)).mono ?_
   rintro r S1 ⟨⟨x, hx, rfl⟩, rfl⟩
   simp -implicitDefEqProofs (disch := omega) only [push_cast, simprocAttr, stA hbl, stB hbl, ↓gd]
   refine ((l6Many_ok [120] (195 + x) (by simp; omega) (by omega) _).as (by simp)).mono ?_
   rintro r S1 ⟨⟨u, hu, rfl⟩, rfl⟩
   simp at hu
   simp -implicitDefEqProofs (disch := omega) only [push_cast, simprocAttr, stA hbl, stB hbl, ↓gd]
   exact fin ⟨0, (decide ((q3 : Int) = 0)), (1 + 2 * q2), u⟩ (P + 2) _ ⟨by simp only; omega, by simp only; omega, by simp only; omega⟩ (by omega)
  have j0 : ¬ (q9 : Int) = 0 := by omega
  have j1 : ¬ (q9 : Int) = 1 := by omega
  have j2 : ¬ (q9 : Int) = 2 := by omega
  simp -implicitDefEqProofs (disch := omega) only [push_cast, simprocAttr, stA hbl, stB hbl, j0, j1, j2, ↓gd]
  exact fin ⟨0, (decide ((q3 : Int) = 0)), (1 + 2 * q2), s⟩ (P + 1) _ ⟨by simp only; omega, by simp only; omega, hb9⟩ (by omega)
 ·simp -implicitDefEqProofs (disch := omega) only [push_cast, simprocAttr, stA hbl, stB hbl, ↓gd]
  refine ⟨by omega, rfl, ?_⟩
  refine (pickI bs b (p + 2) 2 _ (by simp) (by omega) (by omega) hbs _ (hS2b _ _)).mono ?_
  rintro r S1 ⟨⟨q3, hq3, rfl⟩, rfl⟩
  simp -implicitDefEqProofs (disch := omega) only [push_cast, simprocAttr, stA hbl, stB hbl, ↓gd]
  refine (l71Word_ok bs b (p + 3) (by omega) hbs _ (hS2b _ _)).mono ?_
  rintro r S1 ⟨⟨s, hs, rfl⟩, P, hP, rfl⟩
  simp -implicitDefEqProofs (disch := omega) only [push_cast, simprocAttr, stA hbl, stB hbl, ↓gd]
  refine (pickI bs b (P) 24 _ (by simp) (by omega) (by omega) hbs _ (hS2b _ _)).mono ?_
  rintro r S1 ⟨⟨q9, hq9, rfl⟩, rfl⟩
  have hb9 : (s : List UInt8).length ≤ 1000 := by omega
  by_cases e0 : q9 = 0
  ·subst e0
   simp -implicitDefEqProofs (disch := omega) only [push_cast, simprocAttr, stA hbl, stB hbl, ↓gd]
   refine (pickI bs b (P + 1) 10 _ (by simp) (by omega) (by omega) hbs _ (hS2b _ _)).mono ?_
   rintro r S1 ⟨⟨x, hx, rfl⟩, rfl⟩
   simp -implicitDefEqProofs (disch := omega) only [push_cast, simprocAttr, stA hbl, stB hbl, ↓gd]
   exact fin ⟨x, (decide ((q3 : Int) = 0)), (1 + 2 * q2), s⟩ (P + 2) _ ⟨by simp only; omega, by simp only; omega, hb9⟩ (by omega)
  by_cases e1 : q9 = 1
  ·subst e1
   simp -implicitDefEqProofs (disch := omega) only [push_cast, simprocAttr, stA hbl, stB hbl, ↓gd]
   refine (pickI bs b (P + 1) 10 _ (by simp) (by omega) (by omega) hbs _ (hS2b _ _)).mono ?_
   rintro r S1 ⟨⟨x, hx, rfl⟩, rfl⟩
   simp -implicitDefEqProofs (disch := omega) only [push_cast, simprocAttr, stA hbl, stB hbl, ↓gd]
   exact fin ⟨1, (decide ((q3 : Int) = 0)), x, s⟩ (P + 2) _ ⟨by simp only; omega, by simp only; omega, hb9⟩ (by omega)
  by_cases e2 : q9 = 2
  ·subst e2
   simp -implicitDefEqProofs (disch := omega) only [push_cast, simprocAttr, stA hbl, stB hbl, ↓gd]
   refine (pickI bs b (P + 1) 10 _ (by simp) (by omega) (by omega) hbs _ (hS2b _ _)).mono ?_
   rintro r S1 ⟨⟨x, hx, rfl⟩, rfl⟩
   simp -implicitDefEqProofs (disch := omega) only [push_cast, simprocAttr, stA hbl, stB hbl, ↓gd]
   refine ((l6Many_ok [120] (195 + x) (by simp; omega) (by omega) _).as (by simp)).mono ?_
   rintro r S1 ⟨⟨u, hu, rfl⟩, rfl⟩
   simp at hu
   simp -implicitDefEqProofs (disch := omega) only [push_cast, simprocAttr, stA hbl, stB hbl, ↓gd]
   exact fin ⟨1, (decide ((q3 : Int) = 0)), (1 + 2 * q2), u⟩ (P + 2) _ ⟨by simp only; omega, by simp only; omega, by simp only; omega⟩ (by omega)
  have j0 : ¬ (q9 : Int) = 0 := by omega
  have j1 : ¬ (q9 : Int) = 1 := by omega
  have j2 : ¬ (q9 : Int) = 2 := by omega
  simp -implicitDefEqProofs (disch := omega) only [push_cast, simprocAttr, stA hbl, stB hbl, j0, j1, j2, ↓gd]
  exact fin ⟨1, (decide ((q3 : Int) = 0)), (1 + 2 * q2), s⟩ (P + 1) _ ⟨by simp only; omega, by simp only; omega, hb9⟩ (by omega)
 ·simp -implicitDefEqProofs (disch := omega) only [push_cast, simprocAttr, stA hbl, stB hbl, ↓gd]
  refine ⟨by omega, rfl, ?_⟩
  refine (pickI bs b (p + 2) 24 _ (by simp) (by omega) (by omega) hbs _ (hS2b _ _)).mono ?_
  rintro r S1 ⟨⟨q9, hq9, rfl⟩, rfl⟩
  have hb9 : ([] : List UInt8).length ≤ 1000 := by simp
  by_cases e0 : q9 = 0
  ·subst e0
   simp -implicitDefEqProofs (disch := omega) only [push_cast, simprocAttr, stA hbl, stB hbl, ↓gd]
   refine (pickI bs b (p + 2 + 1) 10 _ (by simp) (by omega) (by omega) hbs _ (hS2b _ _)).mono ?_
   rintro r S1 ⟨⟨x, hx, rfl⟩, rfl⟩
   simp -implicitDefEqProofs (disch := omega) only [push_cast, simprocAttr, stA hbl, stB hbl, ↓gd]
   exact fin ⟨x, false, (1 + 2 * q2), []⟩ (p + 2 + 2) _ ⟨by simp only; omega, by simp only; omega, hb9⟩ (by omega)
  by_cases e1 : q9 = 1
  ·subst e1
   simp -implicitDefEqProofs (disch := omega) only [push_cast, simprocAttr, stA hbl, stB hbl, ↓gd]
   refine (pickI bs b (p + 2 + 1) 10 _ (by simp) (by omega) (by omega) hbs _ (hS2b _ _)).mono ?_
   rintro r S1 ⟨⟨x, hx, rfl⟩, rfl⟩
   simp -implicitDefEqProofs (disch := omega) only [push_cast, simprocAttr, stA hbl, stB hbl, ↓gd]
   exact fin ⟨3, false, x, []⟩ (p + 2 + 2) _ ⟨by simp only; omega, by simp only; omega, hb9⟩ (by omega)
  by_cases e2 : q9 = 2
  ·subst e2
   simp -implicitDefEqProofs (disch := omega) only [push_cast, simprocAttr, stA hbl, stB hbl, ↓gd]
   refine (pickI bs b (p + 2 + 1) 10 _ (by simp) (by omega) (by omega) hbs _ (hS2b _ _)).mono ?_
   rintro r S1 ⟨⟨x, hx, rfl⟩, rfl⟩
   simp -implicitDefEqProofs (disch := omega) only [push_cast, simprocAttr, stA hbl, stB hbl, ↓gd]
   refine ((l6Many_ok [120] (195 + x) (by simp; omega) (by omega) _).as (by simp)).mono ?_
   rintro r S1 ⟨⟨u, hu, rfl⟩, rfl⟩
   simp at hu
   simp -implicitDefEqProofs (disch := omega) only [push_cast, simprocAttr, stA hbl, stB hbl, ↓gd]
   exact fin ⟨3, false, (1 + 2 * q2), u⟩ (p + 2 + 2) _ ⟨by simp only; omega, by simp only; omega, by simp only; omega⟩ (by omega)
  have j0 : ¬ (q9 : Int) = 0 := by omega
  have j1 : ¬ (q9 : Int) = 1 := by omega
  have j2 : ¬ (q9 : Int) = 2 := by omega
  simp -implicitDefEqProofs (disch := omega) only [push_cast, simprocAttr, stA hbl, stB hbl, j0, j1, j2, ↓gd]
  exact fin ⟨3, false, (1 + 2 * q2), []⟩ (p + 2 + 1) _ ⟨by simp only; omega, by simp only; omega, hb9⟩ (by omega)
 ·simp -implicitDefEqProofs (disch := omega) only [push_cast, simprocAttr, stA hbl, stB hbl, ↓gd]
  refine ⟨by omega, rfl, ?_⟩
  refine (pickI bs b (p + 2) 31 _ (by simp) (by omega) (by omega) hbs _ (hS2b _ _)).mono ?_
  rintro r S1 ⟨⟨q3, hq3, rfl⟩, rfl⟩
  simp -implicitDefEqProofs (disch := omega) only [push_cast, simprocAttr, stA hbl, stB hbl, ↓gd]
  have e1 : (1 : Int) + q3 = ((1 + q3 : Nat) : Int) := by omega
  refine ((l1Byte_ok (1 + q3) _).as (by rw [← e1])).to ?_
  simp -implicitDefEqProofs (disch := omega) only [push_cast, simprocAttr, stA hbl, stB hbl, ↓gd]
  refine (pickI bs b (p + 3) 2 _ (by simp) (by omega) (by omega) hbs _ (hS2b _ _)).mono ?_
  rintro r S1 ⟨⟨q4, hq4, rfl⟩, rfl⟩
  have e2 : ∃ y : Nat, ((1 : Int) + 2 * q2) * q4 = y ∧ y ≤ 1000 := by
   rcases (by omega : q4 = 0 ∨ q4 = 1) with rfl | rfl
   ·exact ⟨0, by simp, by omega⟩
   ·exact ⟨1 + 2 * q2, by simp, by omega⟩
  obtain ⟨y, hy, hy2⟩ := e2
  simp -implicitDefEqProofs (disch := omega) only [push_cast, simprocAttr, stA hbl, stB hbl, hy, ↓gd]
  refine (pickI bs b (p + 4) 24 _ (by simp) (by omega) (by omega) hbs _ (hS2b _ _)).mono ?_
  rintro r S1 ⟨⟨q9, hq9, rfl⟩, rfl⟩
  have hb9 : ([by8 (1 + q3)] : List UInt8).length ≤ 1000 := by simp
  by_cases e0 : q9 = 0
  ·subst e0
   simp -implicitDefEqProofs (disch := omega) only [push_cast, simprocAttr, stA hbl, stB hbl, ↓gd]
   refine (pickI bs b (p + 4 + 1) 10 _ (by simp) (by omega) (by omega) hbs _ (hS2b _ _)).mono ?_
   rintro r S1 ⟨⟨x, hx, rfl⟩, rfl⟩
   simp -implicitDefEqProofs (disch := omega) only [push_cast, simprocAttr, stA hbl, stB hbl, ↓gd]
   exact fin ⟨x, false, y, [by8 (1 + q3)]⟩ (p + 4 + 2) _ ⟨by simp only; omega, by simp only; omega, hb9⟩ (by omega)
  by_cases e1 : q9 = 1
  ·subst e1
   simp -implicitDefEqProofs (disch := omega) only [push_cast, simprocAttr, stA hbl, stB hbl, ↓gd]
   refine (pickI bs b (p + 4 + 1) 10 _ (by simp) (by omega) (by omega) hbs _ (hS2b _ _)).mono ?_
   rintro r S1 ⟨⟨x, hx, rfl⟩, rfl⟩
   simp -implicitDefEqProofs (disch := omega) only [push_cast, simprocAttr, stA hbl, stB hbl, ↓gd]
   exact fin ⟨8, false, x, [by8 (1 + q3)]⟩ (p + 4 + 2) _ ⟨by simp only; omega, by simp only; omega, hb9⟩ (by omega)
  by_cases e2 : q9 = 2
  ·subst e2
   simp -implicitDefEqProofs (disch := omega) only [push_cast, simprocAttr, stA hbl, stB hbl, ↓gd]
   refine (pickI bs b (p + 4 + 1) 10 _ (by simp) (by omega) (by omega) hbs _ (hS2b _ _)).mono ?_
   rintro r S1 ⟨⟨x, hx, rfl⟩, rfl⟩
   simp -implicitDefEqProofs (disch := omega) only [push_cast, simprocAttr, stA hbl, stB hbl, ↓gd]
   refine ((l6Many_ok [120] (195 + x) (by simp; omega) (by omega) _).as (by simp)).mono ?_
   rintro r S1 ⟨⟨u, hu, rfl⟩, rfl⟩
   simp at hu
   simp -implicitDefEqProofs (disch := omega) only [push_cast, simprocAttr, stA hbl, stB hbl, ↓gd]
   exact fin ⟨8, false, y, u⟩ (p + 4 + 2) _ ⟨by simp only; omega, by simp only; omega, by simp only; omega⟩ (by omega)
  have j0 : ¬ (q9 : Int) = 0 := by omega
  have j1 : ¬ (q9 : Int) = 1 := by omega
  have j2 : ¬ (q9 : Int) = 2 := by omega
  simp -implicitDefEqProofs (disch := omega) only [push_cast, simprocAttr, stA hbl, stB hbl, j0, j1, j2, ↓gd]
  exact fin ⟨8, false, y, [by8 (1 + q3)]⟩ (p + 4 + 1) _ ⟨by simp only; omega, by simp only; omega, hb9⟩ (by omega)
end
section
open Go
theorem EnDr.new {S : List Blk} {b : Nat} {bs : List UInt8} {P : Nat} {e : En} {b1 c1 : Nat} {S' : List Blk} (h : EnDr S b bs P e b1 c1 S') (hb : S.length ≤ b) : EnNew S e b1 c1 S' :=
 ⟨h.at_, h.hb, h.hc, (Upd.refl [] S).then_ h.upd (fun j hj hm => by simp at hm; omega)⟩
theorem sFrameWrite_ok (f : Fr) (hf : FrB f) (S : List Blk) : VCall Tryz.prog 70 [frV f] S fun r S' => r = .str (if frameOk f then frW f else []) ∧ S' = S := by
 refine VCall.en hD Tryz.func70 Tryz.ntmps70 Tryz.results70 ?_
 simp -implicitDefEqProofs (disch := omega) only [push_cast, simprocAttr, ↓gd]
 refine ((sFrameOk_ok f _).as rfl).to ?_
 cases hE : frameOk f
 ·simp -implicitDefEqProofs (disch := omega) only [push_cast, simprocAttr, ↓gd]
  exact fin1 (.str _) rfl
 ·simp -implicitDefEqProofs (disch := omega) only [push_cast, simprocAttr, ↓gd]
  refine ((l12Write_ok f hf.1 hf.2.1 (by have := hf.2.2; omega) _).as rfl).to ?_
  simp -implicitDefEqProofs (disch := omega) only [push_cast, simprocAttr, ↓gd]
  exact fin1 (.str _) rfl
theorem DrawEndHear_ok (code : List UInt8) (hc : code.length ≤ 1073741824) (S : List Blk) :
  VCall Tryz.prog 36 [.rows none (code.map u8V)] S fun r S' => ∃ (e : En) (bs : List UInt8) (b1 c1 : Nat), (∃ wire, DrawnE e wire) ∧ bs.length ≤ 300 ∧ r = .tup [eV b1 c1 e, .str bs] ∧ EnNew S e b1 c1 S' := by
 refine VCall.ex hD (fun _ => false) (fun id => if id = 5 then [4, 2, 3, 4, 6, 6] else if id = 7 then [10, 12, 12, 12, 12, 12, 7, 8, 10, 12, 12, 12] else if id = 8 then [9, 11, 11, 11, 5, 9, 11, 11, 11, 11, 11] else []) Tryz.func36 Tryz.ntmps36 Tryz.results36 ?_
 simp -implicitDefEqProofs (disch := omega) only [push_cast, simprocAttr, ↓gd]
 refine (l6Open_ok code hc _).to ?_
 simp -implicitDefEqProofs (disch := omega) only [push_cast, simprocAttr, ↓gd]
 generalize hbs : code.take 2000 = bs
 have hbl : bs.length ≤ 2000 := by rw [← hbs, List.length_take]; omega
 refine (l72End_ok bs (S.length + 1) 0 (by omega) hbl _ (by simp -implicitDefEqProofs (disch := omega) only [push_cast, simprocAttr, ↓gd])).mono ?_
 rintro r S1 ⟨e, wire, P, b1, c1, he, rfl, hP, hdr⟩
 have k0 : S1[S.length]? = some (.cells 0 zE) := hdr.upd.get (by simp -implicitDefEqProofs (disch := omega) only [push_cast, simprocAttr, ↓gd]) (by simp)
 have hdr : EnDr S (S.length + 1) bs P e b1 c1 S1 := hdr.mk'
 have kr := hdr.rd
 have lr := lt_of_some kr
 have v0 := hdr.at_.var k0
 obtain ⟨hB, hwl⟩ := he.b
 have hS2b : ∀ B X, (S1.set (S.length + 1) B ++ X)[S.length + 1]? = some B := fun B X => stC lr _ _
 have fin : ∀ (Q : Nat) (o : List UInt8) (X : List Blk), o.length ≤ 300 → ∃ r S2, Wk S (.tup [eV b1 c1 e, .str o]) ((S1.set (S.length + 1) (Rd bs Q)).set S.length (.cells 0 (enC (.heap b1 e.strs.length) (.heap c1 e.wait.length) e)) ++ X) r S2 ∧
   ∃ (e : En) (bs : List UInt8) (b1 c1 : Nat), (∃ wire, DrawnE e wire) ∧ bs.length ≤ 300 ∧ r = .tup [eV b1 c1 e, .str bs] ∧ EnNew S e b1 c1 S2 := by
  intro Q o X ho
  exact ⟨_, _, Wk.refl _ _ _, e, o, b1, c1, ⟨wire, he⟩, ho, rfl, (((hdr.draw Q).set (j := S.length) _ (Nat.le_refl _) v0 (by omega)).app X).new (by omega)⟩
 simp -implicitDefEqProofs (disch := omega) only [push_cast, simprocAttr, k0, ↓gd]
 refine (pickI bs (S.length + 1) P 8 _ (by simp) (by omega) (by omega) hbl _ (by rw [List.getElem?_append_left lr]; exact kr)).mono ?_
 rintro r S2 ⟨⟨q, hq, rfl⟩, rfl⟩
 by_cases q0 : q = 0
 ·subst q0
  simp -implicitDefEqProofs (disch := omega) only [push_cast, simprocAttr, stA lr, stB lr, ↓gd]
  refine (l71Frame_ok bs (S.length + 1) (P + 1) (by omega) hbl _ (hS2b _ _)).mono ?_
  rintro r S2 ⟨⟨f, hf, rfl⟩, P2, hP2, rfl⟩
  simp -implicitDefEqProofs (disch := omega) only [push_cast, simprocAttr, stA lr, stB lr, ↓gd]
  refine ((sFrameWrite_ok f hf _).as rfl).to ?_
  simp -implicitDefEqProofs (disch := omega) only [push_cast, simprocAttr, stA lr, stB lr, k0, ↓gd]
  refine fin P2 _ _ ?_
  split
  ·rename_i hfo; rw [frW_len]; have := (frameOk_nat hfo).2.2; omega
  ·simp
 by_cases q1 : q = 1
 ·subst q1
  have emin : (if (40 : Int) < (wire.length : Int) then (40 : Int) else (wire.length : Int)) = ((min wire.length 40 : Nat) : Int) := by omega
  simp -implicitDefEqProofs (disch := omega) only [push_cast, simprocAttr, stA lr, stB lr, emin, ↓gd]
  refine ⟨by omega, by omega, ?_⟩
  refine (pickI bs (S.length + 1) (P + 1) 256 _ (by simp) (by omega) (by omega) hbl _ (hS2b _ _)).mono ?_
  rintro r S2 ⟨⟨x, hx, rfl⟩, rfl⟩
  simp -implicitDefEqProofs (disch := omega) only [push_cast, simprocAttr, stA lr, stB lr, k0, ↓gd]
  refine (l1Byte_ok x _).to ?_
  simp -implicitDefEqProofs (disch := omega) only [push_cast, simprocAttr, stA lr, stB lr, k0, ↓gd]
  refine ⟨by simp; omega, ?_⟩
  refine fin (P + 2) _ _ ?_
  simp
  omega
 have j0 : ¬ (q : Int) = 0 := by omega
 have j1 : ¬ (q : Int) = 1 := by omega
 simp -implicitDefEqProofs (disch := omega) only [push_cast, simprocAttr, stA lr, stB lr, j0, j1, ↓gd]
 refine (pickI bs (S.length + 1) (P + 1) 90 _ (by simp) (by omega) (by omega) hbl _ (hS2b _ _)).mono ?_
 rintro r S2 ⟨⟨x, hx, rfl⟩, rfl⟩
 have emin : (if ((1 : Int) + x) < (wire.length : Int) then ((1 : Int) + x) else (wire.length : Int)) = ((min wire.length (1 + x) : Nat) : Int) := by omega
 simp -implicitDefEqProofs (disch := omega) only [push_cast, simprocAttr, stA lr, stB lr, k0, emin, ↓gd]
 repeat refine And.intro (by omega) ?_
 refine fin (P + 2) _ _ ?_
 simp
 omega
end
section
open Go
theorem lkFields_self (a : List Fd) (ha : a.length ≤ 2000000) (S : List Blk) : VCall Tryz.prog 95 [.rows none (a.map fV), .rows none (a.map fV)] S fun r S' => r = .bool true ∧ S' = S := by
 have h := lkFields_ok a a ha ha S
 rw [decide_eq_true rfl] at h
 exact h
end
end Go.Proofs.YtodjmflbakfmjaaGreatDoor
