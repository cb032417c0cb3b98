/- What a call keeps at its end: some of the blocks, under new names; an array that is written no more. -/
import Derived.Test.YtblbaniokmgjgaaVlU
namespace Go.Proofs.Ytblbaniokmgjgaa
open Go
set_option linter.unusedVariables false
set_option linter.unusedSimpArgs false

def renC (ρ : Nat → Nat) : V → V
  | .rows (some τ) xs => .rows (some (ρ τ)) xs
  | .heap b n => .heap (ρ b) n
  | .ptr b o => .ptr (ρ b) o
  | v => v

def ren1 (ρ : Nat → Nat) : V → V
  | .agg cs => .agg (cs.map (renC ρ))
  | v => renC ρ v

def renT (ρ : Nat → Nat) : V → V
  | .tup vs => .tup (vs.map (ren1 ρ))
  | v => ren1 ρ v

/-- A cell that leads to blocks below n, and inside to blocks below m. -/
inductive Sh (m n : Nat) : V → Prop where
  | rows {tok : Option Nat} {xs : List V} : (∀ τ, tok = some τ → τ < n) → (∀ v ∈ xs.flatMap V.cells, Cl m v) → Sh m n (.rows tok xs)
  | heap {b l : Nat} : b < n → Sh m n (.heap b l)
  | ptr {b o : Nat} : b < n → Sh m n (.ptr b o)
  | cl {v : V} : Cl m v → Sh m n v

def Sh1 (m n : Nat) (v : V) : Prop := ∀ u ∈ v.cells, Sh m n u

def ShT (m n : Nat) : V → Prop
  | .tup vs => ∀ v ∈ vs, Sh1 m n v
  | v => Sh1 m n v

theorem renC_cl {ρ : Nat → Nat} {m : Nat} (hρ : ∀ j, j < m → ρ j = j) {v : V} (h : Cl m v) : renC ρ v = v := by
  cases h with
  | @rows tok xs ht _ =>
    cases tok with
    | none => rfl
    | some τ => simp only [renC, hρ τ (ht τ rfl)]
  | heap hb => simp only [renC, hρ _ hb]
  | ptr hb => simp only [renC, hρ _ hb]
  | _ => rfl

def Gh.ren (G : Gh) (ρ : Nat → Nat) (n : Nat) : Gh :=
  { n := n, ok := fun j => G.ok (ρ j), blk := fun j => G.blk (ρ j), fin := fun j => G.fin (ρ j), lim := fun j => G.lim (ρ j), sz := fun j => G.sz (ρ j), p := G.p }

section
variable {G : Gh} {w : World} {ρ : Nat → Nat} {m n : Nat}

theorem VR.renCl (hρ : ∀ j, j < m → ρ j = j) (hmn : m ≤ n) {v : V} {c : Value} (h : VR G w v c) (hc : Cl m v) : VR (G.ren ρ n) w v c := by
  have h1 : VR (G.cut m) w v c := h.cut (fun j _ => ⟨rfl, rfl, rfl, rfl, rfl⟩) rfl hc
  have he : Ext (G.cut m) w (G.ren ρ n) w := by
    refine ⟨hmn, fun j hj => ?_, fun b => Nat.le_refl _, fun _ _ _ => rfl⟩
    have e := hρ j hj
    simp [Gh.ren, Gh.cut, e]
  exact VR.ext he h1

theorem VR.renC (hρ : ∀ j, j < m → ρ j = j) (hmn : m ≤ n) {v : V} {c : Value} (h : VR G w (renC ρ v) c) (hs : Sh m n v) : VR (G.ren ρ n) w v c := by
  cases hs with
  | cl hc => rw [renC_cl hρ hc] at h; exact h.renCl hρ hmn hc
  | heap hb =>
    cases h with
    | heapNil _ => exact .heapNil hb
    | heap h1 h2 h3 h4 => exact .heap (G := G.ren ρ n) hb h2 h3 h4
  | ptr hb =>
    cases h with
    | ptr h1 h2 => exact .ptr (G := G.ren ρ n) hb h2
  | rows ht hx =>
    rename_i tok xs
    cases tok with
    | none =>
      cases h with
      | rowsNil _ => exact .rowsNil ht
      | rows vs a1 a2 a3 a4 a5 a6 a7 => exact .rows vs a1 (fun i v u hv hu => (a2 i v u hv hu).renCl hρ hmn (hx v (List.mem_of_getElem? hv))) a3 a4 a5 a6 (fun τ hτ => by cases hτ)
    | some τ =>
      cases h with
      | rowsNil _ => exact .rowsNil ht
      | rows vs a1 a2 a3 a4 a5 a6 a7 =>
        refine .rows vs a1 (fun i v u hv hu => (a2 i v u hv hu).renCl hρ hmn (hx v (List.mem_of_getElem? hv))) a3 a4 a5 a6 (fun τ' hτ => ?_)
        cases hτ
        obtain ⟨b1, b2, b3, b4, b5, b6⟩ := a7 (ρ τ) rfl
        exact ⟨ht τ rfl, b2, b3, b4, b5, b6⟩

theorem cells_not_agg {v : V} (h : ∀ cs, v ≠ .agg cs) : v.cells = [v] := by
  cases v <;> first | rfl | exact absurd rfl (h _)

theorem VR.ren1 (hρ : ∀ j, j < m → ρ j = j) (hmn : m ≤ n) {v : V} {c : Value} (h : VR G w (ren1 ρ v) c) (hs : Sh1 m n v) : VR (G.ren ρ n) w v c := by
  by_cases ha : ∃ cs, v = .agg cs
  · obtain ⟨cs, rfl⟩ := ha
    cases h with
    | agg hl hr ho =>
      refine .agg (by simpa using hl) (fun i v u hv hu => ?_) ho
      exact (hr i _ u (by rw [List.getElem?_map, hv]; rfl) hu).renC hρ hmn (hs v (List.mem_of_getElem? hv))
  · have hc : v.cells = [v] := cells_not_agg (fun cs e => ha ⟨cs, e⟩)
    have e : Ytblbaniokmgjgaa.ren1 ρ v = Ytblbaniokmgjgaa.renC ρ v := by
      cases v <;> first | rfl | exact absurd ⟨_, rfl⟩ ha
    rw [e] at h
    exact h.renC hρ hmn (hs v (by rw [hc]; exact List.mem_singleton.2 rfl))

theorem VR.renT (hρ : ∀ j, j < m → ρ j = j) (hmn : m ≤ n) {v : V} {c : Value} (h : VR G w (renT ρ v) c) (hs : ShT m n v) : VR (G.ren ρ n) w v c := by
  by_cases ha : ∃ cs, v = .tup cs
  · obtain ⟨cs, rfl⟩ := ha
    cases h with
    | tup hl hr =>
      refine .tup (by simpa using hl) (fun i v u hv hu => ?_)
      exact (hr i _ u (by rw [List.getElem?_map, hv]; rfl) hu).ren1 hρ hmn (hs v (List.mem_of_getElem? hv))
  · have e : Ytblbaniokmgjgaa.renT ρ v = Ytblbaniokmgjgaa.ren1 ρ v := by
      cases v <;> first | rfl | exact absurd ⟨_, rfl⟩ ha
    have e2 : ShT m n v = Sh1 m n v := by
      cases v <;> first | rfl | exact absurd ⟨_, rfl⟩ ha
    rw [e] at h
    rw [e2] at hs
    exact h.ren1 hρ hmn hs

theorem VR.cl' {v : V} {c : Value} (h : VR G w v c) (hn : G.n ≤ m) : Cl m v := by
  have mono : ∀ {a b : Nat} {v : V}, a ≤ b → Cl a v → Cl b v := by
    intro a b v hab h
    induction h with
    | int k m => exact .int k m
    | bool b => exact .bool b
    | str s => exact .str s
    | agg _ ih => exact .agg ih
    | tup _ ih => exact .tup ih
    | nils => exact .nils
    | rows ht _ ih => exact .rows (fun τ hτ => Nat.lt_of_lt_of_le (ht τ hτ) hab) ih
    | heap hb => exact .heap (Nat.lt_of_lt_of_le hb hab)
    | ptr hb => exact .ptr (Nat.lt_of_lt_of_le hb hab)
    | eptr _ ih => exact .eptr ih
    | nilp => exact .nilp
    | fn _ ih => exact .fn ih
    | junk => exact .junk
  exact mono hn h.cl

end

/-- What a kept block was, and what it is. -/
inductive BlkRen (ρ : Nat → Nat) (m n : Nat) : Blk → Blk → Prop where
  | dead {B : Blk} : BlkRen ρ m n B .dead
  | right {sz : Nat} : BlkRen ρ m n (.right sz) (.right sz)
  | cells {sz : Nat} {cs ds : List V} : ds = cs.map (renC ρ) → (∀ v ∈ cs, Sh m n v) → BlkRen ρ m n (.cells sz ds) (.cells sz cs)

/-- Some blocks are kept, under new names. -/
theorem Wk.keep {S0 S S' : List Blk} {r r' : V} (ρ : Nat → Nat) (h0 : S0.length ≤ S'.length) (hρ : ∀ j, j < S0.length → ρ j = j) (hinj : ∀ i j, i < S'.length → j < S'.length → ρ i = ρ j → i = j)
    (hr : r = renT ρ r') (hsr : ShT S0.length S'.length r')
    (hS : ∀ j B', S'[j]? = some B' → (j < S0.length ∧ S0[j]? = some B' ∧ S[j]? = some B') ∨ ∃ B, S[ρ j]? = some B ∧ BlkRen ρ S0.length S'.length B B') : Wk S0 r S r' S' := by
  subst hr
  intro G0 w0 G w c hR0 hE hv hR
  have hlt : ∀ {j : Nat} {B : Blk}, S'[j]? = some B → j < S'.length := by
    intro j B hj
    rcases Nat.lt_or_ge j S'.length with g | g
    · exact g
    · rw [List.getElem?_eq_none g] at hj; cases hj
  have hold : ∀ (j : Nat) (B' : Blk), S'[j]? = some B' → B'.live = true → ∃ B, S[ρ j]? = some B ∧ B.live = true := by
    intro j B' hj hl
    rcases hS j B' hj with ⟨g1, g2, g3⟩ | ⟨B, g1, g2⟩
    · exact ⟨B', by rw [hρ j g1]; exact g3, hl⟩
    · cases g2 with
      | dead => cases hl
      | right => exact ⟨_, g1, rfl⟩
      | cells => exact ⟨_, g1, rfl⟩
  have hn0 : G0.n = S0.length := hR0.n
  have hext : Ext G0 w0 (G.ren ρ S'.length) w := by
    refine ⟨by rw [hn0]; exact h0, fun j hj => ?_, hE.ext.p, hE.ext.cell⟩
    have e := hρ j (by omega)
    simp only [Gh.ren, e]
    exact hE.ext.same j hj
  refine ⟨G.ren ρ S'.length, hv.renT hρ h0 hsr, ⟨rfl, hR.fresh, ?_, ?_, ?_, ?_⟩, ⟨hext, hE.size, hE.os, hE.tape, hE.output, hE.other, ?_, hE.pk⟩⟩
  · intro j B hj hl hk
    obtain ⟨B0, g1, g2⟩ := hold j B hj hl
    exact hR.lt _ _ g1 g2 hk
  · intro j B hj hl hk
    rcases hS j B hj with ⟨g1, g2, g3⟩ | ⟨B1, g1, g2⟩
    · have e := hρ j g1
      have hk' : G.ok j = true := by simpa [Gh.ren, e] using hk
      have hk0 : G0.ok j = true := by rw [← (hE.ext.same j (by omega)).1]; exact hk'
      have hb := hR.live j B g3 hl hk'
      cases B with
      | dead => trivial
      | right sz => simpa [BlkOk, Gh.ren, e] using hb
      | cells sz cs =>
        obtain ⟨arr, ty, q1, q2, q3, q4, q5, q6⟩ := hb
        obtain ⟨arr0, ty0, f1, f2, f3, f4, f5, f6⟩ := hR0.live j _ g2 rfl hk0
        refine ⟨arr, ty, by simpa [Gh.ren, e] using q1, by simpa [Gh.ren, e] using q2, by simpa [Gh.ren, e] using q3, q4, by simpa [Gh.ren, e] using q5, fun i v u hv' hu => ⟨(q6 i v u hv' hu).1.renCl hρ h0 ?_, (q6 i v u hv' hu).2⟩⟩
        have hi : i < cs.length := by
          rcases Nat.lt_or_ge i cs.length with g | g
          · exact g
          · rw [List.getElem?_eq_none g] at hv'; cases hv'
        exact (f6 i v arr0[i] hv' (Array.getElem?_eq_getElem (by omega))).1.cl' (by omega)
    · cases g2 with
      | dead => trivial
      | right => exact hR.live _ _ g1 rfl hk
      | cells hds hsh =>
        rename_i sz cs ds
        subst hds
        obtain ⟨arr, ty, q1, q2, q3, q4, q5, q6⟩ := hR.live _ _ g1 rfl hk
        refine ⟨arr, ty, q1, q2, q3, by simpa using q4, q5, fun i v u hv' hu => ?_⟩
        have := q6 i (renC ρ v) u (by rw [List.getElem?_map, hv']; rfl) hu
        exact ⟨this.1.renC hρ h0 (hsh v (List.mem_of_getElem? hv')), this.2⟩
  · intro j sz cs hj hk
    rcases hS j _ hj with ⟨g1, g2, g3⟩ | ⟨B1, g1, g2⟩
    · exact hR.vac j sz cs g3 (by simpa [Gh.ren, hρ j g1] using hk)
    · cases g2 with
      | cells hds hsh =>
        rename_i ds
        have := hR.vac _ sz _ g1 hk
        rw [hds] at this
        simpa using this
  · intro i j B C hi hj hlB hlC hki hkj he
    obtain ⟨B1, b1, b2⟩ := hold i B hi hlB
    obtain ⟨C1, c1, c2⟩ := hold j C hj hlC
    exact hinj i j (hlt hi) (hlt hj) (hR.inj _ _ B1 C1 b1 c1 b2 c2 hki hkj he)
  · rintro b hb ⟨j, B, hj, hl, hk, rfl⟩
    obtain ⟨B1, b1, b2⟩ := hold j B hj hl
    exact hE.own _ hb ⟨ρ j, B1, b1, b2, hk, rfl⟩

/-- An array is written no more: its slice is one that is read for ever. -/
theorem freeze_ok {G : Gh} {w : World} {S : List Blk} {b m sz : Nat} {cs xs : List V} (hR : Rel G w S) (hS : S[b]? = some (.cells sz cs)) (hm : m * sz ≤ cs.length) (hxl : xs.length = m) (hxs : xs.flatMap V.cells = cs.take (m * sz)) :
    ∃ G', (∀ c, VR G w (.heap b m) c → VR G' w (.rows (some S.length) xs) c) ∧ Rel G' w (S.set b .dead ++ [.right sz]) ∧ Evol G w S G' w (S.set b .dead ++ [.right sz]) := by
  cases hk : G.ok b with
  | false =>
    have hcs := hR.vac b sz cs hS hk
    subst hcs
    have hm0 : m * sz = 0 := by simpa using hm
    obtain ⟨h1, h2⟩ := hR.kill b
    obtain ⟨h3, h4⟩ := h1.pushNil sz (.right sz) (fun z cs e => by cases e)
    refine ⟨_, fun c hv => ?_, h3, h2.trans h4⟩
    cases hv with
    | heap h1 h2 => rw [hk] at h2; cases h2
    | heapNil hb =>
      have hx : xs = [] := List.length_eq_zero_iff.1 hxl
      subst hx
      refine .rowsNil (fun τ hτ => ?_)
      cases hτ
      simp [Gh.pushNil, hR.n]
  | true =>
    obtain ⟨arr, ty, q1, q2, q3, q4, q5, q6⟩ := hR.live b _ hS rfl hk
    have hw : But w w (G.blk b) := ⟨rfl, rfl, rfl, rfl, fun _ _ => rfl⟩
    obtain ⟨h1, h2⟩ := hR.move hS rfl hk hw (m * sz) (G.lim b) sz (m * sz) (by rw [q2]; exact Nat.zero_le _) (fun _ _ => rfl) (B' := .right sz) rfl (fun hext => ⟨arr, ty, by simpa [Gh.push] using q1, by simp [Gh.push], by simpa [Gh.push] using q3, by simp [Gh.push]⟩)
    refine ⟨_, fun c hv => ?_, h1, h2⟩
    have hn := hR.n
    cases hv with
    | heapNil hb =>
      have hx : xs = [] := List.length_eq_zero_iff.1 hxl
      subst hx
      exact .rowsNil (fun τ hτ => by cases hτ; simp [Gh.push, hn])
    | @heap _ _ cap g1 g2 g3 g4 =>
      have hlen : (arr.toList.take (m * sz)).length = m * sz := by simp; omega
      have hrow : VR (G.push (G.blk b) (m * sz) (G.lim b) sz (m * sz)) w (.rows (some S.length) xs) (.slice (some ⟨G.blk b, 0, none⟩) xs.length cap) := by
        refine .rows (arr.toList.take (m * sz)) (by rw [hxs]; simp; omega) (fun i v u hv hu => ?_) (fun u hu => ?_) (fun i u hu => ?_) ?_ (by rw [hxl]; exact g3) (fun τ hτ => ?_)
        · rw [hxs, List.getElem?_take] at hv
          rw [List.getElem?_take] at hu
          split at hv
          · rename_i hi
            rw [if_pos hi] at hu
            exact (q6 i v u hv (by simpa using hu)).1.ext h2.ext
          · cases hv
        · obtain ⟨i, hi, rfl⟩ := List.getElem_of_mem hu
          have hi' : i < m * sz := by omega
          simp only [List.getElem_take]
          have := (q6 i cs[i] arr[i] (List.getElem?_eq_getElem (by omega)) (Array.getElem?_eq_getElem (by omega))).2
          simpa using this
        · rw [List.getElem?_take] at hu
          split at hu
          · rw [cell_blk q1, Nat.zero_add]; simpa using hu
          · cases hu
        · rw [hlen]; simp [Gh.push]
        · cases hτ
          refine ⟨by simp [Gh.push, hn], by simp [Gh.push, hn], by simp [Gh.push, hn], ?_, ?_, ?_⟩
          · rw [hlen]; simp [Gh.push, hn]
          · rw [hlen, hxl]; simp [Gh.push, hn]
          · simp only [Gh.push, hn, if_true, Nat.zero_add]; rw [← q5]; exact g4
      rw [hxl] at hrow
      exact hrow

def frC (b m : Nat) (v' : V) : V → V
  | .heap b' m' => if b' = b ∧ m' = m then v' else .heap b' m'
  | v => v

def fr1 (b m : Nat) (v' : V) : V → V
  | .agg cs => .agg (cs.map (frC b m v'))
  | v => frC b m v' v

theorem Wk.freeze {S0 S : List Blk} {r : V} {b m sz : Nat} {cs : List V} (xs : List V) (hS : S[b]? = some (.cells sz cs)) (hm : m * sz ≤ cs.length) (hxl : xs.length = m) (hxs : xs.flatMap V.cells = cs.take (m * sz)) :
    Wk S0 r S (fr1 b m (.rows (some S.length) xs) r) (S.set b .dead ++ [.right sz]) := by
  intro G0 w0 G w c hR0 hE hv hR
  obtain ⟨G', hu0, hR', hE'⟩ := freeze_ok hR hS hm hxl hxs
  refine ⟨G', ?_, hR', hE.trans hE'⟩
  have cell : ∀ v u, VR G w v u → VR G' w (frC b m (.rows (some S.length) xs) v) u := by
    intro v u hvu
    cases v with
    | heap b' m' =>
      simp only [frC]
      split
      · rename_i e
        obtain ⟨rfl, rfl⟩ := e
        exact hu0 u hvu
      · exact hvu.ext hE'.ext
    | _ => exact hvu.ext hE'.ext
  by_cases ha : ∃ cs, r = .agg cs
  · obtain ⟨cs, rfl⟩ := ha
    cases hv with
    | agg hl hr' ho =>
      refine .agg (by simpa using hl) (fun i v u hv hu => ?_) ho
      rw [List.getElem?_map] at hv
      cases hq : cs[i]? with
      | none => rw [hq] at hv; cases hv
      | some v0 => rw [hq] at hv; cases hv; exact cell _ _ (hr' i v0 u hq hu)
  · have e : fr1 b m (.rows (some S.length) xs) r = frC b m (.rows (some S.length) xs) r := by
      cases r <;> first | rfl | exact absurd ⟨_, rfl⟩ ha
    rw [e]
    exact cell _ _ hv

attribute [push_cast] renC ren1 renT frC fr1 ShT

end Go.Proofs.Ytblbaniokmgjgaa
