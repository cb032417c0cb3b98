/- What a call forgets: blocks that nothing leads to any more. -/
import Derived.Test.YtblbaniokmgjgaaVlM
namespace Go.Proofs.Ytblbaniokmgjgaa
open Go
set_option linter.unusedVariables false
set_option linter.unusedSimpArgs false

/-- A value that leads to blocks below n alone. -/
inductive Cl (n : Nat) : V → Prop where
  | int (k : IntKind) (m : Int) : Cl n (.int k m)
  | bool (b : Bool) : Cl n (.bool b)
  | str (s : List UInt8) : Cl n (.str s)
  | agg {cs : List V} : (∀ v ∈ cs, Cl n v) → Cl n (.agg cs)
  | tup {cs : List V} : (∀ v ∈ cs, Cl n v) → Cl n (.tup cs)
  | nils : Cl n .nils
  | rows {tok : Option Nat} {xs : List V} : (∀ τ, tok = some τ → τ < n) → (∀ v ∈ xs.flatMap V.cells, Cl n v) → Cl n (.rows tok xs)
  | heap {b l : Nat} : b < n → Cl n (.heap b l)
  | ptr {b o : Nat} : b < n → Cl n (.ptr b o)
  | eptr {x : V} {o : Nat} : (∀ v ∈ x.cells, Cl n v) → Cl n (.eptr x o)
  | nilp : Cl n .nilp
  | fn {f : FuncId} {cap : List V} : (∀ v ∈ cap, Cl n v) → Cl n (.fn f cap)
  | junk : Cl n .junk

theorem Cl.cells {n : Nat} {v : V} (h : Cl n v) : ∀ u ∈ v.cells, Cl n u := by
  intro u hu
  cases h with
  | agg hc => exact hc u hu
  | _ => simp only [V.cells, List.mem_singleton] at hu; subst hu; constructor <;> assumption

theorem Cl.rows' {n : Nat} {xs : List V} (h : ∀ x ∈ xs, Cl n x) : Cl n (.rows none xs) := by
  refine .rows (fun τ hτ => by cases hτ) (fun v hv => ?_)
  obtain ⟨x, hx, hvx⟩ := List.mem_flatMap.1 hv
  exact (h x hx).cells v hvx

theorem VR.cl {G : Gh} {w : World} {v : V} {c : Value} (h : VR G w v c) : Cl G.n v := by
  induction h with
  | int k n => exact .int k n
  | bool b => exact .bool b
  | str s => exact .str s
  | agg hl _ ho ih =>
    refine .agg (fun v hv => ?_)
    obtain ⟨i, hi, rfl⟩ := List.getElem_of_mem hv
    exact ih i _ _ (List.getElem?_eq_getElem hi) (Array.getElem?_eq_getElem (by omega))
  | tup hl _ ih =>
    refine .tup (fun v hv => ?_)
    obtain ⟨i, hi, rfl⟩ := List.getElem_of_mem hv
    exact ih i _ _ (List.getElem?_eq_getElem hi) (Array.getElem?_eq_getElem (by omega))
  | nils => exact .nils
  | rowsNil ht => exact .rows ht (by simp)
  | rows vs hl _ ho hh hp hc ht ih =>
    refine .rows (fun τ hτ => (ht τ hτ).1) (fun v hv => ?_)
    obtain ⟨i, hi, rfl⟩ := List.getElem_of_mem hv
    exact ih i _ _ (List.getElem?_eq_getElem hi) (List.getElem?_eq_getElem (by omega))
  | heapNil hb => exact .heap hb
  | heap hb hk hc hl => exact .heap hb
  | ptr hb hk => exact .ptr hb
  | eptr vs hl _ ho hh hp ih =>
    refine .eptr (fun v hv => ?_)
    obtain ⟨i, hi, rfl⟩ := List.getElem_of_mem hv
    exact ih i _ _ (List.getElem?_eq_getElem hi) (List.getElem?_eq_getElem (by omega))
  | nilp => exact .nilp
  | fn hl _ ih =>
    refine .fn (fun v hv => ?_)
    obtain ⟨i, hi, rfl⟩ := List.getElem_of_mem hv
    exact ih i _ _ (List.getElem?_eq_getElem hi) (Array.getElem?_eq_getElem (by omega))
  | junk u => exact .junk


theorem VR.cut {G G' : Gh} {w : World} {v : V} {c : Value} (h : VR G w v c) (hs : ∀ j, j < G'.n → G'.ok j = G.ok j ∧ G'.blk j = G.blk j ∧ G'.fin j = G.fin j ∧ G'.lim j = G.lim j ∧ G'.sz j = G.sz j) (hp : G'.p = G.p) (hc : Cl G'.n v) : VR G' w v c := by
  induction h with
  | int k n => exact .int k n
  | bool b => exact .bool b
  | str s => exact .str s
  | agg hl _ ho ih =>
    cases hc with
    | agg hcs => exact .agg hl (fun i v u hv hu => ih i v u hv hu (hcs v (List.mem_of_getElem? hv))) ho
  | tup hl _ ih =>
    cases hc with
    | tup hcs => exact .tup hl (fun i v u hv hu => ih i v u hv hu (hcs v (List.mem_of_getElem? hv)))
  | nils => exact .nils
  | rowsNil ht =>
    cases hc with
    | rows ht' _ => exact .rowsNil ht'
  | rows vs hl _ ho hh hpp hcap ht ih =>
    cases hc with
    | rows ht' hcs =>
      refine .rows vs hl (fun i v u hv hu => ih i v u hv hu (hcs v (List.mem_of_getElem? hv))) ho hh (by rw [hp]; exact hpp) hcap (fun τ hτ => ?_)
      obtain ⟨h1, h2, h3, h4, h5, h6⟩ := ht τ hτ
      obtain ⟨a1, a2, a3, a4, a5⟩ := hs τ (ht' τ hτ)
      exact ⟨ht' τ hτ, a1.trans h2, a2.trans h3, by rw [a3]; exact h4, by rw [a5]; exact h5, by rw [a5, a4]; exact h6⟩
  | heapNil hb =>
    cases hc with
    | heap hb' => exact .heapNil hb'
  | heap hb hk hcap hl =>
    cases hc with
    | heap hb' =>
      obtain ⟨a1, a2, a3, a4, a5⟩ := hs _ hb'
      rw [← a2]
      exact .heap hb' (a1.trans hk) hcap (by rw [a5, a4]; exact hl)
  | ptr hb hk =>
    cases hc with
    | ptr hb' =>
      obtain ⟨a1, a2, a3, a4, a5⟩ := hs _ hb'
      rw [← a2]
      exact .ptr hb' (a1.trans hk)
  | eptr vs hl _ ho hh hpp ih =>
    cases hc with
    | eptr hcs => exact .eptr vs hl (fun i v u hv hu => ih i v u hv hu (hcs v (List.mem_of_getElem? hv))) ho hh (by rw [hp]; exact hpp)
  | nilp => exact .nilp
  | fn hl _ ih =>
    cases hc with
    | fn hcs => exact .fn hl (fun i v u hv hu => ih i v u hv hu (hcs v (List.mem_of_getElem? hv)))
  | junk u => exact .junk u

/-- What a call may forget at its end. -/
def Wk (S0 : List Blk) (r : V) (S : List Blk) (r' : V) (S' : List Blk) : Prop :=
  ∀ (G0 : Gh) (w0 : World) (G : Gh) (w : World) (c : Value), Rel G0 w0 S0 → Evol G0 w0 S0 G w S → VR G w r c → Rel G w S → ∃ G', VR G' w r' c ∧ Rel G' w S' ∧ Evol G0 w0 S0 G' w S'

theorem Wk.refl (S0 : List Blk) (r : V) (S : List Blk) : Wk S0 r S r S := fun _ _ G _ _ _ hE hv hR => ⟨G, hv, hR, hE⟩

theorem Wk.trans {S0 S1 S2 S3 : List Blk} {r1 r2 r3 : V} (h : Wk S0 r1 S1 r2 S2) (k : Wk S0 r2 S2 r3 S3) : Wk S0 r1 S1 r3 S3 := by
  intro G0 w0 G w c h0 hE hv hR
  obtain ⟨G', h1, h2, h3⟩ := h G0 w0 G w c h0 hE hv hR
  exact k G0 w0 G' w c h0 h3 h1 h2

/-- Blocks that came last are forgotten. -/
theorem Wk.cut {S0 S : List Blk} {r : V} {n : Nat} (h0 : S0.length ≤ n) (hn : n ≤ S.length) (hr : Cl n r)
    (hS : ∀ j sz cs, j < n → S[j]? = some (.cells sz cs) → S0[j]? = some (.cells sz cs) ∨ ∀ v ∈ cs, Cl n v) : Wk S0 r S r (S.take n) := by
  intro G0 w0 G w c hR0 hE hv hR
  have hs : ∀ j, j < (G.cut n).n → (G.cut n).ok j = G.ok j ∧ (G.cut n).blk j = G.blk j ∧ (G.cut n).fin j = G.fin j ∧ (G.cut n).lim j = G.lim j ∧ (G.cut n).sz j = G.sz j := fun j _ => ⟨rfl, rfl, rfl, rfl, rfl⟩
  have hGn : (G.cut n).n = n := rfl
  have hget : ∀ (j : Nat) (B : Blk), (S.take n)[j]? = some B → j < n ∧ S[j]? = some B := by
    intro j B hj
    rw [List.getElem?_take] at hj
    split at hj
    · rename_i g; exact ⟨g, hj⟩
    · cases hj
  have hG0n : G0.n ≤ n := by rw [hR0.n]; exact h0
  have hext : Ext G0 w0 (G.cut n) w := ⟨hG0n, fun j hj => hE.ext.same j hj, hE.ext.p, hE.ext.cell⟩
  refine ⟨G.cut n, hv.cut hs rfl hr, ⟨by simp [Gh.cut]; omega, hR.fresh, ?_, ?_, ?_, ?_⟩, ⟨hext, hE.size, hE.os, hE.tape, hE.output, hE.other, ?_, hE.pk⟩⟩
  · intro j B hj hl hk
    exact hR.lt j B (hget j B hj).2 hl hk
  · intro j B hj hl hk
    obtain ⟨hjn, hj'⟩ := hget j B hj
    have hb := hR.live j B hj' hl hk
    cases B with
    | dead => trivial
    | right sz => exact hb
    | cells sz cs =>
      obtain ⟨arr, ty, g1, g2, g3, g4, g5, g6⟩ := hb
      refine ⟨arr, ty, g1, g2, g3, g4, g5, fun i v u hv' hu => ⟨(g6 i v u hv' hu).1.cut hs rfl ?_, (g6 i v u hv' hu).2⟩⟩
      rw [hGn]
      rcases hS j sz cs hjn hj' with h1 | h1
      · have hk0 : G0.ok j = true := by
          have hj0 : j < G0.n := hR0.get_lt h1
          rw [← (hE.ext.same j hj0).1]; exact hk
        obtain ⟨arr0, ty0, f1, f2, f3, f4, f5, f6⟩ := hR0.live j _ h1 rfl hk0
        have hi : i < cs.length := by
          rcases Nat.lt_or_ge i cs.length with g | g
          · exact g
          · rw [List.getElem?_eq_none g] at hv'; cases hv'
        have hcl := (f6 i v arr0[i] hv' (Array.getElem?_eq_getElem (by omega))).1.cl
        -- below the first blocks is below n
        have mono : ∀ {a b : Nat} {v : V}, a ≤ b → Cl a v → Cl b v := by
          intro a b v hab h
          induction h with
          | int k m => exact .int k m
          | bool b => exact .bool b
          | str s => exact .str s
          | agg _ ih => exact .agg ih
          | tup _ ih => exact .tup ih
          | nils => exact .nils
          | rows ht _ ih => exact .rows (fun τ hτ => Nat.lt_of_lt_of_le (ht τ hτ) hab) ih
          | heap hb => exact .heap (Nat.lt_of_lt_of_le hb hab)
          | ptr hb => exact .ptr (Nat.lt_of_lt_of_le hb hab)
          | eptr _ ih => exact .eptr ih
          | nilp => exact .nilp
          | fn _ ih => exact .fn ih
          | junk => exact .junk
        exact mono hG0n hcl
      · exact h1 v (List.mem_of_getElem? hv')
  · intro j sz cs hj hk
    exact hR.vac j sz cs (hget j _ hj).2 hk
  · intro i j B C hi hj hlB hlC hki hkj he
    exact hR.inj i j B C (hget i B hi).2 (hget j C hj).2 hlB hlC hki hkj he
  · rintro b hb ⟨j, B, hj, hl, hk, rfl⟩
    exact hE.own _ hb ⟨j, B, (hget j B hj).2, hl, hk, rfl⟩

/-- All that was made is forgotten. -/
theorem Wk.pure {S0 X : List Blk} {r : V} (hr : Cl S0.length r) : Wk S0 r (S0 ++ X) r S0 := by
  have h := Wk.cut (S0 := S0) (S := S0 ++ X) (r := r) (n := S0.length) (Nat.le_refl _) (by simp) hr (fun j sz cs hj h => .inl (by rwa [List.getElem?_append_left hj] at h))
  rwa [List.take_left] at h

/-- All that was made is forgotten; one block that was there holds something else. -/
theorem Wk.set {S0 X : List Blk} {r : V} {b sz : Nat} {cs : List V} (hr : Cl S0.length r) (hc : ∀ v ∈ cs, Cl S0.length v) : Wk S0 r (S0.set b (.cells sz cs) ++ X) r (S0.set b (.cells sz cs)) := by
  have h := Wk.cut (S0 := S0) (S := S0.set b (.cells sz cs) ++ X) (r := r) (n := S0.length) (Nat.le_refl _) (by simp) hr (fun j sz' cs' hj h => by
    rw [List.getElem?_append_left (by simpa using hj), List.getElem?_set] at h
    split at h
    · split at h
      · cases h; exact .inr hc
      · cases h
    · exact .inl h)
  have e : (S0.set b (.cells sz cs)).length = S0.length := by simp
  rw [← e, List.take_left] at h
  exact h

/-- A slice that was built may be held for ever at once. -/
theorem RunOk.frozen {P : Program} {o : Oper} {ρ : Operand → V} {S : List Blk} {xs : List V} {sz : Nat} (h : RunOk P o ρ S (.rows (some S.length) xs) (S ++ [.right sz]))
    (hx : ∀ (G : Gh) (w : World) (ev : Operand → Value), (∀ x ∈ o.op.operands, VR G w (ρ x) (ev x)) → ∀ v ∈ xs.flatMap V.cells, Cl G.n v) : RunOk P o ρ S (.rows none xs) S := by
  intro G ev w hop hR
  obtain ⟨c, w', G', hr, hv, hR', hE⟩ := h G ev w hop hR
  have hv' : VR G' w' (.rows none xs) c := by
    cases hv with
    | rowsNil ht => exact .rowsNil (fun τ hτ => by cases hτ)
    | rows vs a1 a2 a3 a4 a5 a6 a7 => exact .rows vs a1 a2 a3 a4 a5 a6 (fun τ hτ => by cases hτ)
  have hcl : Cl S.length (.rows none xs) := .rows (fun τ hτ => by cases hτ) (fun v hv => by rw [← hR.n]; exact hx G w ev hop v hv)
  obtain ⟨G2, h1, h2, h3⟩ := Wk.pure (X := [.right sz]) hcl G w G' w' c hR hE hv' hR'
  exact ⟨c, w', G2, hr, h1, h2, h3⟩

end Go.Proofs.Ytblbaniokmgjgaa
