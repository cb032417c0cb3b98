/- A step that makes no block goes its way beside a block more. -/
import Derived.Test.YtblbaniokmgjgaaVlMx
namespace Go.Proofs.Ytblbaniokmgjgaa
open Go
set_option linter.unusedVariables false
set_option linter.unusedSimpArgs false

section
variable {P : Program}

theorem Cl.mono {a b : Nat} {v : V} (hab : a ≤ b) (h : Cl a v) : Cl b v := by
  induction h with
  | int k m => exact .int k m
  | bool b => exact .bool b
  | str s => exact .str s
  | agg _ ih => exact .agg ih
  | tup _ ih => exact .tup ih
  | nils => exact .nils
  | rows ht _ ih => exact .rows (fun τ hτ => Nat.lt_of_lt_of_le (ht τ hτ) hab) ih
  | heap hb => exact .heap (Nat.lt_of_lt_of_le hb hab)
  | ptr hb => exact .ptr (Nat.lt_of_lt_of_le hb hab)
  | eptr _ ih => exact .eptr ih
  | nilp => exact .nilp
  | fn _ ih => exact .fn ih
  | junk => exact .junk

def ClS (S : List Blk) : Prop := ∀ (j sz : Nat) (cs : List V), S[j]? = some (.cells sz cs) → ∀ v ∈ cs, Cl S.length v

theorem Rel.clS {G : Gh} {w : World} {S : List Blk} (h : Rel G w S) : ClS S := by
  intro j sz cs hj v hv
  cases hk : G.ok j with
  | false => rw [h.vac j sz cs hj hk] at hv; cases hv
  | true =>
    obtain ⟨arr, ty, f1, f2, f3, f4, f5, f6⟩ := h.live j _ hj rfl hk
    obtain ⟨i, hi, rfl⟩ := List.getElem_of_mem hv
    have := (f6 i cs[i] arr[i] (List.getElem?_eq_getElem hi) (Array.getElem?_eq_getElem (by omega))).1.cl
    rwa [h.n] at this

/-- A block that came last is left out. -/
theorem Rel.front {G : Gh} {w : World} {S : List Blk} {B : Blk} (h : Rel G w (S ++ [B])) (hS : ClS S) : Rel (G.cut S.length) w S := by
  have hget : ∀ (j : Nat) (C : Blk), S[j]? = some C → j < S.length ∧ (S ++ [B])[j]? = some C := by
    intro j C hj
    have hlt : j < S.length := by
      rcases Nat.lt_or_ge j S.length with g | g
      · exact g
      · rw [List.getElem?_eq_none g] at hj; cases hj
    exact ⟨hlt, by rw [List.getElem?_append_left hlt]; exact hj⟩
  refine ⟨rfl, h.fresh, fun j C hj hl hk => h.lt j C (hget j C hj).2 hl hk, ?_, fun j sz cs hj hk => h.vac j sz cs (hget j _ hj).2 hk, fun i j C D hi hj => h.inj i j C D (hget i C hi).2 (hget j D hj).2⟩
  intro j C hj hl hk
  have hb := h.live j C (hget j C hj).2 hl hk
  cases C with
  | dead => trivial
  | right sz => exact hb
  | cells sz cs =>
    obtain ⟨arr, ty, f1, f2, f3, f4, f5, f6⟩ := hb
    exact ⟨arr, ty, f1, f2, f3, f4, f5, fun i v u hv hu => ⟨(f6 i v u hv hu).1.cut (fun j hj => ⟨rfl, rfl, rfl, rfl, rfl⟩) rfl (hS j sz cs hj v (List.mem_of_getElem? hv)), (f6 i v u hv hu).2⟩⟩

theorem frame_step {o : Oper} {ρ : Operand → V} {S S' : List Blk} {v : V} (h : OpStep P o ρ S v S') (hlen : S'.length = S.length) {cs : List V} (hne : cs ≠ []) (hcs : ∀ v ∈ cs, Cl 0 v)
    (hρ : ∀ x ∈ o.op.operands, Cl S.length (ρ x)) (hS : ClS S) :
    ∀ (G : Gh) (a : Act) (w : World) (K : Act → World → Prop) (Q : Exit → Act → World → Prop), (∀ x ∈ o.op.operands, VR G w (ρ x) (a.eval x)) → Rel G w (S ++ [.cells 0 cs]) →
      (∀ c G' w', VR G' w' v c → Rel G' w' (S' ++ [.cells 0 cs]) → Evol G w (S ++ [.cells 0 cs]) G' w' (S' ++ [.cells 0 cs]) → ClS S' → K (a.put o.dst c) w') → o.wp P a w K Q := by
  intro G a w K Q hop hR hK
  have hn : G.n = S.length + 1 := by have := hR.n; simpa using this
  have hlast : (S ++ [Blk.cells 0 cs])[S.length]? = some (.cells 0 cs) := by simp
  have hok : G.ok S.length = true := by
    cases hk : G.ok S.length with
    | true => rfl
    | false => exact absurd (hR.vac _ 0 cs hlast hk) hne
  have hblt := hR.lt _ _ hlast rfl hok
  obtain ⟨arr, ty, f1, f2, f3, f4, f5, f6⟩ := hR.live _ _ hlast rfl hok
  have hR0 := hR.front hS
  have hno : ¬ Owns (G.cut S.length) S (G.blk S.length) := by
    rintro ⟨j, C, hj, hl, hk, e⟩
    have hlt : j < S.length := by
      rcases Nat.lt_or_ge j S.length with g | g
      · exact g
      · rw [List.getElem?_eq_none g] at hj; cases hj
    have := hR.inj j S.length C _ (by rw [List.getElem?_append_left hlt]; exact hj) hlast hl rfl hk hok e
    omega
  refine h (G.cut S.length) a w K Q (fun x hx => (hop x hx).cut (fun j hj => ⟨rfl, rfl, rfl, rfl, rfl⟩) rfl (hρ x hx)) hR0 (fun c G' w' hv hR' hE => ?_)
  have hn' : G'.n = S.length := by rw [hR'.n, hlen]
  have hheap := hE.other _ hblt hno
  have hpk := hE.pk _ hblt hno
  have hp0 : G'.p (G.blk S.length) = 0 := hpk.trans f2
  obtain ⟨G2, hG2⟩ : ∃ G2, G2 = G'.push (G.blk S.length) (G.fin S.length) (G.lim S.length) (G.sz S.length) 0 := ⟨_, rfl⟩
  have hp2 : ∀ b, G2.p b = G'.p b := by
    intro b
    rw [hG2]
    by_cases e : b = G.blk S.length
    · subst e; simp [Gh.push, hp0]
    · simp [Gh.push, e]
  have hext2 : Ext G' w' G2 w' := by
    refine ⟨by rw [hG2]; exact Nat.le_succ _, fun j hj => by rw [hG2]; exact Gh.push_lt hj _ _ _ _ _, fun b => by rw [hp2]; exact Nat.le_refl _, fun _ _ _ => rfl⟩
  have hat : G2.ok S.length = true ∧ G2.blk S.length = G.blk S.length ∧ G2.fin S.length = G.fin S.length ∧ G2.lim S.length = G.lim S.length ∧ G2.sz S.length = G.sz S.length := by
    rw [hG2]
    simp [Gh.push, hn']
  have hget : ∀ (j : Nat) (C : Blk), (S' ++ [Blk.cells 0 cs])[j]? = some C → (j < G'.n ∧ S'[j]? = some C) ∨ (j = S.length ∧ C = .cells 0 cs) := by
    intro j C hj
    rcases Nat.lt_trichotomy j S'.length with g | g | g
    · rw [List.getElem?_append_left g] at hj
      exact .inl ⟨by omega, hj⟩
    · rw [g, List.getElem?_append_right (Nat.le_refl _), Nat.sub_self] at hj
      cases hj
      exact .inr ⟨by omega, rfl⟩
    · rw [List.getElem?_eq_none (by simp; omega)] at hj; cases hj
  have hlt' : ∀ (j : Nat) (C : Blk), S'[j]? = some C → C.live = true → G2.ok j = true → j < G'.n → G'.ok j = true ∧ G2.blk j = G'.blk j := by
    intro j C hj hl hk hjn
    obtain ⟨a1, a2, _⟩ := hext2.same j hjn
    exact ⟨by rw [← a1]; exact hk, a2⟩
  have hno2 : ¬ Owns G' S' (G.blk S.length) := fun ho => hno (hE.own _ hblt ho)
  have hext : Ext G w G2 w' := by
    refine ⟨by rw [hn, hG2]; simp [Gh.push, hn'], fun j hj => ?_, fun b => by rw [hp2]; exact hE.ext.p b, fun b o ho => hE.ext.cell b o ho⟩
    rcases Nat.lt_or_ge j S.length with g | g
    · obtain ⟨a1, a2, a3, a4, a5⟩ := hE.ext.same j g
      obtain ⟨b1, b2, b3, b4, b5⟩ := hext2.same j (by omega)
      exact ⟨b1.trans a1, b2.trans a2, b3.trans a3, b4.trans a4, b5.trans a5⟩
    · have : j = S.length := by omega
      subst this
      obtain ⟨a1, a2, a3, a4, a5⟩ := hat
      exact ⟨a1.trans hok.symm, a2, a3, a4, a5⟩
  refine hK c G2 w' (hv.ext hext2) ⟨?_, ?_, ?_, ?_, ?_, ?_⟩ ⟨hext, hE.size, hE.os, hE.tape, hE.output, ?_, ?_, ?_⟩ hR'.clS
  · rw [hG2]; simp [Gh.push, hn', hlen]
  · intro b hb
    rw [hp2]
    exact hR'.fresh b hb
  · intro j C hj hl hk
    rcases hget j C hj with ⟨g, hj'⟩ | ⟨rfl, rfl⟩
    · obtain ⟨a1, a2⟩ := hlt' j C hj' hl hk g
      rw [a2]; exact hR'.lt j C hj' hl a1
    · rw [hat.2.1]; exact Nat.lt_of_lt_of_le hblt hE.size
  · intro j C hj hl hk
    rcases hget j C hj with ⟨g, hj'⟩ | ⟨rfl, rfl⟩
    · obtain ⟨a1, a2⟩ := hlt' j C hj' hl hk g
      exact (hR'.live j C hj' hl a1).keep hext2 g (hp2 _) rfl
    · obtain ⟨a1, a2, a3, a4, a5⟩ := hat
      refine ⟨arr, ty, by rw [a2, hheap]; exact f1, by rw [a2, hp2]; exact hp0, by rw [a4]; exact f3, f4, by rw [a5]; exact f5, fun i v u hv hu => ⟨?_, (f6 i v u hv hu).2⟩⟩
      have hc := hcs v (List.mem_of_getElem? hv)
      exact ((f6 i v u hv hu).1.ext hext)
  · intro j sz cs' hj hk
    rcases hget j _ hj with ⟨g, hj'⟩ | ⟨rfl, e⟩
    · exact hR'.vac j sz cs' hj' (by rw [← (hext2.same j g).1]; exact hk)
    · rw [hat.1] at hk; cases hk
  · intro i j C D hi hj hlC hlD hkC hkD e
    rcases hget i C hi with ⟨gi, hi'⟩ | ⟨rfl, rfl⟩ <;> rcases hget j D hj with ⟨gj, hj'⟩ | ⟨ej, eD⟩
    · obtain ⟨a1, a2⟩ := hlt' i C hi' hlC hkC gi
      obtain ⟨b1, b2⟩ := hlt' j D hj' hlD hkD gj
      exact hR'.inj i j C D hi' hj' hlC hlD a1 b1 (by rw [← a2, ← b2]; exact e)
    · exfalso
      subst ej
      obtain ⟨a1, a2⟩ := hlt' i C hi' hlC hkC gi
      rw [a2, hat.2.1] at e
      exact hno2 ⟨i, C, hi', hlC, a1, e⟩
    · exfalso
      obtain ⟨b1, b2⟩ := hlt' j D hj' hlD hkD gj
      rw [b2, hat.2.1] at e
      exact hno2 ⟨j, D, hj', hlD, b1, e.symm⟩
    · exact ej.symm
  · intro b hb hn0
    refine hE.other b hb (fun ho => hn0 ?_)
    obtain ⟨j, C, hj, hl, hk, e⟩ := ho
    have hlt : j < S.length := by
      rcases Nat.lt_or_ge j S.length with g | g
      · exact g
      · rw [List.getElem?_eq_none g] at hj; cases hj
    exact ⟨j, C, by rw [List.getElem?_append_left hlt]; exact hj, hl, hk, e⟩
  · rintro b hb ⟨j, C, hj, hl, hk, e⟩
    rcases hget j C hj with ⟨g, hj'⟩ | ⟨rfl, rfl⟩
    · obtain ⟨a1, a2⟩ := hlt' j C hj' hl hk g
      obtain ⟨j2, C2, hj2, hl2, hk2, e2⟩ := hE.own b hb ⟨j, C, hj', hl, a1, by rw [← a2]; exact e⟩
      have hlt : j2 < S.length := by
        rcases Nat.lt_or_ge j2 S.length with g2 | g2
        · exact g2
        · rw [List.getElem?_eq_none g2] at hj2; cases hj2
      exact ⟨j2, C2, by rw [List.getElem?_append_left hlt]; exact hj2, hl2, hk2, e2⟩
    · exact ⟨S.length, _, hlast, rfl, hok, by rw [← e, hat.2.1]⟩
  · intro b hb hn0
    rw [hp2]
    refine hE.pk b hb (fun ho => hn0 ?_)
    obtain ⟨j, C, hj, hl, hk, e⟩ := ho
    have hlt : j < S.length := by
      rcases Nat.lt_or_ge j S.length with g | g
      · exact g
      · rw [List.getElem?_eq_none g] at hj; cases hj
    exact ⟨j, C, by rw [List.getElem?_append_left hlt]; exact hj, hl, hk, e⟩

end
end Go.Proofs.Ytblbaniokmgjgaa
