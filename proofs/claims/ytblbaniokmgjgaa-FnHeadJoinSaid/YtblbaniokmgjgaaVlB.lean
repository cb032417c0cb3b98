/- How the relation between abstract and concrete memory lives through a new block, a write, an append, a draw. -/
import Derived.Test.YtblbaniokmgjgaaVlA
namespace Go.Proofs.Ytblbaniokmgjgaa
open Go
set_option linter.unusedVariables false
set_option linter.unusedSimpArgs false

theorem cell_blk {w : World} {b : Nat} {arr : Array Value} {ty : TypeId} {fr : Nat × Nat} (h : w.heap[b]? = some (.cells arr ty fr)) (o : Nat) : w.cell? ⟨b, o, none⟩ = arr[o]? := by
  simp [World.cell?, h]

theorem cell_same {w w' : World} {b : Nat} (h : w'.heap[b]? = w.heap[b]?) (o : Nat) : w'.cell? ⟨b, o, none⟩ = w.cell? ⟨b, o, none⟩ := by
  simp [World.cell?, h]

/-- Two worlds that part in one block alone. -/
structure But (w w' : World) (b : Nat) : Prop where
  size : w'.heap.size = w.heap.size
  os : w'.os = w.os
  tape : w'.tape = w.tape
  output : w'.output = w.output
  other : ∀ k, k ≠ b → w'.heap[k]? = w.heap[k]?

def Gh.push (G : Gh) (b fin lim sz : Nat) (p : Nat) : Gh :=
  { n := G.n + 1, ok := fun j => if j = G.n then true else G.ok j, blk := fun j => if j = G.n then b else G.blk j, fin := fun j => if j = G.n then fin else G.fin j,
    lim := fun j => if j = G.n then lim else G.lim j, sz := fun j => if j = G.n then sz else G.sz j, p := fun k => if k = b then p else G.p k }

/-- A block without a place in memory: an array without elements. -/
def Gh.pushNil (G : Gh) (sz : Nat) : Gh :=
  { n := G.n + 1, ok := fun j => if j = G.n then false else G.ok j, blk := G.blk, fin := G.fin, lim := fun j => if j = G.n then 0 else G.lim j, sz := fun j => if j = G.n then sz else G.sz j, p := G.p }

section
variable {G : Gh} {w w' : World} {S : List Blk}

theorem Gh.push_lt {j : Nat} (h : j < G.n) (b fin lim sz p : Nat) : (G.push b fin lim sz p).ok j = G.ok j ∧ (G.push b fin lim sz p).blk j = G.blk j ∧ (G.push b fin lim sz p).fin j = G.fin j ∧
    (G.push b fin lim sz p).lim j = G.lim j ∧ (G.push b fin lim sz p).sz j = G.sz j := by
  have hne : j ≠ G.n := by omega
  simp [Gh.push, hne]

theorem Rel.get_lt (h : Rel G w S) {j : Nat} {B : Blk} (hj : S[j]? = some B) : j < G.n := by
  rw [h.n]
  rcases Nat.lt_or_ge j S.length with g | g
  · exact g
  · rw [List.getElem?_eq_none g] at hj; cases hj

theorem BlkOk.keep {G' : Gh} {j : Nat} {B : Blk} (he : Ext G w G' w') (hj : j < G.n) (hp : G'.p (G.blk j) = G.p (G.blk j)) (hw : w'.heap[G.blk j]? = w.heap[G.blk j]?) (h : BlkOk G w j B) : BlkOk G' w' j B := by
  obtain ⟨a1, a2, a3, a4, a5⟩ := he.same j hj
  cases B with
  | cells sz cs =>
    obtain ⟨arr, ty, h1, h2, h3, h4, h5, h6⟩ := h
    exact ⟨arr, ty, by rw [a2, hw]; exact h1, by rw [a2, hp]; exact h2, by rw [a4]; exact h3, h4, by rw [a5]; exact h5, fun i v u hv hu => ⟨((h6 i v u hv hu).1).ext he, (h6 i v u hv hu).2⟩⟩
  | right sz =>
    obtain ⟨arr, ty, h1, h2, h3, h4⟩ := h
    exact ⟨arr, ty, by rw [a2, hw]; exact h1, by rw [a2, a3, hp]; exact h2, by rw [a4]; exact h3, by rw [a5]; exact h4⟩
  | dead => trivial

/-- A new concrete block, with a new abstract one. -/
theorem Rel.pushNew (h : Rel G w S) (hs : w'.heap.size = w.heap.size + 1) (ho : ∀ k, k < w.heap.size → w'.heap[k]? = w.heap[k]?) (hos : w'.os = w.os) (ht : w'.tape = w.tape) (hout : w'.output = w.output)
    (fin lim sz p : Nat) (B : Blk) (hB : Ext G w (G.push w.heap.size fin lim sz p) w' → BlkOk (G.push w.heap.size fin lim sz p) w' G.n B) :
    Rel (G.push w.heap.size fin lim sz p) w' (S ++ [B]) ∧ Evol G w S (G.push w.heap.size fin lim sz p) w' (S ++ [B]) := by
  have hext : Ext G w (G.push w.heap.size fin lim sz p) w' := by
    refine ⟨Nat.le_succ _, fun j hj => Gh.push_lt hj _ _ _ _ _, fun b => ?_, fun b o hb => ?_⟩
    · by_cases hb : b = w.heap.size
      · simp [Gh.push, hb, h.fresh w.heap.size (Nat.le_refl _)]
      · simp [Gh.push, hb]
    · have hlt : b < w.heap.size := by
        rcases Nat.lt_or_ge b w.heap.size with g | g
        · exact g
        · rw [h.fresh b g] at hb; omega
      exact cell_same (ho b hlt) o
  have hget : ∀ j C, (S ++ [B])[j]? = some C → (j < G.n ∧ S[j]? = some C) ∨ (j = G.n ∧ C = B) := by
    intro j C hj
    rcases Nat.lt_trichotomy j S.length with g | g | g
    · rw [List.getElem?_append_left g] at hj
      exact .inl ⟨by rw [h.n]; exact g, hj⟩
    · subst g
      simp at hj
      exact .inr ⟨h.n.symm, hj.symm⟩
    · rw [List.getElem?_eq_none (by simp; omega)] at hj; cases hj
  refine ⟨⟨by simp [Gh.push, h.n], fun b hb => ?_, ?_, ?_, ?_, ?_⟩, ⟨hext, by omega, hos, ht, hout, fun b hb _ => ho b hb, ?_, fun b hb _ => by simp [Gh.push, show b ≠ w.heap.size by omega]⟩⟩
  · have : b ≠ w.heap.size := by omega
    simp only [Gh.push, this, if_false]
    exact h.fresh b (by omega)
  · intro j C hj hl hk
    rcases hget j C hj with ⟨g, hj'⟩ | ⟨g, rfl⟩
    · obtain ⟨a1, a2, _⟩ := hext.same j g
      rw [a2]
      have := h.lt j C hj' hl (by rw [← a1]; exact hk)
      omega
    · subst g; simp [Gh.push]; omega
  · intro j C hj hl hk
    rcases hget j C hj with ⟨g, hj'⟩ | ⟨g, rfl⟩
    · obtain ⟨a1, a2, _⟩ := hext.same j g
      have hk' : G.ok j = true := by rw [← a1]; exact hk
      have hlt := h.lt j C hj' hl hk'
      exact (h.live j C hj' hl hk').keep hext g (by have : G.blk j ≠ w.heap.size := by omega
                                                    simp [Gh.push, this]) (ho _ hlt)
    · subst g; exact hB hext
  · intro j sz' cs hj hk
    rcases hget j _ hj with ⟨g, hj'⟩ | ⟨g, hc⟩
    · exact h.vac j sz' cs hj' (by rw [← (hext.same j g).1]; exact hk)
    · subst g; simp [Gh.push] at hk
  · intro i j C D hi hj hlC hlD hki hkj he
    rcases hget i C hi with ⟨gi, hi'⟩ | ⟨gi, rfl⟩ <;> rcases hget j D hj with ⟨gj, hj'⟩ | ⟨gj, hD⟩
    · obtain ⟨a1, a2, _⟩ := hext.same i gi
      obtain ⟨b1, b2, _⟩ := hext.same j gj
      exact h.inj i j C D hi' hj' hlC hlD (by rw [← a1]; exact hki) (by rw [← b1]; exact hkj) (by rw [← a2, ← b2]; exact he)
    · obtain ⟨a1, a2, _⟩ := hext.same i gi
      have := h.lt i C hi' hlC (by rw [← a1]; exact hki)
      rw [a2] at he
      subst gj
      simp [Gh.push] at he
      omega
    · obtain ⟨b1, b2, _⟩ := hext.same j gj
      have := h.lt j D hj' hlD (by rw [← b1]; exact hkj)
      rw [b2] at he
      subst gi
      simp [Gh.push] at he
      omega
    · omega
  · rintro b hb ⟨j, C, hj, hl, hk, rfl⟩
    rcases hget j C hj with ⟨g, hj'⟩ | ⟨g, rfl⟩
    · obtain ⟨a1, a2, _⟩ := hext.same j g
      exact ⟨j, C, hj', hl, by rw [← a1]; exact hk, by rw [a2]⟩
    · subst g; simp [Gh.push] at hb

/-- An abstract block dies. -/
theorem Rel.kill (h : Rel G w S) (τ : Nat) : Rel G w (S.set τ .dead) ∧ Evol G w S G w (S.set τ .dead) := by
  have hget : ∀ (j : Nat) (C : Blk), (S.set τ .dead)[j]? = some C → C.live = true → S[j]? = some C ∧ j ≠ τ := by
    intro j C hj hl
    rw [List.getElem?_set] at hj
    by_cases e : τ = j
    · rw [if_pos e] at hj
      split at hj
      · cases hj; cases hl
      · cases hj
    · rw [if_neg e] at hj; exact ⟨hj, fun g => e g.symm⟩
  refine ⟨⟨by simp [h.n], h.fresh, fun j C hj hl => h.lt j C (hget j C hj hl).1 hl, fun j C hj hl => h.live j C (hget j C hj hl).1 hl, fun j sz cs hj => ?_, ?_⟩,
    ⟨Ext.refl _ _, Nat.le_refl _, rfl, rfl, rfl, fun _ _ _ => rfl, ?_, fun _ _ _ => rfl⟩⟩
  · exact h.vac j sz cs (hget j _ hj rfl).1
  · intro i j C D hi hj hlC hlD
    exact h.inj i j C D (hget i C hi hlC).1 (hget j D hj hlD).1 hlC hlD
  · rintro b _ ⟨j, C, hj, hl, hk, he⟩
    exact ⟨j, C, (hget j C hj hl).1, hl, hk, he⟩

/-- A live block is written. -/
theorem Rel.touch (h : Rel G w S) {j : Nat} {B B' : Blk} (hj : S[j]? = some B) (hl : B.live = true) (hk : G.ok j = true) (hb : But w w' (G.blk j)) (hp : G.p (G.blk j) = 0) (hl' : B'.live = true)
    (hB : Ext G w G w' → BlkOk G w' j B') : Rel G w' (S.set j B') ∧ Evol G w S G w' (S.set j B') := by
  have hext : Ext G w G w' := ⟨Nat.le_refl _, fun _ _ => ⟨rfl, rfl, rfl, rfl, rfl⟩, fun _ => Nat.le_refl _, fun b o ho => by
    by_cases e : b = G.blk j
    · subst e; omega
    · exact cell_same (hb.other b e) o⟩
  have hlt : j < S.length := by rw [← h.n]; exact h.get_lt hj
  have hget : ∀ (i : Nat) (C : Blk), (S.set j B')[i]? = some C → (i = j ∧ C = B') ∨ (i ≠ j ∧ S[i]? = some C) := by
    intro i C hi
    rw [List.getElem?_set] at hi
    by_cases e : j = i
    · rw [if_pos e] at hi
      rw [if_pos hlt] at hi
      cases hi; exact .inl ⟨e.symm, rfl⟩
    · rw [if_neg e] at hi; exact .inr ⟨fun g => e g.symm, hi⟩
  refine ⟨⟨by simp [h.n], fun b hb' => h.fresh b (by rw [← hb.size]; exact hb'), ?_, ?_, ?_, ?_⟩, ⟨hext, by rw [hb.size]; exact Nat.le_refl _, hb.os, hb.tape, hb.output, ?_, ?_, fun _ _ _ => rfl⟩⟩
  · intro i C hi hlC hkC
    rw [hb.size]
    rcases hget i C hi with ⟨rfl, rfl⟩ | ⟨_, hi'⟩
    · exact h.lt i B hj hl hk
    · exact h.lt i C hi' hlC hkC
  · intro i C hi hlC hkC
    rcases hget i C hi with ⟨rfl, rfl⟩ | ⟨hne, hi'⟩
    · exact hB hext
    · exact (h.live i C hi' hlC hkC).keep hext (h.get_lt hi') rfl (hb.other _ (fun e => hne (h.inj i j C B hi' hj hlC hl hkC hk e)))
  · intro i sz cs hi hkC
    rcases hget i _ hi with ⟨rfl, _⟩ | ⟨_, hi'⟩
    · rw [hk] at hkC; cases hkC
    · exact h.vac i sz cs hi' hkC
  · intro i k C D hi hk' hlC hlD hkC hkD e
    rcases hget i C hi with ⟨rfl, rfl⟩ | ⟨_, hi'⟩ <;> rcases hget k D hk' with ⟨rfl, rfl⟩ | ⟨_, hk''⟩
    · rfl
    · exact h.inj i k B D hj hk'' hl hlD hk hkD e
    · exact h.inj i k C B hi' hj hlC hl hkC hk e
    · exact h.inj i k C D hi' hk'' hlC hlD hkC hkD e
  · intro b _ hno
    exact hb.other b (fun e => hno ⟨j, B, hj, hl, hk, e.symm⟩)
  · rintro b _ ⟨i, C, hi, hlC, hkC, e⟩
    rcases hget i C hi with ⟨rfl, rfl⟩ | ⟨_, hi'⟩
    · exact ⟨i, B, hj, hl, hk, e⟩
    · exact ⟨i, C, hi', hlC, hkC, e⟩

/-- A live block is written behind what is read for ever, and has a new name. -/
theorem Rel.move (h : Rel G w S) {j : Nat} {B B' : Blk} (hj : S[j]? = some B) (hl : B.live = true) (hk : G.ok j = true) (hb : But w w' (G.blk j))
    (fin lim sz p : Nat) (hp : G.p (G.blk j) ≤ p) (hc : ∀ o, o < G.p (G.blk j) → w'.cell? ⟨G.blk j, o, none⟩ = w.cell? ⟨G.blk j, o, none⟩) (hl' : B'.live = true)
    (hB : Ext G w (G.push (G.blk j) fin lim sz p) w' → BlkOk (G.push (G.blk j) fin lim sz p) w' G.n B') :
    Rel (G.push (G.blk j) fin lim sz p) w' (S.set j .dead ++ [B']) ∧ Evol G w S (G.push (G.blk j) fin lim sz p) w' (S.set j .dead ++ [B']) := by
  have hblt := h.lt j B hj hl hk
  have hext : Ext G w (G.push (G.blk j) fin lim sz p) w' := by
    refine ⟨Nat.le_succ _, fun i hi => Gh.push_lt hi _ _ _ _ _, fun b => ?_, fun b o ho => ?_⟩
    · by_cases e : b = G.blk j
      · subst e; simp [Gh.push, hp]
      · simp [Gh.push, e]
    · by_cases e : b = G.blk j
      · subst e; exact hc o ho
      · exact cell_same (hb.other b e) o
  have hget : ∀ (i : Nat) (C : Blk), (S.set j .dead ++ [B'])[i]? = some C → C.live = true → (i = G.n ∧ C = B') ∨ (i < G.n ∧ i ≠ j ∧ S[i]? = some C) := by
    intro i C hi hlC
    rcases Nat.lt_trichotomy i S.length with g | g | g
    · rw [List.getElem?_append_left (by simpa using g), List.getElem?_set] at hi
      by_cases e : j = i
      · rw [if_pos e, if_pos (by omega)] at hi
        cases hi; cases hlC
      · rw [if_neg e] at hi; exact .inr ⟨by rw [h.n]; exact g, fun x => e x.symm, hi⟩
    · subst g
      rw [List.getElem?_append_right (by simp)] at hi
      simp at hi
      exact .inl ⟨h.n.symm, hi.symm⟩
    · rw [List.getElem?_eq_none (by simp; omega)] at hi; cases hi
  refine ⟨⟨by simp [Gh.push, h.n], fun b hb' => ?_, ?_, ?_, ?_, ?_⟩, ⟨hext, by rw [hb.size]; exact Nat.le_refl _, hb.os, hb.tape, hb.output, ?_, ?_, fun b _ hno => by simp [Gh.push, show b ≠ G.blk j from fun e => hno ⟨j, B, hj, hl, hk, e.symm⟩]⟩⟩
  · have hne : b ≠ G.blk j := by have := hb.size; omega
    simp only [Gh.push, hne, if_false]
    exact h.fresh b (by rw [← hb.size]; exact hb')
  · intro i C hi hlC hkC
    rw [hb.size]
    rcases hget i C hi hlC with ⟨rfl, rfl⟩ | ⟨g, _, hi'⟩
    · simpa [Gh.push] using hblt
    · obtain ⟨a1, a2, _⟩ := hext.same i g
      rw [a2]; exact h.lt i C hi' hlC (by rw [← a1]; exact hkC)
  · intro i C hi hlC hkC
    rcases hget i C hi hlC with ⟨rfl, rfl⟩ | ⟨g, hne, hi'⟩
    · exact hB hext
    · obtain ⟨a1, a2, _⟩ := hext.same i g
      have hk' : G.ok i = true := by rw [← a1]; exact hkC
      have hne' : G.blk i ≠ G.blk j := fun e => hne (h.inj i j C B hi' hj hlC hl hk' hk e)
      exact (h.live i C hi' hlC hk').keep hext g (by simp [Gh.push, hne']) (hb.other _ hne')
  · intro i sz' cs hi hkC
    rcases hget i _ hi rfl with ⟨rfl, _⟩ | ⟨g, _, hi'⟩
    · simp [Gh.push] at hkC
    · exact h.vac i sz' cs hi' (by rw [← (hext.same i g).1]; exact hkC)
  · intro i k C D hi hk' hlC hlD hkC hkD e
    rcases hget i C hi hlC with ⟨rfl, rfl⟩ | ⟨gi, hni, hi'⟩ <;> rcases hget k D hk' hlD with ⟨gk, _⟩ | ⟨gk, hnk, hk''⟩
    · exact gk.symm
    · obtain ⟨b1, b2, _⟩ := hext.same k gk
      rw [b2] at e
      have e' : G.blk j = G.blk k := by simpa [Gh.push] using e
      exact absurd (h.inj j k B D hj hk'' hl hlD hk (by rw [← b1]; exact hkD) e').symm hnk
    · obtain ⟨a1, a2, _⟩ := hext.same i gi
      rw [a2, gk] at e
      have e' : G.blk i = G.blk j := by simpa [Gh.push] using e
      exact absurd (h.inj i j C B hi' hj hlC hl (by rw [← a1]; exact hkC) hk e') hni
    · obtain ⟨a1, a2, _⟩ := hext.same i gi
      obtain ⟨b1, b2, _⟩ := hext.same k gk
      exact h.inj i k C D hi' hk'' hlC hlD (by rw [← a1]; exact hkC) (by rw [← b1]; exact hkD) (by rw [← a2, ← b2]; exact e)
  · intro b _ hno
    exact hb.other b (fun e => hno ⟨j, B, hj, hl, hk, e.symm⟩)
  · rintro b _ ⟨i, C, hi, hlC, hkC, e⟩
    rcases hget i C hi hlC with ⟨rfl, rfl⟩ | ⟨g, _, hi'⟩
    · exact ⟨j, B, hj, hl, hk, by simpa [Gh.push] using e⟩
    · obtain ⟨a1, a2, _⟩ := hext.same i g
      exact ⟨i, C, hi', hlC, by rw [← a1]; exact hkC, by rw [← a2]; exact e⟩

/-- An array without elements, and without a place in memory. -/
theorem Rel.pushNil (h : Rel G w S) (sz : Nat) (B : Blk) (hB : ∀ z cs, B = .cells z cs → cs = []) : Rel (G.pushNil sz) w (S ++ [B]) ∧ Evol G w S (G.pushNil sz) w (S ++ [B]) := by
  have hext : Ext G w (G.pushNil sz) w := by
    refine ⟨Nat.le_succ _, fun j hj => ?_, fun b => Nat.le_refl _, fun b o hb => rfl⟩
    have hne : j ≠ G.n := by omega
    simp [Gh.pushNil, hne]
  have hget : ∀ (j : Nat) (C : Blk), (S ++ [B])[j]? = some C → (j < G.n ∧ S[j]? = some C) ∨ (j = G.n ∧ C = B) := by
    intro j C hj
    rcases Nat.lt_trichotomy j S.length with g | g | g
    · rw [List.getElem?_append_left g] at hj
      exact .inl ⟨by rw [h.n]; exact g, hj⟩
    · subst g
      simp at hj
      exact .inr ⟨h.n.symm, hj.symm⟩
    · rw [List.getElem?_eq_none (by simp; omega)] at hj; cases hj
  have hold : ∀ (j : Nat) (C : Blk), (S ++ [B])[j]? = some C → (G.pushNil sz).ok j = true → j < G.n ∧ S[j]? = some C ∧ G.ok j = true := by
    intro j C hj hk
    rcases hget j C hj with ⟨g, hj'⟩ | ⟨g, _⟩
    · exact ⟨g, hj', by rw [← (hext.same j g).1]; exact hk⟩
    · subst g; simp [Gh.pushNil] at hk
  refine ⟨⟨by simp [Gh.pushNil, h.n], h.fresh, ?_, ?_, ?_, ?_⟩, ⟨hext, Nat.le_refl _, rfl, rfl, rfl, fun _ _ _ => rfl, ?_, fun _ _ _ => rfl⟩⟩
  · intro j C hj hl hk
    obtain ⟨g, hj', hk'⟩ := hold j C hj hk
    exact h.lt j C hj' hl hk'
  · intro j C hj hl hk
    obtain ⟨g, hj', hk'⟩ := hold j C hj hk
    exact (h.live j C hj' hl hk').keep hext g rfl rfl
  · intro j sz' cs hj hk
    rcases hget j _ hj with ⟨g, hj'⟩ | ⟨_, hc⟩
    · exact h.vac j sz' cs hj' (by rw [← (hext.same j g).1]; exact hk)
    · exact hB _ _ hc.symm
  · intro i j C D hi hj hlC hlD hkC hkD e
    obtain ⟨gi, hi', hki⟩ := hold i C hi hkC
    obtain ⟨gj, hj', hkj⟩ := hold j D hj hkD
    exact h.inj i j C D hi' hj' hlC hlD hki hkj e
  · rintro b _ ⟨j, C, hj, hl, hk, e⟩
    obtain ⟨g, hj', hk'⟩ := hold j C hj hk
    exact ⟨j, C, hj', hl, hk', e⟩

/-- A draw changes nothing of this. -/
theorem Rel.drew (h : Rel G w S) : Rel G w.drew S ∧ Evol G w S G w.drew S := by
  have hext : Ext G w G w.drew := ⟨Nat.le_refl _, fun _ _ => ⟨rfl, rfl, rfl, rfl, rfl⟩, fun _ => Nat.le_refl _, fun b o _ => rfl⟩
  exact ⟨⟨h.n, h.fresh, h.lt, fun j B hj hl hk => (h.live j B hj hl hk).keep hext (h.get_lt hj) rfl rfl, h.vac, h.inj⟩, ⟨hext, Nat.le_refl _, rfl, rfl, rfl, fun _ _ _ => rfl, fun _ _ h => h, fun _ _ _ => rfl⟩⟩

/-- What lies last may be forgotten. -/
def Gh.cut (G : Gh) (n : Nat) : Gh := { G with n := n }

end
end Go.Proofs.Ytblbaniokmgjgaa
