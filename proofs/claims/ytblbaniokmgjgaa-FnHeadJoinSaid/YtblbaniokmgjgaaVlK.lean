/- append and make, put together. -/
import Derived.Test.YtblbaniokmgjgaaVlJ
namespace Go.Proofs.Ytblbaniokmgjgaa
open Go
set_option linter.unusedVariables false
set_option linter.unusedSimpArgs false

section
variable {P : Program} {D : Nat → TD}

theorem Side.append {G : Gh} {w : World} {cs ds : List V} {c d : Array Value} (h : Side G w cs c) (k : Side G w ds d) : Side G w (cs ++ ds) (c ++ d) := by
  have h1 := h.1
  have k1 := k.1
  refine ⟨by simp; omega, ?_, ?_⟩
  · intro i v u hv hu
    rcases Nat.lt_or_ge i cs.length with g | g
    · rw [List.getElem?_append_left g] at hv
      rw [Array.getElem?_append_left (by omega)] at hu
      exact h.2.1 i v u hv hu
    · rw [List.getElem?_append_right g] at hv
      rw [Array.getElem?_append_right (by omega)] at hu
      rw [h1] at hv
      exact k.2.1 _ v u hv hu
  · intro u hu
    simp only [Array.toList_append, List.mem_append] at hu
    rcases hu with hu | hu
    · exact h.2.2 u hu
    · exact k.2.2 u hu

theorem Side.ext {G G' : Gh} {w w' : World} {cs : List V} {c : Array Value} (h : Side G w cs c) (he : Ext G w G' w') : Side G' w' cs c := ⟨h.1, fun i v u a b => (h.2.1 i v u a b).ext he, h.2.2⟩

/-- append to a slice that is read for ever, in place. -/
theorem row_in {G : Gh} {w : World} {S : List Blk} (hR : Rel G w S) {τ sz b off cap : Nat} {xs ys : List V} (hS : S[τ]? = some (.right sz)) (hxs : ∀ v ∈ xs, v.cells.length = sz) (hys : ∀ v ∈ ys, v.cells.length = sz) {vs : List Value}
    (hl : (xs.flatMap V.cells).length = vs.length) (hr : ∀ (i : Nat) (v : V) (u : Value), (xs.flatMap V.cells)[i]? = some v → vs[i]? = some u → VR G w v u) (hone : ∀ u ∈ vs, u.oneCell' = true) (hh : Held w b off vs)
    (hp : off + vs.length ≤ G.p b) (ht : TokOk G (some τ) b off xs.length cap vs.length) {c : Array Value} (hc : Side G w (ys.flatMap V.cells) c) (hle : xs.length + ys.length ≤ cap) {arr : Array Value} {ty : TypeId}
    (ha : w.heap[b]? = some (.cells arr ty (0, 0))) :
    (off + xs.length * sz + c.size ≤ arr.size) ∧ ∃ G', VR G' (w.setRow b (arr.toList.take (off + xs.length * sz) ++ c.toList ++ arr.toList.drop (off + xs.length * sz + c.toList.length)).toArray) (.rows (some S.length) (xs ++ ys)) (.slice (some ⟨b, off, none⟩) (xs ++ ys).length cap) ∧
      Rel G' (w.setRow b (arr.toList.take (off + xs.length * sz) ++ c.toList ++ arr.toList.drop (off + xs.length * sz + c.toList.length)).toArray) (S.set τ .dead ++ [.right sz]) ∧
      Evol G w S G' (w.setRow b (arr.toList.take (off + xs.length * sz) ++ c.toList ++ arr.toList.drop (off + xs.length * sz + c.toList.length)).toArray) (S.set τ .dead ++ [.right sz]) := by
  obtain ⟨t1, t2, t3, t4, t5, t6⟩ := ht τ rfl
  obtain ⟨arr', ty', g1, g2, g3, g4⟩ := hR.live τ _ hS rfl t2
  rw [t3, ha] at g1
  cases g1
  subst t3
  rw [g4] at t5 t6
  have hvl : vs.length = xs.length * sz := t5
  have hcl : c.size = ys.length * sz := by rw [← hc.1, flat_len hys]
  have hm : off + (xs.length * sz + ys.length * sz) ≤ arr.size := by
    have : (xs.length + ys.length) * sz ≤ cap * sz := Nat.mul_le_mul_right _ hle
    rw [Nat.add_mul] at this
    omega
  have hfit : off + xs.length * sz + c.size ≤ arr.size := by omega
  refine ⟨hfit, ?_⟩
  have hpp : G.p (G.blk τ) = off + xs.length * sz := by rw [g2, ← t4, hvl]
  have hn := hR.n
  have hcell : ∀ o, ((arr.toList.take (off + xs.length * sz) ++ c.toList ++ arr.toList.drop (off + xs.length * sz + c.toList.length)).toArray)[o]? = if o < off + xs.length * sz then arr[o]? else if o < off + xs.length * sz + c.size then c[o - (off + xs.length * sz)]? else arr[o]? := by
    intro o
    simp only [List.getElem?_toArray]
    by_cases h1 : o < off + xs.length * sz
    · rw [if_pos h1, List.append_assoc, List.getElem?_append_left (by simp; omega), List.getElem?_take, if_pos h1]; simp
    · rw [if_neg h1]
      by_cases h2 : o < off + xs.length * sz + c.size
      · rw [if_pos h2, List.append_assoc, List.getElem?_append_right (by simp; omega), List.getElem?_append_left (by simp; omega)]
        have e : o - (arr.toList.take (off + xs.length * sz)).length = o - (off + xs.length * sz) := by simp; omega
        rw [e]; simp
      · rw [if_neg h2, List.getElem?_append_right (by simp; omega), List.getElem?_drop]
        have e : off + xs.length * sz + c.toList.length + (o - (arr.toList.take (off + xs.length * sz) ++ c.toList).length) = o := by simp; omega
        rw [e]; simp
  have h := hR.move (j := τ) (B' := .right sz) hS rfl t2 (but_setRow (cs := (arr.toList.take (off + xs.length * sz) ++ c.toList ++ arr.toList.drop (off + xs.length * sz + c.toList.length)).toArray))
    (off + xs.length * sz + c.size) (G.lim τ) sz (off + xs.length * sz + c.size) (by omega) (fun o ho => by
      rw [cell_blk (setRow_heap w _ arr _ ty _ ha), cell_blk ha, hcell o, if_pos (by omega)]) rfl (fun he => by
      have hb : (G.push (G.blk τ) (off + xs.length * sz + c.size) (G.lim τ) sz (off + xs.length * sz + c.size)).blk G.n = G.blk τ := by simp [Gh.push]
      refine ⟨_, ty, by rw [hb]; exact setRow_heap w _ arr _ ty _ ha, by simp [Gh.push], ?_, by simp [Gh.push]⟩
      simp [Gh.push]; omega)
  refine ⟨_, ?_, h.1, h.2⟩
  have hS2 := (show Side G w (xs.flatMap V.cells) vs.toArray from ⟨by simpa using hl, fun i v u a b => hr i v u a (by simpa using b), by simpa using hone⟩).append hc
  rw [← List.flatMap_append] at hS2
  refine .rows (vs ++ c.toList) (by simpa using hS2.1) (fun i v u a b => (hS2.2.1 i v u a (by
    have : (vs.toArray ++ c) = (vs ++ c.toList).toArray := by apply Array.ext'; simp
    rw [this]; simpa using b)).ext h.2.ext) (fun u hu => hS2.2.2 u (by simpa using hu)) ?_ ?_ (by simpa using hle) ?_
  · intro i u hu
    rw [cell_blk (setRow_heap w _ arr _ ty _ ha), hcell]
    rcases Nat.lt_or_ge i vs.length with g | g
    · rw [List.getElem?_append_left g] at hu
      rw [if_pos (by omega), ← cell_blk ha]
      exact hh i u hu
    · rw [List.getElem?_append_right g] at hu
      have hlt : i - vs.length < c.size := by
        rcases Nat.lt_or_ge (i - vs.length) c.size with g' | g'
        · exact g'
        · rw [List.getElem?_eq_none (by simpa using g')] at hu; cases hu
      rw [if_neg (by omega), if_pos (by omega)]
      have e : off + i - (off + xs.length * sz) = i - vs.length := by omega
      rw [e]; simpa using hu
  · simp [Gh.push]; omega
  · intro τ' hτ'
    cases hτ'
    simp [Gh.push, hn, hvl, hcl, Nat.add_mul]
    omega

theorem ev_append_row (hD : TypesOk P D) {e : TypeId} (hkn : ((D e).k matches .none) = false) (hby : (D e).bytes ≤ 4096) {t u ty : TypeId} (ht : P.underlying t = some (.slice e)) {d : TypeDesc} (hu : P.underlying u = some d)
    (hd : d = .string ∨ ∃ f, d = .slice f) {xs ys : List V} (hxs : ∀ v ∈ xs, v.cells.length = (D e).size) (hys : ∀ v ∈ ys, v.cells.length = (D e).size) (hb1 : xs.length ≤ 1073741824) (hb2 : ys.length ≤ 1073741824) {S S' : List Blk} {s : V}
    (hs : (s = .nils ∧ xs = [] ∧ S' = S) ∨ ∃ τ, s = .rows (some τ) xs ∧ S[τ]? = some (.right (D e).size) ∧ S' = S.set τ .dead) (G : Gh) (w : World) (sc x : Value) (hsv : VR G w s sc) (hR : Rel G w S) {c : Array Value}
    (hsrc : SrcOk P w (D e).size x ys.length c) (hc : Side G w (ys.flatMap V.cells) c) :
    ∃ r w' G', (Builtin.append_ #[t, u] ty #[sc, x]).run P w = .ok r w' ∧ VR G' w' (.rows (some S.length) (xs ++ ys)) r ∧ Rel G' w' (S' ++ [.right (D e).size]) ∧ Evol G w S G' w' (S' ++ [.right (D e).size]) := by
  obtain ⟨i, z, hi, hisz, hiby, hz, _, _, hzs⟩ := ty_info hD hkn
  have hS'len : S'.length = S.length := by rcases hs with ⟨_, _, rfl⟩ | ⟨τ, _, _, rfl⟩ <;> simp
  have hkill : Rel G w S' ∧ Evol G w S G w S' := by
    rcases hs with ⟨_, _, rfl⟩ | ⟨τ, _, _, rfl⟩
    · exact ⟨hR, Evol.refl _ _ _⟩
    · exact hR.kill τ
  have hbound : (xs.length + ys.length) * (D e).bytes ≤ 140737488355328 :=
    Nat.le_trans (Nat.mul_le_mul (Nat.add_le_add hb1 hb2) hby) (by decide)
  have hall : ∀ v ∈ xs ++ ys, v.cells.length = (D e).size := fun v hv => (List.mem_append.1 hv).elim (hxs v) (hys v)
  -- where a new array is made
  have out : ∀ (base : Option Addr) (cap : Nat) (olds : Array Value), sc = .slice base xs.length cap → (∀ w1, w1.heap = w.heap → (Builtin.firstCells (D e).size xs.length (.slice base xs.length cap)).run P w1 = .ok olds w1) →
      Side G w (xs.flatMap V.cells) olds → cap < xs.length + ys.length →
      ∃ r w' G', (Builtin.append_ #[t, u] ty #[sc, x]).run P w = .ok r w' ∧ VR G' w' (.rows (some S.length) (xs ++ ys)) r ∧ Rel G' w' (S' ++ [.right (D e).size]) ∧ Evol G w S G' w' (S' ++ [.right (D e).size]) := by
    intro base cap olds hsc ho hos hcap
    have hrun := run_append_out (ty := ty) ht hu hd hi hz (by rw [hisz]; exact hsrc) (by rw [hisz]; exact ho) hcap (by omega) (by rw [hiby]; exact hbound)
    have hzs' := hos.append hc
    rw [← List.flatMap_append] at hzs'
    obtain ⟨G', h1, h2, h3⟩ := grow_row hD hkn hkill.1 hall hzs' hzs (cap := grownCap w (xs.length + ys.length) cap e) (by rw [List.length_append]; exact grownCap_ge _ _ _ _)
    rw [hS'len, List.length_append] at h1
    rw [List.length_append] at h2 h3
    exact ⟨_, _, G', by rw [hsc]; exact hrun, h1, h2, hkill.2.trans h3⟩
  -- where there is none, and nothing comes
  have none_ : sc = .slice none 0 0 → xs = [] → ys = [] →
      ∃ r w' G', (Builtin.append_ #[t, u] ty #[sc, x]).run P w = .ok r w' ∧ VR G' w' (.rows (some S.length) (xs ++ ys)) r ∧ Rel G' w' (S' ++ [.right (D e).size]) ∧ Evol G w S G' w' (S' ++ [.right (D e).size]) := by
    intro hsc hx0 hy0
    subst hx0 hy0
    have hrun := run_append_zero (ty := ty) ht hu hd hi (by rw [hisz]; exact hsrc)
    obtain ⟨h1, h2⟩ := hkill.1.pushNil (D e).size (.right (D e).size) (fun _ _ h => by cases h)
    exact ⟨_, _, _, by rw [hsc]; exact hrun, .rowsNil (fun τ hτ => by cases hτ; simp [Gh.pushNil, hR.n]), h1, hkill.2.trans h2⟩
  have nil_ : sc = .slice none 0 0 → xs = [] →
      ∃ r w' G', (Builtin.append_ #[t, u] ty #[sc, x]).run P w = .ok r w' ∧ VR G' w' (.rows (some S.length) (xs ++ ys)) r ∧ Rel G' w' (S' ++ [.right (D e).size]) ∧ Evol G w S G' w' (S' ++ [.right (D e).size]) := by
    intro hsc hx0
    by_cases hy0 : ys = []
    · exact none_ hsc hx0 hy0
    · have hpos : 0 < ys.length := List.length_pos_iff.2 hy0
      subst hx0
      exact out none 0 #[] hsc (fun w1 _ => run_firstCells_none w1 (D e).size 0 0 0) ⟨rfl, by simp, by simp⟩ (by simpa using hpos)
  rcases hs with ⟨rfl, rfl, rfl⟩ | ⟨τ, rfl, hSτ, rfl⟩
  · cases hsv
    exact nil_ rfl rfl
  · cases hsv with
    | rowsNil => exact nil_ rfl rfl
    | @rows _ _ b off cap vs hl hr hone hh hp hcap htok =>
      by_cases hfit : xs.length + ys.length ≤ cap
      · obtain ⟨t1, t2, t3, t4, t5, t6⟩ := htok τ rfl
        obtain ⟨arr, bt, g1, g2, g3, g4⟩ := hR.live τ _ hSτ rfl t2
        rw [t3] at g1
        obtain ⟨hle, G', h1, h2, h3⟩ := row_in hR hSτ hxs hys hl hr hone hh hp htok hc hfit g1
        have hrun := run_append_in (ty := ty) (sLen := xs.length) (sCap := cap) ht hu hd hi (by rw [hisz]; exact hsrc) g1 hfit (by rw [hisz]; exact hle) hc.2.2
        rw [hisz] at hrun
        rw [List.length_append] at h1
        exact ⟨_, _, G', hrun, h1, h2, h3⟩
      · have hvl : vs.length = xs.length * (D e).size := by rw [← hl, flat_len hxs]
        exact out (some ⟨b, off, none⟩) cap vs.toArray rfl (fun w1 hw1 => run_firstCells_some w1 _ _ ⟨b, off, none⟩ xs.length cap vs hvl (fun j v hv => by rw [addr_add, cell_heap hw1]; exact hh j v hv))
          ⟨by simpa using hl, fun i v u a b => hr i v u a (by simpa using b), by simpa using hone⟩ (by omega)

end
end Go.Proofs.Ytblbaniokmgjgaa
