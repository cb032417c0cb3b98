/- Slice literals, append, make: sound. -/
import Derived.Test.YtblbaniokmgjgaaVlH
namespace Go.Proofs.Ytblbaniokmgjgaa
open Go
set_option linter.unusedVariables false
set_option linter.unusedSimpArgs false

section
variable {P : Program} {D : Nat → TD}

theorem Side.of_get {G : Gh} {w : World} {cs : List V} {c : Array Value} (hl : cs.length = c.size) (h : ∀ (i : Nat) (v : V) (u : Value), cs[i]? = some v → c[i]? = some u → VR G w v u ∧ u.oneCell' = true) : Side G w cs c := by
  refine ⟨hl, fun i v u a b => (h i v u a b).1, fun u hu => ?_⟩
  obtain ⟨i, hi, rfl⟩ := List.getElem_of_mem hu
  have hi' : i < c.size := by simpa using hi
  exact (h i cs[i] c[i] (List.getElem?_eq_getElem (by omega)) (Array.getElem?_eq_getElem hi')).2

theorem flat_erase (xs : List V) : (xs.map erase1).flatMap V.cells = (xs.flatMap V.cells).map eraseC := by
  induction xs with
  | nil => rfl
  | cons x xs ih => simp only [List.map_cons, List.flatMap_cons, erase1_cells, List.map_append, ih]

/-- What 'fill' makes of parts that lie side by side. -/
theorem fill_range (sz len : Nat) (hsz : 0 < sz) (L : List (Nat × Operand)) (hidx : L.map (·.1) = List.range len) (ρ : Operand → V) (hu : ∀ p ∈ L, (ρ p.2).cells.length = sz ∧ (ρ p.2).cells.all V.one = true)
    (G : Gh) (w : World) (ev : Operand → Value) (hop : ∀ p ∈ L, VR G w (ρ p.2) (ev p.2)) (init : Array Value) (hi : init.size = len * sz) :
    ∃ c, Instr.fill (fun i => some (i * sz, sz)) init (L.map fun p => (p.1, ev p.2)) = some c ∧ Side G w ((L.map fun p => ρ p.2).flatMap V.cells) c := by
  have hL : L.length = len := by have := congrArg List.length hidx; simpa using this
  have hlist : (L.map fun p => (p.1, ev p.2)) = ((L.map fun p => ev p.2).zipIdx 0).map fun x => (x.2, x.1) := by
    apply List.ext_getElem?
    intro j
    rcases Nat.lt_or_ge j L.length with g | g
    · have h1 : (L.map (·.1))[j]? = (List.range len)[j]? := by rw [hidx]
      simp [List.getElem?_eq_getElem g, List.getElem?_range (show j < len by omega)] at h1
      simp [List.getElem?_eq_getElem g, h1]
    · simp [List.getElem?_eq_none g]
  have hside : ∀ p ∈ L, Side G w (ρ p.2).cells (ev p.2).cells := fun p hp => cells_side (hop p hp) (hu p hp).2
  obtain ⟨c, hc, hcs, hck⟩ := Great.fill_dense hsz (L.map fun p => ev p.2) 0 init (by
    intro v hv
    obtain ⟨p, hp, rfl⟩ := List.mem_map.1 hv
    rw [← (hside p hp).1, (hu p hp).1]) (by simp [hL, hi])
  have hxs : ∀ x ∈ (L.map fun p => ρ p.2), x.cells.length = sz := by
    intro x hx
    obtain ⟨p, hp, rfl⟩ := List.mem_map.1 hx
    exact (hu p hp).1
  refine ⟨c, by rw [hlist]; exact hc, Side.of_get (by rw [flat_len hxs, hcs, hi]; simp [hL]) ?_⟩
  intro k v u hv hu'
  have hk : k < len * sz := by
    rcases Nat.lt_or_ge k (len * sz) with g | g
    · exact g
    · rw [List.getElem?_eq_none (by rw [flat_len hxs]; simpa [hL] using g)] at hv; cases hv
  have hq : k / sz < L.length := by rw [hL]; exact (Nat.div_lt_iff_lt_mul hsz).2 hk
  have hr : k % sz < sz := Nat.mod_lt _ hsz
  have hdm : k / sz * sz + k % sz = k := Nat.div_add_mod' k sz
  have h1 := flat_get hxs (k / sz) (by simpa using hq) (k % sz) hr
  rw [hdm, hv] at h1
  rw [hck k, if_pos (by simp [hL]; exact hk)] at hu'
  simp [List.getElem?_eq_getElem hq] at hu'
  have hm : L[k / sz] ∈ L := List.getElem_mem _
  have hs := hside _ hm
  have h2 : (ρ L[k / sz].2).cells[k % sz]? = some v := by
    rw [h1]; simp [List.getD, List.getElem?_eq_getElem hq]
  exact ⟨hs.2.1 _ v u h2 hu', hs.2.2 u (Array.mem_toList_iff.2 (Array.mem_of_getElem? hu'))⟩

/-- A new array that is read for ever, as far as it is filled. -/
theorem Rel.newRow {G : Gh} {w : World} {S : List Blk} (hR : Rel G w S) {xs : List V} {sz : Nat} (hsz : ∀ x ∈ xs, x.cells.length = sz) {c rest : Array Value} (hs : Side G w (xs.flatMap V.cells) c) (ty : TypeId) (cap : Nat)
    (hcap : xs.length ≤ cap) (hfull : cap * sz ≤ c.size + rest.size) :
    ∃ G', VR G' (w.alloc (.cells (c ++ rest) ty)) (.rows (some S.length) xs) (.slice (some ⟨w.heap.size, 0, none⟩) xs.length cap) ∧ Rel G' (w.alloc (.cells (c ++ rest) ty)) (S ++ [.right sz]) ∧
      Evol G w S G' (w.alloc (.cells (c ++ rest) ty)) (S ++ [.right sz]) := by
  have hcs : c.size = xs.length * sz := by rw [← hs.1, flat_len hsz]
  have hn := hR.n
  have h := hR.pushNew (w' := w.alloc (.cells (c ++ rest) ty)) (by simp) (fun k hk => heap_alloc_old w _ k hk) rfl rfl rfl c.size (cap * sz) sz c.size (.right sz) (fun he => by
    have hb : (G.push w.heap.size c.size (cap * sz) sz c.size).blk G.n = w.heap.size := by simp [Gh.push]
    refine ⟨c ++ rest, ty, by rw [hb]; exact heap_alloc_new w _, by simp [Gh.push], by simpa [Gh.push] using hfull, by simp [Gh.push]⟩)
  refine ⟨_, ?_, h.1, h.2⟩
  refine .rows c.toList (by simpa using hs.1) (fun i v u hv hu => (hs.2.1 i v u hv (by simpa using hu)).ext h.2.ext) hs.2.2 ?_ (by simp [Gh.push]) hcap ?_
  · intro i u hu
    have hi : c[i]? = some u := by simpa using hu
    have hlt : i < c.size := by
      rcases Nat.lt_or_ge i c.size with g | g
      · exact g
      · rw [Array.getElem?_eq_none g] at hi; cases hi
    rw [cell_blk (heap_alloc_new w _), Nat.zero_add, Array.getElem?_append_left hlt]
    exact hi
  · intro τ hτ
    cases hτ
    simp [Gh.push, hn, hcs]

/-- A new array that may be written. -/
theorem Rel.newHeap {G : Gh} {w : World} {S : List Blk} (hR : Rel G w S) {cs : List V} {sz n : Nat} {c rest : Array Value} (hs : Side G w cs c) (ty : TypeId) (cap : Nat)
    (hcap : n ≤ cap) (hfull : cap * sz ≤ c.size + rest.size) :
    ∃ G', VR G' (w.alloc (.cells (c ++ rest) ty)) (.heap S.length n) (.slice (some ⟨w.heap.size, 0, none⟩) n cap) ∧ Rel G' (w.alloc (.cells (c ++ rest) ty)) (S ++ [.cells sz cs]) ∧
      Evol G w S G' (w.alloc (.cells (c ++ rest) ty)) (S ++ [.cells sz cs]) := by
  have hex : (c ++ rest).extract 0 cs.length = c := by rw [hs.1]; simp
  have h := hR.newCells (cs := cs) (arr := c ++ rest) ty (by rw [hex]; exact hs) (by rw [hs.1]; simp) sz (cap * sz) (by simpa using hfull)
  refine ⟨_, ?_, h.1, h.2⟩
  have hn := hR.n
  have hp := VR.heap (G := G.push w.heap.size 0 (cap * sz) sz 0) (w := w.alloc (.cells (c ++ rest) ty)) (blk := S.length) (len := n) (cap := cap) (by simp [Gh.push, hn]) (by simp [Gh.push, hn]) hcap (by simp [Gh.push, hn])
  have hb : (G.push w.heap.size 0 (cap * sz) sz 0).blk S.length = w.heap.size := by simp [Gh.push, hn]
  rw [hb] at hp
  exact hp

theorem ev_buildSlice (hD : TypesOk P D) {o : Oper} {t : TypeId} {len : Nat} {parts : Array (Nat × Operand)} (ho : o.op = .buildSlice t len parts) {ρ : Operand → V} {S : List Blk} {k : V → List Blk → Prop}
    (h : evBuildSlice D t len (parts.toList.map fun p => (p.1, ρ p.2)) S k) : ∃ v S', k v S' ∧ RunOk P o ρ S v S' := by
  unfold evBuildSlice at h
  split at h
  · rename_i e hk
    obtain ⟨hkn, hpos, hmax, hidx, hall, h⟩ := h
    have hidx' : parts.toList.map (·.1) = List.range len := by rw [← hidx, List.map_map]; rfl
    have hu : ∀ p ∈ parts.toList, (ρ p.2).cells.length = (D e).size ∧ (ρ p.2).cells.all V.one = true := by
      intro p hp
      have := List.all_eq_true.1 hall (p.1, ρ p.2) (List.mem_map.2 ⟨p, hp, rfl⟩)
      simpa using this
    have hlen : parts.toList.length = len := by have := congrArg List.length hidx'; simpa using this
    have key : ∀ (G : Gh) (ev : Operand → Value) (w : World), (∀ x ∈ o.op.operands, VR G w (ρ x) (ev x)) → ∃ c, Side G w ((parts.toList.map fun p => ρ p.2).flatMap V.cells) c ∧
        (execOp ev o).run P w = .ok (.value (.slice (some ⟨w.heap.size, 0, none⟩) len len)) (w.alloc (.cells c e)) := by
      intro G ev w hop
      have hops : ∀ p ∈ parts.toList, VR G w (ρ p.2) (ev p.2) := fun p hp => hop p.2 (by
        simp only [ho, Op.operands, List.mem_toArray, List.mem_map]
        simp
        exact ⟨p.1, by simpa using hp⟩)
      obtain ⟨z, hz, hzs, hzl⟩ := zero_side hD hkn G w
      obtain ⟨c, hc, hs⟩ := fill_range (D e).size len hpos parts.toList hidx' ρ hu G w ev hops
        ((Array.range (len * (D e).size)).map ((if len * (D e).size = 0 then (#[] : Array Value) else z.cells)[· % (if len * (D e).size = 0 then (#[] : Array Value) else z.cells).size]!)) (by simp)
      refine ⟨c, hs, ?_⟩
      have hm : ¬ (16777216 < len * (D e).size) := by omega
      by_cases h0 : len * (D e).size = 0
      · rw [if_pos h0] at hc
        simp only [execOp, ho, Instr.buildSlice, Sem.run_bind, run_underlying (ty_slc hD hk), Result.andThen_ok, run_size hD hkn, Sem.run_ite]
        rw [if_neg (by simpa using hm), if_pos h0]
        simp only [Sem.run_pure, Result.andThen_ok, Array.toList_map]
        rw [hc]
        simp [Go.newRow]
      · rw [if_neg h0] at hc
        simp only [execOp, ho, Instr.buildSlice, Sem.run_bind, run_underlying (ty_slc hD hk), Result.andThen_ok, run_size hD hkn, Sem.run_ite]
        rw [if_neg (by simpa using hm), if_neg h0]
        simp only [hz, Sem.run_pure, Result.andThen_ok, Array.toList_map]
        rw [hc]
        simp [Go.newRow]
    by_cases hw : (D e).wr = true
    · rw [if_pos hw] at h
      refine ⟨_, _, h, fun G ev w hop hR => ?_⟩
      obtain ⟨c, hs, hrun⟩ := key G ev w hop
      have hs' : Side G w ((parts.toList.map fun p => (p.1, ρ p.2)).map fun x => x.2.cells.map eraseC).flatten c := by
        have he : ((parts.toList.map fun p => (p.1, ρ p.2)).map fun x => x.2.cells.map eraseC).flatten = ((parts.toList.map fun p => ρ p.2).flatMap V.cells).map eraseC := by
          simp [List.flatMap_def, List.map_flatten, List.map_map, Function.comp_def]
        rw [he]
        exact hs.erase
      have hcs : c.size = len * (D e).size := by
        rw [← hs.1, flat_len (sz := (D e).size) (fun x hx => by obtain ⟨p, hp, rfl⟩ := List.mem_map.1 hx; exact (hu p hp).1)]
        simp [← hlen]
      obtain ⟨G', h1, h2, h3⟩ := hR.newHeap (n := len) (sz := (D e).size) (rest := #[]) hs' e len (Nat.le_refl _) (by rw [hcs]; simp)
      rw [Array.append_empty] at h1 h2 h3
      exact ⟨_, _, G', .inl hrun, h1, h2, h3⟩
    · rw [if_neg hw] at h
      refine ⟨_, _, h, fun G ev w hop hR => ?_⟩
      obtain ⟨c, hs, hrun⟩ := key G ev w hop
      have hxs : ((parts.toList.map fun p => (p.1, ρ p.2)).map fun x => erase1 x.2) = (parts.toList.map fun p => ρ p.2).map erase1 := by simp
      rw [hxs]
      have hs' := hs.erase
      rw [← flat_erase] at hs'
      have hu' : ∀ x ∈ (parts.toList.map fun p => ρ p.2).map erase1, x.cells.length = (D e).size := by
        intro x hx
        obtain ⟨y, hy, rfl⟩ := List.mem_map.1 hx
        obtain ⟨p, hp, rfl⟩ := List.mem_map.1 hy
        rw [erase1_cells, List.length_map]; exact (hu p hp).1
      have hlen' : ((parts.toList.map fun p => ρ p.2).map erase1).length = len := by simpa using hlen
      have hcs : c.size = len * (D e).size := by rw [← hs'.1, flat_len hu', hlen']
      obtain ⟨G', h1, h2, h3⟩ := hR.newRow hu' (rest := #[]) hs' e len (by omega) (by rw [hcs]; simp)
      rw [Array.append_empty] at h1 h2 h3
      rw [hlen'] at h1
      exact ⟨_, _, G', .inl hrun, h1, h2, h3⟩
  · exact h.elim

end
end Go.Proofs.Ytblbaniokmgjgaa
