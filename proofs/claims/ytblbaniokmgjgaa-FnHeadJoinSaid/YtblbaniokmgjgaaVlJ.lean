/- append and make: sound. -/
import Derived.Test.YtblbaniokmgjgaaVlI
namespace Go.Proofs.Ytblbaniokmgjgaa
open Go
set_option linter.unusedVariables false
set_option linter.unusedSimpArgs false

section
variable {P : Program} {D : Nat → TD}

/-- What is appended: how many elements, and their cells. -/
def SrcOk (P : Program) (w : World) (size : Nat) (x : Value) (n : Nat) (c : Array Value) : Prop :=
  (∀ w1, (Builtin.lenOf x).run P w1 = .ok n w1) ∧ ∀ w1, w1.heap = w.heap → (Builtin.firstCells size n x).run P w1 = .ok c w1

theorem cell_heap {w w1 : World} (h : w1.heap = w.heap) (a : Addr) : w1.cell? a = w.cell? a := by simp [World.cell?, h]

theorem src_slice {w : World} {size b off n cap : Nat} {vs : List Value} (hl : vs.length = n * size) (hh : Held w b off vs) : SrcOk P w size (.slice (some ⟨b, off, none⟩) n cap) n vs.toArray := by
  refine ⟨fun w1 => by simp [Builtin.lenOf], fun w1 h => ?_⟩
  exact run_firstCells_some w1 size n ⟨b, off, none⟩ n cap vs hl (fun j v hv => by rw [addr_add, cell_heap h]; exact hh j v hv)

theorem src_nil {w : World} {size : Nat} : SrcOk P w size (.slice none 0 0) 0 #[] :=
  ⟨fun w1 => by simp [Builtin.lenOf], fun w1 _ => run_firstCells_none w1 size 0 0 0⟩

theorem src_str {w : World} {s : List UInt8} : SrcOk P w 1 (.string ⟨⟨s⟩⟩) s.length (s.map fun b => Value.int .u8 (b.toNat : Int)).toArray := by
  refine ⟨fun w1 => by simp [Builtin.lenOf]; rfl, fun w1 _ => ?_⟩
  simp only [Builtin.firstCells, Sem.run_pure]
  have : (⟨⟨s⟩⟩ : ByteArray).extract 0 s.length = ⟨⟨s⟩⟩ := by
    apply ByteArray.ext
    rw [ByteArray.data_extract]
    apply Array.ext'
    simp
  rw [this]
  simp

variable {w : World} {t u ty e : TypeId} {i : TypeInfo} {z : Value} {n sLen sCap : Nat} {c : Array Value} {x : Value} {d : TypeDesc}

theorem run_append_in (ht : P.underlying t = some (.slice e)) (hu : P.underlying u = some d) (hd : d = .string ∨ ∃ f, d = .slice f) (hi : P.info? e = some i) (hx : SrcOk P w i.size x n c) {g o : Nat} {cur : Array Value} {bt : TypeId}
    (hg : w.heap[g]? = some (.cells cur bt (0, 0))) (hle : sLen + n ≤ sCap) (hfit : o + sLen * i.size + c.size ≤ cur.size) (h1 : ∀ v ∈ c.toList, v.oneCell' = true) :
    (Builtin.append_ #[t, u] ty #[.slice (some ⟨g, o, none⟩) sLen sCap, x]).run P w = .ok (.slice (some ⟨g, o, none⟩) (sLen + n) sCap)
      (w.setRow g (cur.toList.take (o + sLen * i.size) ++ c.toList ++ cur.toList.drop (o + sLen * i.size + c.toList.length)).toArray) := by
  have hst := run_storeCells_at (P := P) g (o + sLen * i.size) bt c.toList 0 cur w hg (by simpa using hfit) h1
  simp only [Nat.add_zero] at hst
  rcases hd with rfl | ⟨f, rfl⟩ <;> simp [Builtin.append_, run_underlying ht, run_underlying hu, sizeOf, typeInfo, hi, hx.1, hle, hx.2 w rfl, addr_add, hst]

theorem run_append_zero (ht : P.underlying t = some (.slice e)) (hu : P.underlying u = some d) (hd : d = .string ∨ ∃ f, d = .slice f) (hi : P.info? e = some i) (hx : SrcOk P w i.size x 0 c) :
    (Builtin.append_ #[t, u] ty #[.slice none 0 0, x]).run P w = .ok (.slice none 0 0) w := by
  rcases hd with rfl | ⟨f, rfl⟩ <;> simp [Builtin.append_, run_underlying ht, run_underlying hu, sizeOf, typeInfo, hi, hx.1, hx.2 w rfl]

theorem run_append_out (ht : P.underlying t = some (.slice e)) (hu : P.underlying u = some d) (hd : d = .string ∨ ∃ f, d = .slice f) (hi : P.info? e = some i) (hz : i.zero = some z) (hx : SrcOk P w i.size x n c) {base : Option Addr} {olds : Array Value}
    (ho : ∀ w1, w1.heap = w.heap → (Builtin.firstCells i.size sLen (.slice base sLen sCap)).run P w1 = .ok olds w1) (hg : sCap < sLen + n) (h63 : ((sLen + n : Nat) : Int) ≤ 9223372036854775807)
    (hfit : (sLen + n) * i.bytes ≤ 140737488355328) :
    (Builtin.append_ #[t, u] ty #[.slice base sLen sCap, x]).run P w = .ok (.slice (some ⟨w.heap.size, 0, none⟩) (sLen + n) (grownCap w (sLen + n) sCap e))
      (w.drew.alloc (.cells (olds ++ c ++ Builtin.zeroCells z.cells (grownCap w (sLen + n) sCap e - (sLen + n))) e)) := by
  have hn : ¬ (sLen + n ≤ sCap) := by omega
  have h63' : ¬ (9223372036854775807 < ((sLen : Int) + (n : Int))) := by omega
  have hf48 := growslice_fits hg hfit
  have h48' : ¬ (281474976710656 < Builtin.nextslicecap (sLen + n) sCap * i.bytes) := by omega
  have e1 := hx.2 w.drew rfl
  have e2 := ho w.drew rfl
  rcases hd with rfl | ⟨f, rfl⟩ <;> simp [Builtin.append_, run_underlying ht, run_underlying hu, sizeOf, typeInfo, zeroValue, hi, hz, hx.1, hn, h63', h48', Question.forced, e1, e2, Go.newRow, grownCap]

theorem size_zero (hD : TypesOk P D) {e : TypeId} {i : TypeInfo} {z : Value} (hkn : ((D e).k matches .none) = false) (hi : P.info? e = some i) (hz : i.zero = some z) : z.cells.size = (D e).size ∧ i.size = (D e).size ∧ i.bytes = (D e).bytes := by
  obtain ⟨i', z', h1, h2, h3, h4, _, _, h7⟩ := ty_info hD hkn
  rw [h1] at hi; cases hi
  rw [h4] at hz; cases hz
  exact ⟨h7, h2, h3⟩

/-- The new array of an append that grows. -/
theorem grow_row (hD : TypesOk P D) {G : Gh} {S : List Blk} {e : TypeId} (hkn : ((D e).k matches .none) = false) (hR : Rel G w S) {zs : List V} (hsz : ∀ v ∈ zs, v.cells.length = (D e).size) {c : Array Value}
    (hs : Side G w (zs.flatMap V.cells) c) {z : Value} (hz : z.cells.size = (D e).size) {cap : Nat} (hcap : zs.length ≤ cap) :
    ∃ G', VR G' (w.drew.alloc (.cells (c ++ Builtin.zeroCells z.cells (cap - zs.length)) e)) (.rows (some S.length) zs) (.slice (some ⟨w.heap.size, 0, none⟩) zs.length cap) ∧
      Rel G' (w.drew.alloc (.cells (c ++ Builtin.zeroCells z.cells (cap - zs.length)) e)) (S ++ [.right (D e).size]) ∧ Evol G w S G' (w.drew.alloc (.cells (c ++ Builtin.zeroCells z.cells (cap - zs.length)) e)) (S ++ [.right (D e).size]) := by
  have hd := hR.drew
  have hs' : Side G w.drew (zs.flatMap V.cells) c := ⟨hs.1, fun i v u a b => (hs.2.1 i v u a b).ext hd.2.ext, hs.2.2⟩
  have hcs : c.size = zs.length * (D e).size := by rw [← hs.1, flat_len hsz]
  obtain ⟨G', h1, h2, h3⟩ := hd.1.newRow hsz (rest := Builtin.zeroCells z.cells (cap - zs.length)) hs' e cap hcap (by
    rw [size_zeroCells, hz, hcs, ← Nat.add_mul]; exact Nat.mul_le_mul_right _ (by omega))
  exact ⟨G', h1, h2, hd.2.trans h3⟩

theorem grow_heap (hD : TypesOk P D) {G : Gh} {S : List Blk} {e : TypeId} (hkn : ((D e).k matches .none) = false) (hR : Rel G w S) {cs : List V} {m : Nat} (hl : cs.length = m * (D e).size) {c : Array Value}
    (hs : Side G w cs c) {z : Value} (hz : z.cells.size = (D e).size) {cap : Nat} (hcap : m ≤ cap) :
    ∃ G', VR G' (w.drew.alloc (.cells (c ++ Builtin.zeroCells z.cells (cap - m)) e)) (.heap S.length m) (.slice (some ⟨w.heap.size, 0, none⟩) m cap) ∧
      Rel G' (w.drew.alloc (.cells (c ++ Builtin.zeroCells z.cells (cap - m)) e)) (S ++ [.cells (D e).size cs]) ∧ Evol G w S G' (w.drew.alloc (.cells (c ++ Builtin.zeroCells z.cells (cap - m)) e)) (S ++ [.cells (D e).size cs]) := by
  have hd := hR.drew
  have hs' : Side G w.drew cs c := ⟨hs.1, fun i v u a b => (hs.2.1 i v u a b).ext hd.2.ext, hs.2.2⟩
  obtain ⟨G', h1, h2, h3⟩ := hd.1.newHeap (rest := Builtin.zeroCells z.cells (cap - m)) (sz := (D e).size) hs' e cap hcap (by
    rw [size_zeroCells, hz, ← hs.1, hl, ← Nat.add_mul]; exact Nat.mul_le_mul_right _ (by omega))
  exact ⟨G', h1, h2, hd.2.trans h3⟩

/-- What a source of elements is, concretely. -/
theorem src_rows (hD : TypesOk P D) {e : TypeId} {v : V} {k : List V → Prop} (h : srcRows D e v k) : ∃ ys, k ys ∧ ∀ (G : Gh) (w : World) (x : Value), VR G w v x → (∀ y ∈ ys, y.cells.length = (D e).size) →
    ∃ c, SrcOk P w (D e).size x ys.length c ∧ Side G w (ys.flatMap V.cells) c := by
  unfold srcRows at h
  split at h
  · refine ⟨[], h, fun G w x hx _ => ?_⟩
    cases hx
    exact ⟨#[], src_nil, rfl, by simp, by simp⟩
  · rename_i tok ys
    refine ⟨ys, h, fun G w x hx hsz => ?_⟩
    cases hx with
    | rowsNil => exact ⟨#[], src_nil, rfl, by simp, by simp⟩
    | rows vs hl hr hone hh hp hcap ht =>
      exact ⟨vs.toArray, src_slice (by rw [← hl, flat_len hsz]) hh, by simpa using hl, fun i v u a b => hr i v u a (by simpa using b), by simpa using hone⟩
  · rename_i s
    obtain ⟨hk, h⟩ := h
    refine ⟨_, h, fun G w x hx hsz => ?_⟩
    cases hx
    have hflat : (s.map fun b => V.int .u8 (b.toNat : Int)).flatMap V.cells = s.map fun b => V.int .u8 (b.toNat : Int) := by
      clear h hsz
      induction s with
      | nil => rfl
      | cons b s ih => simp only [List.map_cons, List.flatMap_cons, V.cells, ih, List.singleton_append]
    have hone : (D e).size = 1 ∨ s = [] := by
      cases s with
      | nil => exact .inr rfl
      | cons b s => exact .inl (hsz (.int .u8 (b.toNat : Int)) (by simp)).symm
    have hsrc : SrcOk P w (D e).size (.string ⟨⟨s⟩⟩) (s.map fun b => V.int .u8 (b.toNat : Int)).length (s.map fun b => Value.int .u8 (b.toNat : Int)).toArray := by
      rw [List.length_map]
      rcases hone with h1 | h1
      · rw [h1]; exact src_str
      · subst h1
        refine ⟨fun w1 => by simp [Builtin.lenOf]; rfl, fun w1 _ => ?_⟩
        simp [Builtin.firstCells]
    refine ⟨_, hsrc, by rw [hflat]; simp, ?_, by simp [Value.oneCell']⟩
    intro i v u hv hu
    rw [hflat] at hv
    simp at hv hu
    obtain ⟨b, hb, rfl⟩ := hv
    obtain ⟨b', hb', rfl⟩ := hu
    rw [hb] at hb'; cases hb'
    exact .int _ _
  · exact h.elim

theorem src_cells {sz : Nat} {v : V} {S : List Blk} {k : Nat → List V → Prop} (h : srcCells v sz S k) : ∃ m ys, k m ys ∧ ys.length = m * sz ∧ ∀ (G : Gh) (w : World) (x : Value), VR G w v x → Rel G w S →
    ∃ c, SrcOk P w sz x m c ∧ Side G w ys c := by
  unfold srcCells at h
  split at h
  · refine ⟨0, [], h, by simp, fun G w x hx _ => ?_⟩
    cases hx
    exact ⟨#[], src_nil, rfl, by simp, by simp⟩
  · rename_i b n
    split at h
    · rename_i sz' cs hS
      obtain ⟨rfl, hle, h⟩ := h
      refine ⟨n, _, h, by simp; omega, fun G w x hx hR => ?_⟩
      cases hx with
      | heapNil => exact ⟨#[], src_nil, by simp, by simp, by simp⟩
      | heap hb hk hcap hlim =>
        obtain ⟨arr, ty, g1, g2, g3, g4, g5, g6⟩ := hR.live b _ hS rfl hk
        have hlen : (arr.toList.take (n * sz')).length = n * sz' := by simp; omega
        refine ⟨(arr.toList.take (n * sz')).toArray, src_slice hlen ?_, by simp; omega, ?_, ?_⟩
        · intro i u hu
          rw [List.getElem?_take] at hu
          split at hu
          · rw [cell_blk g1, Nat.zero_add]; simpa using hu
          · cases hu
        · intro i v u hv hu
          rw [List.getElem?_take] at hv
          simp only [List.getElem?_toArray] at hu
          rw [List.getElem?_take] at hu
          split at hv
          · rename_i hi
            rw [if_pos hi] at hu
            exact (g6 i v u hv (by simpa using hu)).1
          · cases hv
        · intro u hu
          obtain ⟨i, hi, rfl⟩ := List.getElem_of_mem hu
          have hi' : i < n * sz' := by simp at hi; omega
          have hci : i < cs.length := by omega
          simp only [List.getElem_take]
          have := (g6 i cs[i] arr[i] (List.getElem?_eq_getElem hci) (Array.getElem?_eq_getElem (by omega))).2
          simpa using this
    · exact h.elim
  · rename_i tok ys
    obtain ⟨hall, h⟩ := h
    have hsz : ∀ v ∈ ys, v.cells.length = sz := fun v hv => by simpa using List.all_eq_true.1 hall v hv
    refine ⟨ys.length, _, h, by rw [flat_len hsz], fun G w x hx _ => ?_⟩
    cases hx with
    | rowsNil => exact ⟨#[], src_nil, rfl, by simp, by simp⟩
    | rows vs hl hr hone hh hp hcap ht =>
      exact ⟨vs.toArray, src_slice (by rw [← hl, flat_len hsz]) hh, by simpa using hl, fun i v u a b => hr i v u a (by simpa using b), by simpa using hone⟩
  · exact h.elim

end
end Go.Proofs.Ytblbaniokmgjgaa
