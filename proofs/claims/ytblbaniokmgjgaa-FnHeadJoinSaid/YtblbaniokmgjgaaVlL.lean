/- append to an array that may be written; make; append as one operation. -/
import Derived.Test.YtblbaniokmgjgaaVlK
import Derived.Laws.MakeOwn
namespace Go.Proofs.Ytblbaniokmgjgaa
open Go
set_option linter.unusedVariables false
set_option linter.unusedSimpArgs false

section
variable {P : Program} {D : Nat → TD}

theorem heap_in {G : Gh} {w : World} {S : List Blk} (hR : Rel G w S) {b sz n cap : Nat} {cs ys : List V} (hS : S[b]? = some (.cells sz cs)) (hk : G.ok b = true) (hcs : cs.length = n * sz) (hlim : cap * sz ≤ G.lim b)
    {c : Array Value} (hc : Side G w ys c) {m : Nat} (hys : ys.length = m * sz) (hle : n + m ≤ cap) {arr : Array Value} {ty : TypeId} (ha : w.heap[G.blk b]? = some (.cells arr ty (0, 0))) :
    (0 + n * sz + c.size ≤ arr.size) ∧ ∃ G', VR G' (w.setRow (G.blk b) (arr.toList.take (0 + n * sz) ++ c.toList ++ arr.toList.drop (0 + n * sz + c.toList.length)).toArray) (.heap S.length (n + m)) (.slice (some ⟨G.blk b, 0, none⟩) (n + m) cap) ∧
      Rel G' (w.setRow (G.blk b) (arr.toList.take (0 + n * sz) ++ c.toList ++ arr.toList.drop (0 + n * sz + c.toList.length)).toArray) (S.set b .dead ++ [.cells sz (cs ++ ys)]) ∧
      Evol G w S G' (w.setRow (G.blk b) (arr.toList.take (0 + n * sz) ++ c.toList ++ arr.toList.drop (0 + n * sz + c.toList.length)).toArray) (S.set b .dead ++ [.cells sz (cs ++ ys)]) := by
  obtain ⟨arr', ty', g1, g2, g3, g4, g5, g6⟩ := hR.live b _ hS rfl hk
  rw [ha] at g1
  cases g1
  have hcl : c.size = m * sz := by rw [← hc.1, hys]
  have hm : n * sz + m * sz ≤ cap * sz := by rw [← Nat.add_mul]; exact Nat.mul_le_mul_right _ hle
  have hfit : 0 + n * sz + c.size ≤ arr.size := by omega
  refine ⟨hfit, ?_⟩
  have hn := hR.n
  have hlen : (arr.toList.take (0 + n * sz) ++ c.toList ++ arr.toList.drop (0 + n * sz + c.toList.length)).length = arr.size := by simp; omega
  have h := hR.move (j := b) (B' := .cells sz (cs ++ ys)) hS rfl hk (but_setRow (cs := (arr.toList.take (0 + n * sz) ++ c.toList ++ arr.toList.drop (0 + n * sz + c.toList.length)).toArray))
    0 (G.lim b) sz 0 (by omega) (fun o ho => by omega) rfl (fun he => by
      have hb : (G.push (G.blk b) 0 (G.lim b) sz 0).blk G.n = G.blk b := by simp [Gh.push]
      refine ⟨_, ty, by rw [hb]; exact setRow_heap w _ arr _ ty _ ha, by simp [Gh.push], by simp only [List.size_toArray, hlen]; simpa [Gh.push] using g3, by simp only [List.size_toArray, hlen, List.length_append]; omega, by simp [Gh.push], ?_⟩
      intro i v u hv hu
      simp only [List.getElem?_toArray] at hu
      rcases Nat.lt_or_ge i cs.length with g | g
      · rw [List.getElem?_append_left g] at hv
        rw [List.append_assoc, List.getElem?_append_left (by simp; omega), List.getElem?_take, if_pos (by omega)] at hu
        exact ⟨(g6 i v u hv (by simpa using hu)).1.ext he, (g6 i v u hv (by simpa using hu)).2⟩
      · rw [List.getElem?_append_right g] at hv
        have hlt : i - cs.length < ys.length := by
          rcases Nat.lt_or_ge (i - cs.length) ys.length with g' | g'
          · exact g'
          · rw [List.getElem?_eq_none g'] at hv; cases hv
        rw [List.append_assoc, List.getElem?_append_right (by simp; omega), List.getElem?_append_left (by simp; omega)] at hu
        have e : i - (arr.toList.take (0 + n * sz)).length = i - cs.length := by simp; omega
        rw [e] at hu
        have hu' : c[i - cs.length]? = some u := by simpa using hu
        exact ⟨(hc.2.1 _ v u hv hu').ext he, hc.2.2 u (Array.mem_toList_iff.2 (Array.mem_of_getElem? hu'))⟩)
  refine ⟨_, ?_, h.1, h.2⟩
  have hp := VR.heap (G := G.push (G.blk b) 0 (G.lim b) sz 0) (w := (w.setRow (G.blk b) (arr.toList.take (0 + n * sz) ++ c.toList ++ arr.toList.drop (0 + n * sz + c.toList.length)).toArray)) (blk := S.length) (len := n + m) (cap := cap)
    (by simp [Gh.push, hn]) (by simp [Gh.push, hn]) hle (by simpa [Gh.push, hn] using hlim)
  have hb : (G.push (G.blk b) 0 (G.lim b) sz 0).blk S.length = G.blk b := by simp [Gh.push, hn]
  rw [hb] at hp
  exact hp

theorem ev_append_heap (hD : TypesOk P D) {e : TypeId} (hkn : ((D e).k matches .none) = false) (hby : (D e).bytes ≤ 4096) {t u ty : TypeId} (ht : P.underlying t = some (.slice e)) {d : TypeDesc} (hu : P.underlying u = some d)
    (hd : d = .string ∨ ∃ f, d = .slice f) {cs ys : List V} {n m : Nat} (hcs : cs.length = n * (D e).size) (hys : ys.length = m * (D e).size) (hb1 : n ≤ 1073741824) (hb2 : m ≤ 1073741824) (hpos : 0 < (D e).size) {S S' : List Blk} {s : V}
    (hs : (s = .nils ∧ n = 0 ∧ S' = S) ∨ ∃ b, s = .heap b n ∧ S[b]? = some (.cells (D e).size cs) ∧ S' = S.set b .dead) (G : Gh) (w : World) (sc x : Value) (hsv : VR G w s sc) (hR : Rel G w S) {c : Array Value}
    (hsrc : SrcOk P w (D e).size x m c) (hc : Side G w ys c) :
    ∃ r w' G', (Builtin.append_ #[t, u] ty #[sc, x]).run P w = .ok r w' ∧ VR G' w' (.heap S.length (n + m)) r ∧ Rel G' w' (S' ++ [.cells (D e).size (cs ++ ys)]) ∧ Evol G w S G' w' (S' ++ [.cells (D e).size (cs ++ ys)]) := by
  obtain ⟨i, z, hi, hisz, hiby, hz, _, _, hzs⟩ := ty_info hD hkn
  have hS'len : S'.length = S.length := by rcases hs with ⟨_, _, rfl⟩ | ⟨τ, _, _, rfl⟩ <;> simp
  have hkill : Rel G w S' ∧ Evol G w S G w S' := by
    rcases hs with ⟨_, _, rfl⟩ | ⟨τ, _, _, rfl⟩
    · exact ⟨hR, Evol.refl _ _ _⟩
    · exact hR.kill τ
  have hbound : (n + m) * (D e).bytes ≤ 140737488355328 :=
    Nat.le_trans (Nat.mul_le_mul (Nat.add_le_add hb1 hb2) hby) (by decide)
  have hall : (cs ++ ys).length = (n + m) * (D e).size := by rw [List.length_append, hcs, hys, Nat.add_mul]
  have out : ∀ (base : Option Addr) (cap : Nat) (olds : Array Value), sc = .slice base n cap → (∀ w1, w1.heap = w.heap → (Builtin.firstCells (D e).size n (.slice base n cap)).run P w1 = .ok olds w1) →
      Side G w cs olds → cap < n + m →
      ∃ r w' G', (Builtin.append_ #[t, u] ty #[sc, x]).run P w = .ok r w' ∧ VR G' w' (.heap S.length (n + m)) r ∧ Rel G' w' (S' ++ [.cells (D e).size (cs ++ ys)]) ∧ Evol G w S G' w' (S' ++ [.cells (D e).size (cs ++ ys)]) := by
    intro base cap olds hsc ho hos hcap
    have hrun := run_append_out (ty := ty) ht hu hd hi hz (by rw [hisz]; exact hsrc) (by rw [hisz]; exact ho) hcap (by omega) (by rw [hiby]; exact hbound)
    obtain ⟨G', h1, h2, h3⟩ := grow_heap hD hkn hkill.1 hall (hos.append hc) hzs (cap := grownCap w (n + m) cap e) (grownCap_ge _ _ _ _)
    rw [hS'len] at h1
    exact ⟨_, _, G', by rw [hsc]; exact hrun, h1, h2, hkill.2.trans h3⟩
  have nil_ : sc = .slice none 0 0 → n = 0 →
      ∃ r w' G', (Builtin.append_ #[t, u] ty #[sc, x]).run P w = .ok r w' ∧ VR G' w' (.heap S.length (n + m)) r ∧ Rel G' w' (S' ++ [.cells (D e).size (cs ++ ys)]) ∧ Evol G w S G' w' (S' ++ [.cells (D e).size (cs ++ ys)]) := by
    intro hsc hx0
    subst hx0
    have hc0 : cs = [] := List.eq_nil_of_length_eq_zero (by rw [hcs]; simp)
    by_cases hm0 : m = 0
    · subst hm0
      have hy0 : ys = [] := List.eq_nil_of_length_eq_zero (by rw [hys]; simp)
      subst hc0 hy0
      have hrun := run_append_zero (ty := ty) ht hu hd hi (by rw [hisz]; exact hsrc)
      obtain ⟨h1, h2⟩ := hkill.1.pushNil (D e).size (.cells (D e).size []) (fun _ _ h => by cases h; rfl)
      refine ⟨_, _, _, by rw [hsc]; exact hrun, .heapNil ?_, h1, hkill.2.trans h2⟩
      simp [Gh.pushNil, hR.n]
    · subst hc0
      exact out none 0 #[] hsc (fun w1 _ => run_firstCells_none w1 (D e).size 0 0 0) ⟨rfl, by simp, by simp⟩ (by omega)
  rcases hs with ⟨rfl, rfl, rfl⟩ | ⟨b, rfl, hSb, rfl⟩
  · cases hsv
    exact nil_ rfl rfl
  · cases hsv with
    | heapNil => exact nil_ rfl rfl
    | @heap _ _ cap hb hok hcap hlim =>
      obtain ⟨arr, bt, g1, g2, g3, g4, g5, g6⟩ := hR.live b _ hSb rfl hok
      rw [g5] at hlim
      by_cases hfit : n + m ≤ cap
      · obtain ⟨hle, G', h1, h2, h3⟩ := heap_in hR hSb hok hcs hlim hc hys hfit g1
        have hrun := run_append_in (ty := ty) (sLen := n) (sCap := cap) ht hu hd hi (by rw [hisz]; exact hsrc) g1 hfit (by rw [hisz]; exact hle) hc.2.2
        rw [hisz] at hrun
        exact ⟨_, _, G', hrun, h1, h2, h3⟩
      · have hlen : (arr.toList.take (n * (D e).size)).length = n * (D e).size := by simp; omega
        refine out (some ⟨G.blk b, 0, none⟩) cap (arr.toList.take (n * (D e).size)).toArray rfl (fun w1 hw1 => run_firstCells_some w1 _ _ ⟨G.blk b, 0, none⟩ n cap _ hlen (fun j v hv => ?_)) (Side.of_get (by simp; omega) ?_) (by omega)
        · rw [addr_add, cell_heap hw1, cell_blk g1, Nat.zero_add]
          rw [List.getElem?_take] at hv
          split at hv
          · simpa using hv
          · cases hv
        · intro j v u hv hu
          simp only [List.getElem?_toArray] at hu
          rw [List.getElem?_take] at hu
          split at hu
          · exact g6 j v u hv (by simpa using hu)
          · cases hu

theorem map_eraseC_len (ys : List V) : (ys.map eraseC).length = ys.length := by simp

theorem ev_append (hD : TypesOk P D) {o : Oper} {t u : TypeId} {s x : Operand} {c : Call} (ho : o.op = .call c) (hb : c.callee = .builtin .append) (hts : c.argTypes = #[t, u]) (hargs : c.args = #[s, x]) {ρ : Operand → V} {S : List Blk}
    {k : V → List Blk → Prop} (h : evAppend D t u (ρ s) (ρ x) S k) : ∃ v S', k v S' ∧ RunOk P o ρ S v S' := by
  have fin : ∀ (ev : Operand → Value) (w w' : World) (r : Value), (Builtin.append_ #[t, u] o.type #[ev s, ev x]).run P w = .ok r w' → (execOp ev o).run P w = .ok (.value r) w' := by
    intro ev w w' r hr
    simp [execOp, ho, resolve, hb, hts, hargs, invoke, builtin, hr]
  have hops : ∀ (G : Gh) (ev : Operand → Value) (w : World), (∀ y ∈ o.op.operands, VR G w (ρ y) (ev y)) → VR G w (ρ s) (ev s) ∧ VR G w (ρ x) (ev x) := by
    intro G ev w hop
    exact ⟨hop s (by simp [ho, Op.operands, Call.operands, hb, hargs]), hop x (by simp [ho, Op.operands, Call.operands, hb, hargs])⟩
  unfold evAppend at h
  split at h
  · rename_i e hk
    obtain ⟨hkn, hpos, hby, hku, h⟩ := h
    have ht := ty_slc hD hk
    have hu : ∃ d, P.underlying u = some d ∧ (d = .string ∨ ∃ f, d = .slice f) := by
      cases hq : (D u).k with
      | slc f => exact ⟨_, ty_slc hD hq, .inr ⟨f, rfl⟩⟩
      | str => exact ⟨_, ty_str hD hq, .inl rfl⟩
      | _ => simp [hq] at hku
    obtain ⟨d, hu, hd⟩ := hu
    split at h
    · -- an array that may be written
      obtain ⟨m, ys, ⟨hm, h⟩, hyl, hsrc⟩ := src_cells h
      have hyl' : (ys.map eraseC).length = m * (D e).size := by rw [map_eraseC_len, hyl]
      have go : ∀ (n : Nat) (cs : List V) (S' : List Blk), cs.length = n * (D e).size → n ≤ 1073741824 → ((ρ s = .nils ∧ n = 0 ∧ S' = S) ∨ ∃ b, ρ s = .heap b n ∧ S[b]? = some (.cells (D e).size cs) ∧ S' = S.set b .dead) →
          RunOk P o ρ S (.heap S.length (n + m)) (S' ++ [.cells (D e).size (cs ++ ys.map eraseC)]) := by
        intro n cs S' hcs hn hs G ev w hop hR
        obtain ⟨h1, h2⟩ := hops G ev w hop
        obtain ⟨cc, hc1, hc2⟩ := hsrc G w _ h2 hR
        obtain ⟨r, w', G', g1, g2, g3, g4⟩ := ev_append_heap hD hkn hby (ty := o.type) ht hu hd hcs hyl' hn hm hpos hs G w (ev s) (ev x) h1 hR hc1 hc2.erase
        exact ⟨r, w', G', .inl (fin ev w w' r g1), g2, g3, g4⟩
      split at h
      · rename_i hsv
        refine ⟨_, _, h, ?_⟩
        have := go 0 [] S (by simp) (by omega) (.inl ⟨hsv, rfl, rfl⟩)
        simpa using this
      · rename_i b n hsv
        split at h
        · rename_i sz cs hSb
          obtain ⟨rfl, hcs, hn, _, h⟩ := h
          exact ⟨_, _, h, go n cs (S.set b .dead) hcs hn (.inr ⟨b, hsv, hSb, rfl⟩)⟩
        · exact h.elim
      · exact h.elim
    · obtain ⟨ys, ⟨hm, hall, h⟩, hsrc⟩ := src_rows hD h
      have hys : ∀ v ∈ ys, v.cells.length = (D e).size := fun v hv => by simpa using List.all_eq_true.1 hall v hv
      have go : ∀ (xs : List V) (S' : List Blk), (∀ v ∈ xs, v.cells.length = (D e).size) → xs.length ≤ 1073741824 → ((ρ s = .nils ∧ xs = [] ∧ S' = S) ∨ ∃ τ, ρ s = .rows (some τ) xs ∧ S[τ]? = some (.right (D e).size) ∧ S' = S.set τ .dead) →
          RunOk P o ρ S (.rows (some S.length) (xs ++ ys)) (S' ++ [.right (D e).size]) := by
        intro xs S' hxs hn hs G ev w hop hR
        obtain ⟨h1, h2⟩ := hops G ev w hop
        obtain ⟨cc, hc1, hc2⟩ := hsrc G w _ h2 hys
        obtain ⟨r, w', G', g1, g2, g3, g4⟩ := ev_append_row hD hkn hby (ty := o.type) ht hu hd hxs hys hn hm hs G w (ev s) (ev x) h1 hR hc1 hc2
        exact ⟨r, w', G', .inl (fin ev w w' r g1), g2, g3, g4⟩
      split at h
      · rename_i hsv
        refine ⟨_, _, h, ?_⟩
        have := go [] S (by simp) (by simp) (.inl ⟨hsv, rfl, rfl⟩)
        simpa using this
      · rename_i τ xs hsv
        split at h
        · rename_i sz hSτ
          obtain ⟨rfl, hn, hxa, h⟩ := h
          exact ⟨_, _, h, go xs (S.set τ .dead) (fun v hv => by simpa using List.all_eq_true.1 hxa v hv) hn (.inr ⟨τ, hsv, hSτ, rfl⟩)⟩
        · exact h.elim
      · exact h.elim
  · exact h.elim

theorem ev_makeSlice (hD : TypesOk P D) {o : Oper} {t : TypeId} {l c : Operand} (ho : o.op = .makeSlice t l c) {ρ : Operand → V} {S : List Blk} {k : V → List Blk → Prop} (h : evMakeSlice D t (ρ l) (ρ c) S k) :
    ∃ v S', k v S' ∧ RunOk P o ρ S v S' := by
  unfold evMakeSlice at h
  split at h
  · rename_i e a m b n hk hl hc
    obtain ⟨rfl, h0, hm, hkn, hpos, hby, hwr, h⟩ := h
    refine ⟨_, _, h, fun G ev w hop hR => ?_⟩
    have h1 := hop l (by simp [ho, Op.operands])
    have h2 := hop c (by simp [ho, Op.operands])
    rw [hl] at h1
    rw [hc] at h2
    generalize hcl : ev l = cl at h1
    generalize hcc : ev c = cc at h2
    cases h1; cases h2
    obtain ⟨i, z, hi, hisz, hiby, hz, _, _, hzs⟩ := ty_info hD hkn
    obtain ⟨z', hz', hzside, hzlen⟩ := zero_side hD hkn G w
    have hzeq : z' = z := by
      have : (zeroValue e).run P w = .ok z w := by simp [zeroValue, typeInfo, hi, hz]
      rw [this] at hz'; injection hz' with hz'; exact hz'.symm
    subst hzeq
    have hbz : (i.bytes : Int) * m ≤ 281474976710656 := by
      rw [hiby]
      have h3 : ((D e).bytes : Int) * m ≤ 4096 * 1073741824 := Int.mul_le_mul (by omega) hm h0 (by omega)
      omega
    have hrun := run_make (P := P) w t e i z' (ty_slc hD hk) hi hz a b m m h0 (Int.le_refl _) hbz (by omega)
    rw [hisz] at hrun
    have hx : ∀ x ∈ List.replicate m.toNat (V.agg (D e).zero), x.cells.length = (D e).size := fun x hx => by
      rw [List.eq_of_mem_replicate hx]; exact hzlen
    have hfl : (List.replicate m.toNat (D e).zero).flatten = (List.replicate m.toNat (V.agg (D e).zero)).flatMap V.cells := by
      rw [List.flatMap_def, List.map_replicate]; rfl
    have hside : Side G w (List.replicate m.toNat (D e).zero).flatten (madeCells z'.cells (m.toNat * (D e).size)) := by
      rw [hfl]
      refine Side.of_get (by rw [flat_len hx, size_madeCells]; simp) ?_
      intro j v u hv hu
      have hj : j < m.toNat * (D e).size := by
        rcases Nat.lt_or_ge j (m.toNat * (D e).size) with g | g
        · exact g
        · rw [List.getElem?_eq_none (by rw [flat_len hx]; simpa using g)] at hv; cases hv
      have hq : j / (D e).size < m.toNat := (Nat.div_lt_iff_lt_mul hpos).2 hj
      have hr : j % (D e).size < (D e).size := Nat.mod_lt _ hpos
      have hdm : j / (D e).size * (D e).size + j % (D e).size = j := Nat.div_add_mod' j _
      have h1 := flat_get hx (j / (D e).size) (by simpa using hq) (j % (D e).size) hr
      rw [hdm, hv] at h1
      simp [List.getD, List.getElem?_replicate, hq, V.cells] at h1
      simp [madeCells, hj, hzs] at hu
      have hzj : z'.cells[j % (D e).size]? = some u := by
        rw [Array.getElem?_eq_getElem (by omega)]
        rw [← hu]
        simp [getElem!_def, hzs, hr]
      exact ⟨hzside.2.1 _ v u h1.symm hzj, hzside.2.2 u (Array.mem_toList_iff.2 (Array.mem_of_getElem? hzj))⟩
    obtain ⟨G', g1, g2, g3⟩ := hR.newHeap (n := m.toNat) (sz := (D e).size) (rest := #[]) hside e m.toNat (Nat.le_refl _) (by rw [size_madeCells]; simp)
    rw [Array.append_empty] at g1 g2 g3
    exact ⟨_, _, G', .inl (by simp only [execOp, ho, hcl, hcc, Sem.run_bind, hrun, Result.andThen_ok, Sem.run_pure]), g1, g2, g3⟩
  · exact h.elim

end
end Go.Proofs.Ytblbaniokmgjgaa
