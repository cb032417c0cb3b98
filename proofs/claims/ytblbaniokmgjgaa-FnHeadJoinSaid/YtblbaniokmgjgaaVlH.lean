/- Struct literals, new variables, stores, slice literals: sound. -/
import Derived.Test.YtblbaniokmgjgaaVlG
namespace Go.Proofs.Ytblbaniokmgjgaa
open Go
set_option linter.unusedVariables false
set_option linter.unusedSimpArgs false

section
variable {P : Program} {D : Nat → TD}

theorem fill_side (fs : List (Nat × Nat × TypeId)) (place : Nat → Option (Nat × Nat)) (hpl : ∀ i x, fs[i]? = some x → place i = some (x.1, x.2.1)) (ρ : Operand → V) : ∀ (L : List (Nat × Operand)) (cs : List V) (k : List V → Prop),
    evFill fs (L.map fun p => (p.1, ρ p.2)) cs k → ∃ cs', k cs' ∧ ∀ (G : Gh) (w : World) (ev : Operand → Value) (c : Array Value), Side G w cs c → (∀ p ∈ L, VR G w (ρ p.2) (ev p.2)) →
      ∃ c', Instr.fill place c (L.map fun p => (p.1, ev p.2)) = some c' ∧ Side G w cs' c'
  | [], cs, k, h => ⟨cs, h, fun G w ev c hc _ => ⟨c, rfl, hc⟩⟩
  | (i, x) :: L, cs, k, h => by
    simp only [List.map_cons, evFill] at h
    split at h
    · rename_i off sz u hf
      obtain ⟨hlen, hle, hone, h⟩ := h
      obtain ⟨cs', hk, ih⟩ := fill_side fs place hpl ρ L _ k h
      refine ⟨cs', hk, fun G w ev c hc hop => ?_⟩
      have hx := cells_side (hop (i, x) List.mem_cons_self) hone
      have hsp := hc.splice hx (off := off) (by rw [hlen]; exact hle)
      obtain ⟨c', h1, h2⟩ := ih G w ev _ hsp (fun p hp => hop p (List.mem_cons_of_mem _ hp))
      refine ⟨c', ?_, h2⟩
      simp only [List.map_cons]
      unfold Instr.fill
      rw [hpl i _ hf]
      simp only
      have hxs : (ev x).cells.size = sz := by rw [← hlen, hx.1]
      rw [if_neg (by simp [hxs]; rw [← hc.1]; exact hle)]
      exact h1
    · exact h.elim

theorem mapM_places (fs : List (Nat × Nat × TypeId)) : ∀ (fields : List Field) (fs : List (Nat × Nat × TypeId)), fields.map (fun f => (f.offset, f.type)) = fs.map (fun x => (x.1, x.2.2)) →
    (∀ x ∈ fs, ∃ i, P.info? x.2.2 = some i ∧ i.size = x.2.1) → fields.mapM (fun f => (P.info? f.type).map fun i => (f.offset, i.size)) = some (fs.map fun x => (x.1, x.2.1))
  | [], [], _, _ => rfl
  | [], _ :: _, h, _ => by simp at h
  | _ :: _, [], h, _ => by simp at h
  | f :: fields, x :: fs, h, hs => by
    simp only [List.map_cons, List.cons.injEq, Prod.mk.injEq] at h
    obtain ⟨⟨h1, h2⟩, h3⟩ := h
    obtain ⟨i, hi, hsz⟩ := hs x List.mem_cons_self
    have ih := mapM_places fs fields fs h3 (fun y hy => hs y (List.mem_cons_of_mem _ hy))
    simp [List.mapM_cons, h2, hi, ih, h1, hsz]

theorem ev_build (hD : TypesOk P D) {o : Oper} {t : TypeId} {parts : Array (Nat × Operand)} (ho : o.op = .build t parts) {ρ : Operand → V} {k : V → Prop} (h : evBuild D t (parts.toList.map fun p => (p.1, ρ p.2)) k) : ∃ v, k v ∧ PureOk P o ρ v := by
  unfold evBuild at h
  split at h
  · rename_i fs hk
    obtain ⟨hz, h⟩ := h
    obtain ⟨fields, hun, hm, hs, _⟩ := ty_strct hD hk
    have hkn : ((D t).k matches .none) = false := by simp [hk]
    obtain ⟨cs', hkv, hfill⟩ := fill_side fs (fun i => ((fs.map fun x => (x.1, x.2.1)).toArray)[i]?) (fun i x hx => by simp [hx]) ρ parts.toList _ _ h
    refine ⟨_, hkv, fun G ev w hop => ?_⟩
    obtain ⟨i, z, hi, _, _, hzz, _⟩ := ty_info hD hkn
    obtain ⟨z', hz', hside, _⟩ := zero_side hD hkn G w
    have hzeq : z' = z := by
      have : (zeroValue t).run P w = .ok z w := by simp [zeroValue, typeInfo, hi, hzz]
      rw [this] at hz'; injection hz' with hz'; exact hz'.symm
    subst hzeq
    obtain ⟨c', hc', hsc⟩ := hfill G w ev z'.cells hside (fun p hp => hop p.2 (by
      simp only [ho, Op.operands, List.mem_toArray, List.mem_map]
      simp
      exact ⟨p.1, by simpa using hp⟩))
    have hb : P.built t (parts.map fun (i, x) => (i, ev x)).toList = some c' := by
      have hmp := mapM_places (P := P) fs fields.toList fs hm hs
      simp only [Program.built, hi, hun, hzz, hmp]
      rw [Array.toList_map]
      exact hc'
    exact ⟨.agg c', by simp [execOp, ho, run_build w t _ c' hb], .agg hsc.1 hsc.2.1 hsc.2.2⟩
  · exact h.elim

theorem but_setRow {w : World} {g : Nat} {cs : Array Value} : But w (w.setRow g cs) g :=
  ⟨by simp [World.setRow], rfl, rfl, rfl, fun k hk => setRow_other w g k cs hk⟩

/-- Cells of a live block are written. -/
theorem Rel.write {G : Gh} {w : World} {S : List Blk} (hR : Rel G w S) {b sz : Nat} {cs xs : List V} (hS : S[b]? = some (.cells sz cs)) (hk : G.ok b = true) {vs : List Value} (hx : Side G w xs vs.toArray) {off : Nat}
    (hle : off + xs.length ≤ cs.length) {arr : Array Value} {ty : TypeId} (ha : w.heap[G.blk b]? = some (.cells arr ty (0, 0))) :
    Rel G (w.setRow (G.blk b) (arr.toList.take off ++ vs ++ arr.toList.drop (off + vs.length)).toArray) (S.set b (.cells sz (splice cs off xs))) ∧
    Evol G w S G (w.setRow (G.blk b) (arr.toList.take off ++ vs ++ arr.toList.drop (off + vs.length)).toArray) (S.set b (.cells sz (splice cs off xs))) := by
  obtain ⟨arr', ty', h1, h2, h3, h4, h5, h6⟩ := hR.live b _ hS rfl hk
  rw [ha] at h1
  cases h1
  have hxl : xs.length = vs.length := by simpa using hx.1
  refine hR.touch hS rfl hk but_setRow h2 rfl (fun he => ?_)
  have hsize : (arr.toList.take off ++ vs ++ arr.toList.drop (off + vs.length)).length = arr.size := by
    simp; omega
  refine ⟨_, ty, setRow_heap w _ arr _ ty _ ha, h2, by simp only [List.size_toArray]; omega, by simp only [List.size_toArray, splice_len _ _ _ hle]; omega, h5, ?_⟩
  intro i v u hv hu
  rw [splice_get _ _ _ _ hle] at hv
  simp only [List.getElem?_toArray] at hu
  by_cases hi : off ≤ i ∧ i < off + xs.length
  · rw [if_pos hi] at hv
    rw [List.append_assoc, List.getElem?_append_right (by simp; omega), List.getElem?_append_left (by simp; omega)] at hu
    have e : i - (arr.toList.take off).length = i - off := by simp; omega
    rw [e] at hu
    exact ⟨(hx.2.1 _ v u hv (by simpa using hu)).ext he, hx.2.2 u (by simpa using List.mem_of_getElem? hu)⟩
  · rw [if_neg hi] at hv
    have hu' : arr[i]? = some u := by
      rcases Nat.lt_or_ge i off with g | g
      · rw [List.append_assoc, List.getElem?_append_left (by simp; omega), List.getElem?_take, if_pos g] at hu
        simpa using hu
      · rw [List.getElem?_append_right (by simp; omega), List.getElem?_drop] at hu
        have e : off + vs.length + (i - (arr.toList.take off ++ vs).length) = i := by simp; omega
        rw [e] at hu
        simpa using hu
    exact ⟨(h6 i v u hv hu').1.ext he, (h6 i v u hv hu').2⟩

theorem run_storeVar (hD : TypesOk P D) {t : TypeId} (hkn : ((D t).k matches .none) = false) {w : World} {g o : Nat} {v : Value} {cur : Array Value} {ty : TypeId} (hg : w.heap[g]? = some (.cells cur ty (0, 0)))
    (hs : v.cells.size = (D t).size) (hle : o + v.cells.size ≤ cur.size) (h1 : ∀ u ∈ v.cells.toList, u.oneCell' = true) :
    (Instr.storeAt t (.pointer (some ⟨g, o, none⟩)) v).run P w = .ok () (w.setRow g (cur.toList.take o ++ v.cells.toList ++ cur.toList.drop (o + v.cells.toList.length)).toArray) := by
  have hst := run_storeCells_at (P := P) g o ty v.cells.toList 0 cur w hg (by simpa using hle) h1
  simp only [Nat.add_zero] at hst
  simp only [Instr.storeAt, Instr.sureAddr, storeVar, Sem.run_bind, Sem.run_pure, Result.andThen_ok, run_size hD hkn]
  rw [if_neg (by simp [hs])]
  exact hst

theorem ev_store (hD : TypesOk P D) {o : Oper} {t : TypeId} {a x : Operand} (ho : o.op = .store t a x) {ρ : Operand → V} {S : List Blk} {k : List Blk → Prop} (h : evStore D t (ρ a) (ρ x) S k) : ∃ S', k S' ∧ RunOk P o ρ S .junk S' := by
  unfold evStore at h
  split at h
  · rename_i b off ha
    split at h
    · rename_i sz cs hS
      obtain ⟨hkn, hlen, hone, hle, h⟩ := h
      refine ⟨_, h, fun G ev w hop hR => ?_⟩
      have h1 := hop a (by simp [ho, Op.operands])
      have h2 := hop x (by simp [ho, Op.operands])
      rw [ha] at h1
      generalize hc : ev a = c at h1
      cases h1 with
      | ptr hb hk =>
        obtain ⟨arr, ty, g1, g2, g3, g4, g5, g6⟩ := hR.live b _ hS rfl hk
        have hx := cells_side h2 hone
        have hxs : (ev x).cells.size = (ρ x).cells.length := hx.1.symm
        have hrun := run_storeVar hD hkn (v := ev x) (o := off) g1 (by rw [hxs, hlen]) (by rw [hxs]; omega) hx.2.2
        have hsd : Side G w (if sz = 0 then (ρ x).cells else (ρ x).cells.map eraseC) (ev x).cells.toList.toArray := by
          split
          · simpa using hx
          · simpa using hx.erase
        have hw := hR.write hS hk hsd (off := off) (by split <;> simpa using hle) g1
        refine ⟨undef, _, G, .inr ⟨?_, rfl⟩, .junk _, hw.1, hw.2⟩
        simp only [execOp, ho, hc, Sem.run_bind, hrun, Result.andThen_ok, Sem.run_pure]
    · exact h.elim
  · exact h.elim

theorem Rel.newCells {G : Gh} {w : World} {S : List Blk} (hR : Rel G w S) {cs : List V} {arr : Array Value} (ty : TypeId) (hs : Side G w cs (arr.extract 0 cs.length)) (hle : cs.length ≤ arr.size) (sz lim : Nat) (hl : lim ≤ arr.size) :
    Rel (G.push w.heap.size 0 lim sz 0) (w.alloc (.cells arr ty)) (S ++ [.cells sz cs]) ∧ Evol G w S (G.push w.heap.size 0 lim sz 0) (w.alloc (.cells arr ty)) (S ++ [.cells sz cs]) := by
  refine hR.pushNew (w' := w.alloc (.cells arr ty)) (by simp) (fun k hk => heap_alloc_old w _ k hk) rfl rfl rfl 0 lim sz 0 _ (fun he => ?_)
  have hb : (G.push w.heap.size 0 lim sz 0).blk G.n = w.heap.size := by simp [Gh.push]
  refine ⟨arr, ty, by rw [hb]; exact heap_alloc_new w _, by simp [Gh.push], by simpa [Gh.push] using hl, hle, by simp [Gh.push], ?_⟩
  intro i v u hv hu
  have hi : i < cs.length := by
    rcases Nat.lt_or_ge i cs.length with g | g
    · exact g
    · rw [List.getElem?_eq_none g] at hv; cases hv
  have hu' : (arr.extract 0 cs.length)[i]? = some u := by
    rw [Array.getElem?_extract]; simp; exact ⟨by omega, hu⟩
  exact ⟨(hs.2.1 i v u hv hu').ext he, hs.2.2 u (Array.mem_toList_iff.2 (Array.mem_of_getElem? hu'))⟩

theorem Rel.newVar {G : Gh} {w : World} {S : List Blk} (hR : Rel G w S) {cs : List V} {arr : Array Value} (ty : TypeId) (hs : Side G w cs arr) :
    ∃ G', VR G' (w.alloc (.cells arr ty)) (.ptr S.length 0) (.pointer (some ⟨w.heap.size, 0, none⟩)) ∧ Rel G' (w.alloc (.cells arr ty)) (S ++ [.cells 0 cs]) ∧ Evol G w S G' (w.alloc (.cells arr ty)) (S ++ [.cells 0 cs]) := by
  have hex : arr.extract 0 cs.length = arr := by rw [hs.1]; simp
  have h := hR.newCells ty (by rw [hex]; exact hs) (by rw [hs.1]; exact Nat.le_refl _) 0 0 (Nat.zero_le _)
  refine ⟨_, ?_, h.1, h.2⟩
  have hp := VR.ptr (G := G.push w.heap.size 0 0 0 0) (w := w.alloc (.cells arr ty)) (blk := S.length) (off := 0) (by simp [Gh.push, hR.n]) (by simp [Gh.push, hR.n])
  have hb : (G.push w.heap.size 0 0 0 0).blk S.length = w.heap.size := by simp [Gh.push, hR.n]
  rw [hb] at hp
  exact hp

theorem ev_alloc (hD : TypesOk P D) {o : Oper} {t : TypeId} (ho : o.op = .alloc t) (ρ : Operand → V) (S : List Blk) (hkn : ((D t).k matches .none) = false) : RunOk P o ρ S (.ptr S.length 0) (S ++ [.cells 0 (D t).zero]) := by
  intro G ev w hop hR
  obtain ⟨z, hz, hside, _⟩ := zero_side hD hkn G w
  obtain ⟨G', h1, h2, h3⟩ := hR.newVar t hside
  refine ⟨_, _, G', .inl ?_, h1, h2, h3⟩
  simp [execOp, ho, Instr.alloc, hz, newVar, newRow]

theorem ev_box {o : Oper} {t : TypeId} {x : Operand} (ho : o.op = .box t x) (ρ : Operand → V) (S : List Blk) (hone : (ρ x).cells.all V.one = true) : RunOk P o ρ S (.ptr S.length 0) (S ++ [.cells 0 (ρ x).cells]) := by
  intro G ev w hop hR
  have h1 := hop x (by simp [ho, Op.operands])
  obtain ⟨G', h2, h3, h4⟩ := hR.newVar t (cells_side h1 hone)
  refine ⟨_, _, G', .inl ?_, h2, h3, h4⟩
  simp [execOp, ho, Instr.box, newVar, newRow]

end
end Go.Proofs.Ytblbaniokmgjgaa
