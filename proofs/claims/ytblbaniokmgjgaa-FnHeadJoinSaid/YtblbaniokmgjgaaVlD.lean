/- The operations that only compute, and the reads, are sound. -/
import Derived.Test.YtblbaniokmgjgaaVlC
import Derived.Laws.StructEq
import Derived.Laws.Concat
namespace Go.Proofs.Ytblbaniokmgjgaa
open Go
set_option linter.unusedVariables false
set_option linter.unusedSimpArgs false

/-- The table of types is the program's. -/
def TyOk (P : Program) (t : TypeId) (d : TD) : Prop :=
  d.k = .none ∨ ((∃ i z, P.info? t = some i ∧ i.size = d.size ∧ i.bytes = d.bytes ∧ i.zero = some z ∧ z.cells.toList.map constC = d.zero ∧ z.cells.toList.all Value.oneCell' = true ∧ z.cells.size = d.size) ∧
    match d.k with
    | .none => True
    | .int q => P.underlying t = some (.int q)
    | .bool => P.underlying t = some .bool
    | .str => P.underlying t = some .string
    | .ptr => ∃ e, P.underlying t = some (.pointer e)
    | .slc e => P.underlying t = some (.slice e)
    | .fn => ∃ a b c, P.underlying t = some (.func a b c)
    | .strct fs => ∃ fields : Array Field, P.underlying t = some (.struct fields) ∧ fields.toList.map (fun f => (f.offset, f.type)) = fs.map (fun x => (x.1, x.2.2)) ∧
        (∀ x ∈ fs, ∃ i, P.info? x.2.2 = some i ∧ i.size = x.2.1) ∧ (∀ f ∈ fields.toList, f.name ≠ "_") ∧ P.stoodInHeld t = false ∧ P.eqGuardType P.depth t = false)

structure TypesOk (P : Program) (D : Nat → TD) : Prop where
  ty : ∀ t, TyOk P t (D t)
  mix : P.follows .mixedOrders = true

def RunOk (P : Program) (o : Oper) (ρ : Operand → V) (S : List Blk) (v : V) (S' : List Blk) : Prop :=
  ∀ (G : Gh) (ev : Operand → Value) (w : World), (∀ x ∈ o.op.operands, VR G w (ρ x) (ev x)) → Rel G w S →
    ∃ c w' G', ((execOp ev o).run P w = .ok (.value c) w' ∨ ((execOp ev o).run P w = .ok .skip w' ∧ c = undef)) ∧ VR G' w' v c ∧ Rel G' w' S' ∧ Evol G w S G' w' S'

/-- An operation that leaves memory alone, and does not look at it but through what is read for ever. -/
def PureOk (P : Program) (o : Oper) (ρ : Operand → V) (v : V) : Prop :=
  ∀ (G : Gh) (ev : Operand → Value) (w : World), (∀ x ∈ o.op.operands, VR G w (ρ x) (ev x)) → ∃ c, (execOp ev o).run P w = .ok (.value c) w ∧ VR G w v c

theorem PureOk.run {P : Program} {o : Oper} {ρ : Operand → V} {v : V} (h : PureOk P o ρ v) (S : List Blk) : RunOk P o ρ S v S := by
  intro G ev w hx hR
  obtain ⟨c, hr, hv⟩ := h G ev w hx
  exact ⟨c, w, G, .inl hr, hv, hR, Evol.refl _ _ _⟩

/-- Cells in memory, from an address on, that stand for a list of cells. -/
def CellsAt (G : Gh) (w : World) (b o : Nat) (cs : List V) : Prop :=
  ∀ (i : Nat) (v : V), cs[i]? = some v → ∃ u, w.cell? ⟨b, o + i, none⟩ = some u ∧ VR G w v u ∧ u.oneCell' = true

theorem addr_add (b o n : Nat) : (⟨b, o, none⟩ : Addr).add n = ⟨b, o + n, none⟩ := by
  unfold Addr.add
  split <;> simp_all

section
variable {P : Program} {D : Nat → TD} (hD : TypesOk P D)
include hD

theorem ty_info {t : TypeId} (h : ((D t).k matches .none) = false) : ∃ i z, P.info? t = some i ∧ i.size = (D t).size ∧ i.bytes = (D t).bytes ∧ i.zero = some z ∧ z.cells.toList.map constC = (D t).zero ∧
    z.cells.toList.all Value.oneCell' = true ∧ z.cells.size = (D t).size := by
  rcases hD.ty t with g | ⟨g, _⟩
  · rw [g] at h; cases h
  · exact g

theorem ty_slc {t e : TypeId} (h : (D t).k = .slc e) : P.underlying t = some (.slice e) := by
  rcases hD.ty t with g | ⟨_, g⟩
  · rw [h] at g; cases g
  · rw [h] at g; exact g

theorem ty_str {t : TypeId} (h : (D t).k = .str) : P.underlying t = some .string := by
  rcases hD.ty t with g | ⟨_, g⟩
  · rw [h] at g; cases g
  · rw [h] at g; exact g

theorem ty_int {t : TypeId} {q : IntKind} (h : (D t).k = .int q) : P.underlying t = some (.int q) := by
  rcases hD.ty t with g | ⟨_, g⟩
  · rw [h] at g; cases g
  · rw [h] at g; exact g

theorem ty_bool {t : TypeId} (h : (D t).k = .bool) : P.underlying t = some .bool := by
  rcases hD.ty t with g | ⟨_, g⟩
  · rw [h] at g; cases g
  · rw [h] at g; exact g

theorem ty_ptr {t : TypeId} (h : (D t).k = .ptr) : ∃ e, P.underlying t = some (.pointer e) := by
  rcases hD.ty t with g | ⟨_, g⟩
  · rw [h] at g; cases g
  · rw [h] at g; exact g

theorem ty_fn {t : TypeId} (h : (D t).k = .fn) : ∃ a b c, P.underlying t = some (.func a b c) := by
  rcases hD.ty t with g | ⟨_, g⟩
  · rw [h] at g; cases g
  · rw [h] at g; exact g

theorem ty_strct {t : TypeId} {fs : List (Nat × Nat × TypeId)} (h : (D t).k = .strct fs) : ∃ fields : Array Field, P.underlying t = some (.struct fields) ∧
    fields.toList.map (fun f => (f.offset, f.type)) = fs.map (fun x => (x.1, x.2.2)) ∧
        (∀ x ∈ fs, ∃ i, P.info? x.2.2 = some i ∧ i.size = x.2.1) ∧ (∀ f ∈ fields.toList, f.name ≠ "_") ∧ P.stoodInHeld t = false ∧ P.eqGuardType P.depth t = false := by
  rcases hD.ty t with g | ⟨_, g⟩
  · rw [h] at g; cases g
  · rw [h] at g; exact g

theorem run_size {t : TypeId} (h : ((D t).k matches .none) = false) (w : World) : (sizeOf t).run P w = .ok (D t).size w := by
  obtain ⟨i, z, hi, hs, _⟩ := ty_info hD h
  simp [sizeOf, typeInfo, hi, hs]

theorem run_isAgg {t : TypeId} (h : ((D t).k matches .none) = false) (w : World) : (isAgg t).run P w = .ok (D t).agg w := by
  unfold TD.agg
  cases hk : (D t).k with
  | none => rw [hk] at h; cases h
  | int q => simp [isAgg, run_underlying (ty_int hD hk)]
  | bool => simp [isAgg, run_underlying (ty_bool hD hk)]
  | str => simp [isAgg, run_underlying (ty_str hD hk)]
  | ptr => obtain ⟨e, he⟩ := ty_ptr hD hk; simp [isAgg, run_underlying he]
  | slc e => simp [isAgg, run_underlying (ty_slc hD hk)]
  | fn => obtain ⟨a, b, c, he⟩ := ty_fn hD hk; simp [isAgg, run_underlying he]
  | strct fs => obtain ⟨fields, he, _⟩ := ty_strct hD hk; simp [isAgg, run_underlying he]

theorem load_of_part {t : TypeId} {cs : List V} {off : Nat} {k : V → Prop} (h : evPart D t cs off k) :
    ∃ v, k v ∧ ∀ (G : Gh) (w : World) (b o : Nat), CellsAt G w b o cs → ∃ c, (Instr.loadAt t (.pointer (some ⟨b, o + off, none⟩))).run P w = .ok c w ∧ VR G w v c := by
  unfold evPart at h
  have key : ∀ (hn : ((D t).k matches .none) = false), (D t).agg = true → off + (D t).size ≤ cs.length → ∀ (G : Gh) (w : World) (b o : Nat), CellsAt G w b o cs →
      ∃ c, (Instr.loadAt t (.pointer (some ⟨b, o + off, none⟩))).run P w = .ok c w ∧ VR G w (.agg ((cs.drop off).take (D t).size)) c := by
    intro hn ha hle G w b o hc
    have hget : ∀ j, j < (D t).size → ∃ u v, cs[off + j]? = some v ∧ w.cell? ⟨b, o + (off + j), none⟩ = some u ∧ VR G w v u ∧ u.oneCell' = true := by
      intro j hj
      obtain ⟨u, hu⟩ := hc (off + j) cs[off + j] (List.getElem?_eq_getElem (by omega))
      exact ⟨u, _, List.getElem?_eq_getElem (by omega), hu⟩
    have hf : ∀ j, j < (D t).size → w.cell? ((⟨b, o + off, none⟩ : Addr).add j) = some ((w.cell? ⟨b, o + (off + j), none⟩).getD undef) := by
      intro j hj
      obtain ⟨u, v, _, hu, _⟩ := hget j hj
      rw [addr_add, Nat.add_assoc, hu]; rfl
    refine ⟨.agg ((List.range (D t).size).map fun j => (w.cell? ⟨b, o + (off + j), none⟩).getD undef).toArray, ?_, .agg ?_ ?_ ?_⟩
    · simp only [Instr.loadAt, Instr.sureAddr, loadVar, Sem.run_bind, Sem.run_pure, Result.andThen_ok, run_isAgg hD hn, ha, if_true, run_size hD hn, run_loadCells w _ _ _ hf]
    · simp; omega
    · intro i v u hv hu
      rw [List.getElem?_take] at hv
      split at hv
      · rename_i hi
        obtain ⟨u', v', hv', hu', hr, _⟩ := hget i hi
        rw [List.getElem?_drop, hv'] at hv
        cases hv
        simp [hi, hu'] at hu
        rw [← hu]; exact hr
      · cases hv
    · intro u hu
      simp at hu
      obtain ⟨j, hj, rfl⟩ := hu
      obtain ⟨u', v', _, hu', _, ho⟩ := hget j hj
      rw [hu']; exact ho
  have key2 : ∀ (hn : ((D t).k matches .none) = false) (ha : (D t).agg = false) (v : V), cs[off]? = some v → ∀ (G : Gh) (w : World) (b o : Nat), CellsAt G w b o cs →
      ∃ c, (Instr.loadAt t (.pointer (some ⟨b, o + off, none⟩))).run P w = .ok c w ∧ VR G w v c := by
    intro hn ha v hv G w b o hc
    obtain ⟨u, hu, hr, _⟩ := hc off v hv
    exact ⟨u, by simp [Instr.loadAt, Instr.sureAddr, loadVar, run_isAgg hD hn, ha, hu], hr⟩
  cases hk : (D t).k with
  | none => simp [hk] at h
  | strct fs =>
    simp only [hk] at h
    exact ⟨_, h.2, key (by simp [hk]) (by simp [TD.agg, hk]) h.1⟩
  | _ =>
    simp only [hk] at h
    split at h
    · rename_i v hv
      exact ⟨v, h, key2 (by simp [hk]) (by simp [TD.agg, hk]) v hv⟩
    · exact h.elim

omit hD in
theorem cells_of_blk {G : Gh} {w : World} {S : List Blk} (hR : Rel G w S) {b sz : Nat} {cs : List V} (hS : S[b]? = some (.cells sz cs)) (hk : G.ok b = true) : CellsAt G w (G.blk b) 0 cs := by
  intro i v hv
  obtain ⟨arr, ty, h1, h2, h3, h4, h5, h6⟩ := hR.live b _ hS rfl hk
  have hlt : i < cs.length := by
    rcases Nat.lt_or_ge i cs.length with g | g
    · exact g
    · rw [List.getElem?_eq_none g] at hv; cases hv
  have hu : arr[i]? = some arr[i] := Array.getElem?_eq_getElem (by omega)
  refine ⟨arr[i], ?_, h6 i v _ hv hu⟩
  rw [cell_blk h1, Nat.zero_add]; exact hu

omit hD in
theorem cells_of_eptr {G : Gh} {w : World} {b o : Nat} {cs : List V} {vs : List Value} (hl : cs.length = vs.length)
    (hv : ∀ (i : Nat) (v : V) (u : Value), cs[i]? = some v → vs[i]? = some u → VR G w v u) (ho : ∀ u ∈ vs, u.oneCell' = true) (hh : Held w b o vs) : CellsAt G w b o cs := by
  intro i v hi
  have hlt : i < vs.length := by
    rcases Nat.lt_or_ge i cs.length with g | g
    · omega
    · rw [List.getElem?_eq_none g] at hi; cases hi
  exact ⟨vs[i], hh i _ (List.getElem?_eq_getElem hlt), hv i v _ hi (List.getElem?_eq_getElem hlt), ho _ (List.getElem_mem _)⟩

/-- Reads. -/
theorem ev_load {o : Oper} {t : TypeId} {x : Operand} (ho : o.op = .load t x) {ρ : Operand → V} {S : List Blk} {k : V → Prop} (h : evLoad D t (ρ x) S k) : ∃ v, k v ∧ RunOk P o ρ S v S := by
  unfold evLoad at h
  cases hx : ρ x <;> simp only [hx] at h
  case ptr b off =>
    split at h
    · rename_i sz cs hS
      obtain ⟨v, hkv, hv⟩ := load_of_part hD h
      refine ⟨v, hkv, ?_⟩
      intro G ev w hop hR
      have h1 := hop x (by simp [ho, Op.operands])
      rw [hx] at h1
      generalize hc : ev x = c at h1
      cases h1 with
      | ptr hb hk =>
        obtain ⟨u, hr, hvr⟩ := hv G w (G.blk b) 0 (cells_of_blk hR hS hk)
        rw [Nat.zero_add] at hr
        exact ⟨u, w, G, .inl (by simp [execOp, ho, hc, hr]), hvr, hR, Evol.refl _ _ _⟩
    · exact h.elim
  case eptr e off =>
    obtain ⟨v, hkv, hv⟩ := load_of_part hD h.2
    refine ⟨v, hkv, ?_⟩
    intro G ev w hop hR
    have h1 := hop x (by simp [ho, Op.operands])
    rw [hx] at h1
    generalize hc : ev x = c at h1
    cases h1 with
    | eptr vs hl hv' ho' hh hp =>
      obtain ⟨u, hr, hvr⟩ := hv G w _ _ (cells_of_eptr hl hv' ho' hh)
      exact ⟨u, w, G, .inl (by simp [execOp, ho, hc, hr]), hvr, hR, Evol.refl _ _ _⟩
  all_goals exact h.elim

end

section
variable {P : Program} {D : Nat → TD}

theorem ev_move {o : Oper} {x : Operand} (ho : o.op = .move x ∨ o.op = .assign x) (ρ : Operand → V) : PureOk P o ρ (ρ x) := by
  intro G ev w hop
  rcases ho with ho | ho
  · exact ⟨ev x, by simp [execOp, ho], hop x (by simp [ho, Op.operands])⟩
  · exact ⟨ev x, by simp [execOp, ho], hop x (by simp [ho, Op.operands])⟩

theorem ev_pick {o : Oper} {c x y : Operand} (ho : o.op = .pick c x y) (ρ : Operand → V) (t : Bool) (hc : ρ c = .bool t) : PureOk P o ρ (if t then ρ x else ρ y) := by
  intro G ev w hop
  have h1 := hop c (by simp [ho, Op.operands])
  have h2 := hop x (by simp [ho, Op.operands])
  have h3 := hop y (by simp [ho, Op.operands])
  rw [hc] at h1
  generalize hcc : ev c = cc at h1
  cases h1
  cases t
  · exact ⟨ev y, by simp [execOp, ho, hcc, asBool], h3⟩
  · exact ⟨ev x, by simp [execOp, ho, hcc, asBool], h2⟩

theorem ev_un {o : Oper} {op : UnOp} {t : TypeId} {x : Operand} (ho : o.op = .unOp op t x) {ρ : Operand → V} {k : V → Prop} (h : evUn op (ρ x) k) : ∃ v, k v ∧ PureOk P o ρ v := by
  unfold evUn at h
  split at h
  · rename_i b hx
    refine ⟨_, h, fun G ev w hop => ?_⟩
    have h1 := hop x (by simp [ho, Op.operands])
    rw [hx] at h1
    generalize hc : ev x = c at h1
    cases h1
    exact ⟨.bool (!b), by simp [execOp, ho, hc, Op.unary], .bool _⟩
  · rename_i a n hx
    refine ⟨_, h, fun G ev w hop => ?_⟩
    have h1 := hop x (by simp [ho, Op.operands])
    rw [hx] at h1
    generalize hc : ev x = c at h1
    cases h1
    exact ⟨.int a (a.wrap (0 - n)), by simp [execOp, ho, hc, Op.unary, Op.intArith], .int _ _⟩
  · exact h.elim

theorem ev_extract {o : Oper} {x : Operand} {i : Nat} (ho : o.op = .extract x i) {ρ : Operand → V} {k : V → Prop} (h : evExtract (ρ x) i k) : ∃ v, k v ∧ PureOk P o ρ v := by
  unfold evExtract at h
  split at h
  · rename_i vs hx
    split at h
    · rename_i v hv
      refine ⟨v, h, fun G ev w hop => ?_⟩
      have h1 := hop x (by simp [ho, Op.operands])
      rw [hx] at h1
      generalize hc : ev x = c at h1
      cases h1 with
      | tup hl hr =>
        rename_i c
        have hlt : i < c.size := by
          rcases Nat.lt_or_ge i vs.length with g | g
          · omega
          · rw [List.getElem?_eq_none g] at hv; cases hv
        have hci : c[i]? = some c[i] := Array.getElem?_eq_getElem hlt
        exact ⟨c[i], by simp [execOp, ho, hc, Instr.extract, hlt], hr i v _ hv hci⟩
    · exact h.elim
  · exact h.elim

theorem ev_nil {o : Oper} {x : Operand} (ho : o.op = .nilCheck x) {ρ : Operand → V} {k : V → Prop} (h : evNil (ρ x) k) : ∃ v, k v ∧ PureOk P o ρ v := by
  unfold evNil at h
  split at h
  · rename_i b of hx
    refine ⟨_, h, fun G ev w hop => ?_⟩
    have h1 := hop x (by simp [ho, Op.operands])
    rw [hx] at h1
    generalize hc : ev x = c at h1
    cases h1 with
    | ptr hb hk => exact ⟨_, by simp [execOp, ho, hc], .ptr hb hk⟩
  · rename_i e of hx
    refine ⟨_, h, fun G ev w hop => ?_⟩
    have h1 := hop x (by simp [ho, Op.operands])
    rw [hx] at h1
    generalize hc : ev x = c at h1
    cases h1 with
    | eptr vs hl hv' ho' hh hp => exact ⟨_, by simp [execOp, ho, hc], .eptr vs hl hv' ho' hh hp⟩
  · rename_i f cap hx
    refine ⟨_, h, fun G ev w hop => ?_⟩
    have h1 := hop x (by simp [ho, Op.operands])
    rw [hx] at h1
    generalize hc : ev x = c at h1
    cases h1 with
    | fn hl hr => exact ⟨_, by simp [execOp, ho, hc], .fn hl hr⟩
  · exact h.elim

theorem ev_makeFunc {o : Oper} {fn : Fn} {first captured : Array Operand} (ho : o.op = .makeFunc fn first captured) {ρ : Operand → V} {k : V → Prop}
    (h : evMakeFunc fn (first.toList.map ρ) (captured.toList.map ρ) k) : ∃ v, k v ∧ PureOk P o ρ v := by
  unfold evMakeFunc at h
  split at h
  · rename_i f hf
    refine ⟨_, h, fun G ev w hop => ?_⟩
    have hfirst : first = #[] := by
      have : first.toList = [] := by simpa using hf
      simpa using congrArg List.toArray this
    subst hfirst
    refine ⟨.func (.func f) #[] (captured.map ev), by simp [execOp, ho, Instr.makeFunc], .fn (by simp) ?_⟩
    intro i v u hv hu
    simp at hv hu
    obtain ⟨x, hx, rfl⟩ := hv
    rw [hx] at hu
    simp at hu
    subst hu
    exact hop x (by simp [ho, Op.operands]; exact Array.mem_of_getElem? hx)
  · exact h.elim

end
end Go.Proofs.Ytblbaniokmgjgaa
