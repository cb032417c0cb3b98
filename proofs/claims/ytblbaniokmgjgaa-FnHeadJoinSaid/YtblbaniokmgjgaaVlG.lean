/- Slice expressions, struct literals, new variables, stores: sound. -/
import Derived.Test.YtblbaniokmgjgaaVlF
namespace Go.Proofs.Ytblbaniokmgjgaa
open Go
set_option linter.unusedVariables false
set_option linter.unusedSimpArgs false

section
variable {P : Program} {D : Nat → TD} (hD : TypesOk P D)
include hD

theorem ev_slice {o : Oper} {t : TypeId} {x : Operand} {lo hi : Option Operand} (ho : o.op = .slice t x lo hi none) {ρ : Operand → V} {k : V → Prop} (h : evSlice D t (ρ x) (lo.map ρ) (hi.map ρ) k) : ∃ v, k v ∧ PureOk P o ρ v := by
  have endOk : ∀ (y : Option Operand) (d : Nat) (q : Int → Prop), evEnd (y.map ρ) d q → ∃ n, q n ∧ ∀ (G : Gh) (ev : Operand → Value) (w : World), (∀ z ∈ y, VR G w (ρ z) (ev z)) →
      (y = none ∧ n = d) ∨ (∃ kk, y.map ev = some (.int kk n)) := by
    intro y d q hq
    cases y with
    | none => exact ⟨d, hq, fun _ _ _ _ => .inl ⟨rfl, rfl⟩⟩
    | some z =>
      simp only [Option.map_some, evEnd] at hq
      split at hq
      · rename_i heq; cases heq
      · rename_i a n heq
        have hz : ρ z = .int a n := by injection heq
        refine ⟨n, hq, fun G ev w hop => .inr ?_⟩
        have h1 := hop z rfl
        rw [hz] at h1
        generalize hc : ev z = c at h1
        cases h1
        exact ⟨a, by simp [hc]⟩
      · exact hq.elim
  have ends : ∀ (ev : Operand → Value) (w : World) (isS : Bool) (len cap : Nat) (l hh : Int), ((lo = none ∧ l = (0 : Nat)) ∨ ∃ kk, lo.map ev = some (.int kk l)) → ((hi = none ∧ hh = len) ∨ ∃ kk, hi.map ev = some (.int kk hh)) →
      0 ≤ l → l ≤ hh → hh ≤ cap → (Instr.sliceBounds isS len cap (lo.map ev) (hi.map ev) none).run P w = .ok (l.toNat, hh.toNat, cap) w := by
    intro ev w isS len cap l hh hl hhi h0 hlh hcap
    have e1 : 0 ≤ hh := by omega
    have e2 : l ≤ (hh.toNat : Int) := by omega
    rcases hl with ⟨hl, hl'⟩ | ⟨k1, hl⟩ <;> rcases hhi with ⟨hhi, hhi'⟩ | ⟨k2, hhi⟩
    · subst hl hhi hl' hhi'
      simp [Instr.sliceBounds]
    · subst hl hl'
      rw [hhi]
      simp [Instr.sliceBounds, Instr.sliceBound, asIntOf, e1, hcap]
    · subst hhi hhi'
      rw [hl]
      simp [Instr.sliceBounds, Instr.sliceBound, asIntOf, h0, hlh]
    · rw [hl, hhi]
      simp [Instr.sliceBounds, Instr.sliceBound, asIntOf, h0, e1, e2, hcap]
      intro hm; omega
  unfold evSlice at h
  split at h
  · rename_i s hx
    obtain ⟨hk, h⟩ := h
    obtain ⟨hh, h, hh1⟩ := endOk hi _ _ h
    obtain ⟨l, h, hl1⟩ := endOk lo _ _ h
    obtain ⟨h0, hlh, hle, h⟩ := h
    refine ⟨_, h, fun G ev w hop => ?_⟩
    have h1 := hop x (by simp [ho, Op.operands])
    rw [hx] at h1
    generalize hc : ev x = c at h1
    cases h1
    have hb := ends ev w false s.length s.length l hh (hl1 G ev w (fun z hz => hop z (by cases hz; simp [ho, Op.operands]))) (hh1 G ev w (fun z hz => hop z (by cases hz; simp [ho, Op.operands]))) h0 hlh hle
    have hsz : (⟨⟨s⟩⟩ : ByteArray).size = s.length := rfl
    refine ⟨.string ⟨⟨(s.take hh.toNat).drop l.toNat⟩⟩, ?_, .str _⟩
    simp only [execOp, ho, hc, Instr.sliceAt, Instr.slice, Sem.run_bind, run_underlying (ty_str hD hk), Result.andThen_ok, Option.map_none, hsz, Option.isSome_none, Bool.false_eq_true, if_false, hb, Sem.run_pure]
    congr 3
    apply ByteArray.ext
    rw [ByteArray.data_extract]
    apply Array.ext'
    simp
    rw [List.drop_take]
  · rename_i tok xs hx
    obtain ⟨⟨e, hk, hke, hall⟩, h⟩ := h
    obtain ⟨hh, h, hh1⟩ := endOk hi _ _ h
    obtain ⟨l, h, hl1⟩ := endOk lo _ _ h
    obtain ⟨h0, hlh, hle, h⟩ := h
    have hsz : ∀ v ∈ xs, v.cells.length = (D e).size := fun v hv => by simpa using List.all_eq_true.1 hall v hv
    refine ⟨_, h, fun G ev w hop => ?_⟩
    have h1 := hop x (by simp [ho, Op.operands])
    rw [hx] at h1
    generalize hc : ev x = c at h1
    have hlo := hl1 G ev w (fun z hz => hop z (by cases hz; simp [ho, Op.operands]))
    have hhi := hh1 G ev w (fun z hz => hop z (by cases hz; simp [ho, Op.operands]))
    cases h1 with
    | rowsNil =>
      have hh0 : hh = 0 := by simp at hle; omega
      have hl0 : l = 0 := by omega
      subst hh0 hl0
      have hb := ends ev w true 0 0 0 0 hlo hhi (by omega) (by omega) (by omega)
      refine ⟨.slice none 0 0, ?_, .rowsNil (fun τ hτ => by cases hτ)⟩
      simp only [execOp, ho, hc, Instr.sliceAt, Instr.slice, Sem.run_bind, run_underlying (ty_slc hD hk), Result.andThen_ok, Option.map_none]
      rw [hb]
      simp [run_size hD hke]
    | @rows _ _ b off cap vs hl hr hone hh' hp hcap ht =>
      have hb := ends ev w true xs.length cap l hh hlo hhi h0 hlh (by omega)
      have hlen : ((xs.take hh.toNat).drop l.toNat).length = hh.toNat - l.toNat := by simp; omega
      have hsz' : ∀ v ∈ (xs.take hh.toNat), v.cells.length = (D e).size := fun v hv => hsz v (List.mem_of_mem_take hv)
      have hflat : ((xs.take hh.toNat).drop l.toNat).flatMap V.cells = ((xs.flatMap V.cells).take (hh.toNat * (D e).size)).drop (l.toNat * (D e).size) := by
        rw [flat_drop _ hsz', flat_take _ hsz]
      have hvl : vs.length = xs.length * (D e).size := by rw [← hl, flat_len hsz]
      have hm1 : l.toNat * (D e).size ≤ hh.toNat * (D e).size := Nat.mul_le_mul_right _ (by omega)
      have hm2 : hh.toNat * (D e).size ≤ vs.length := by rw [hvl]; exact Nat.mul_le_mul_right _ (by omega)
      have hrun : (execOp ev o).run P w = .ok (.value (.slice (some (if cap = l.toNat then ⟨b, off, none⟩ else ⟨b, off + l.toNat * (D e).size, none⟩)) (hh.toNat - l.toNat) (cap - l.toNat))) w := by
        simp only [execOp, ho, hc, Instr.sliceAt, Instr.slice, Sem.run_bind, run_underlying (ty_slc hD hk), Result.andThen_ok, Option.map_none]
        rw [hb]
        simp only [Result.andThen_ok, run_size hD hke, Sem.run_pure, Option.map_some, addr_add]
        congr 2
        split <;> rfl
      refine ⟨_, hrun, ?_⟩
      rw [← hlen]
      have hcell : ∀ (i : Nat) (v : V) (u : Value), (((xs.take hh.toNat).drop l.toNat).flatMap V.cells)[i]? = some v → ((vs.take (hh.toNat * (D e).size)).drop (l.toNat * (D e).size))[i]? = some u → VR G w v u := by
        intro i v u hv hu
        rw [hflat, List.getElem?_drop, List.getElem?_take] at hv
        rw [List.getElem?_drop, List.getElem?_take] at hu
        split at hv
        · rename_i hi
          rw [if_pos hi] at hu
          exact hr _ v u hv hu
        · cases hv
      have hone' : ∀ u ∈ (vs.take (hh.toNat * (D e).size)).drop (l.toNat * (D e).size), u.oneCell' = true := fun u hu => hone u (List.mem_of_mem_take (List.mem_of_mem_drop hu))
      have hll : (((xs.take hh.toNat).drop l.toNat).flatMap V.cells).length = ((vs.take (hh.toNat * (D e).size)).drop (l.toNat * (D e).size)).length := by
        rw [hflat]; simp [hl]
      by_cases hcl : cap = l.toNat
      · rw [if_pos hcl]
        have hz : ((vs.take (hh.toNat * (D e).size)).drop (l.toNat * (D e).size)).length = 0 := by
          have : hh.toNat = l.toNat := by omega
          simp [this]
        refine .rows _ hll hcell hone' ?_ (by omega) (by omega) (fun τ hτ => by cases hτ)
        intro i u hu
        rw [List.getElem?_eq_none (by omega)] at hu
        cases hu
      · rw [if_neg hcl]
        refine .rows _ hll hcell hone' ?_ ?_ (by omega) (fun τ hτ => by cases hτ)
        · intro i u hu
          rw [List.getElem?_drop, List.getElem?_take] at hu
          split at hu
          · rw [Nat.add_assoc]
            exact hh' _ u hu
          · cases hu
        · simp; omega
  · rename_i bb n hx
    obtain ⟨⟨e, hk, hke⟩, h⟩ := h
    obtain ⟨hh, h, hh1⟩ := endOk hi _ _ h
    obtain ⟨l, h, hl1⟩ := endOk lo _ _ h
    obtain ⟨rfl, h0, hle, h⟩ := h
    refine ⟨_, h, fun G ev w hop => ?_⟩
    have h1 := hop x (by simp [ho, Op.operands])
    rw [hx] at h1
    generalize hc : ev x = c at h1
    have hlo := hl1 G ev w (fun z hz => hop z (by cases hz; simp [ho, Op.operands]))
    have hhi := hh1 G ev w (fun z hz => hop z (by cases hz; simp [ho, Op.operands]))
    cases h1 with
    | heapNil hb =>
      have hh0 : hh = 0 := by simp at hle; omega
      subst hh0
      have hb' := ends ev w true 0 0 0 0 hlo hhi (by omega) (by omega) (by omega)
      refine ⟨.slice none 0 0, ?_, .heapNil hb⟩
      simp only [execOp, ho, hc, Instr.sliceAt, Instr.slice, Sem.run_bind, run_underlying (ty_slc hD hk), Result.andThen_ok, Option.map_none]
      rw [hb']
      simp [run_size hD hke]
    | @heap _ _ cap hb hok hcap hlim =>
      have hb' := ends ev w true n cap 0 hh hlo hhi (by omega) h0 (by omega)
      have hrun : (execOp ev o).run P w = .ok (.value (.slice (some ⟨G.blk bb, 0, none⟩) hh.toNat cap)) w := by
        simp only [execOp, ho, hc, Instr.sliceAt, Instr.slice, Sem.run_bind, run_underlying (ty_slc hD hk), Result.andThen_ok, Option.map_none]
        rw [hb']
        simp only [Result.andThen_ok, run_size hD hke, Sem.run_pure, Option.map_some, addr_add]
        simp
      exact ⟨_, hrun, .heap hb hok (by omega) hlim⟩
  · exact h.elim

end

theorem ev_min {P : Program} {o : Oper} {x y : Operand} {c : Call} (ho : o.op = .call c) (hb : c.callee = .builtin .min) (hx : c.args = #[x, y]) {ρ : Operand → V} {k : V → Prop}
    (h : evMin (ρ x) (ρ y) k) : ∃ v, k v ∧ PureOk P o ρ v := by
  unfold evMin at h
  split at h
  · rename_i a m b n hxx hyy
    refine ⟨_, h, fun G ev w hop => ?_⟩
    have h1 := hop x (by simp [ho, Op.operands, Call.operands, hb, hx])
    have h2 := hop y (by simp [ho, Op.operands, Call.operands, hb, hx])
    rw [hxx] at h1
    rw [hyy] at h2
    generalize hc : ev x = cx at h1
    generalize hd : ev y = cy at h2
    cases h1; cases h2
    exact ⟨.int a (if n < m then n else m), by simp [execOp, ho, resolve, hb, hx, invoke, builtin, hc, hd, Builtin.min_, Builtin.min2], .int _ _⟩
  · exact h.elim

theorem ev_max {P : Program} {o : Oper} {x y : Operand} {c : Call} (ho : o.op = .call c) (hb : c.callee = .builtin .max) (hx : c.args = #[x, y]) {ρ : Operand → V} {k : V → Prop}
    (h : evMax (ρ x) (ρ y) k) : ∃ v, k v ∧ PureOk P o ρ v := by
  unfold evMax at h
  split at h
  · rename_i a m b n hxx hyy
    refine ⟨_, h, fun G ev w hop => ?_⟩
    have h1 := hop x (by simp [ho, Op.operands, Call.operands, hb, hx])
    have h2 := hop y (by simp [ho, Op.operands, Call.operands, hb, hx])
    rw [hxx] at h1
    rw [hyy] at h2
    generalize hc : ev x = cx at h1
    generalize hd : ev y = cy at h2
    cases h1; cases h2
    exact ⟨.int a (if n > m then n else m), by simp [execOp, ho, resolve, hb, hx, invoke, builtin, hc, hd, Builtin.max_, Builtin.max2], .int _ _⟩
  · exact h.elim

theorem ev_min3 {P : Program} {o : Oper} {x y z : Operand} {c : Call} (ho : o.op = .call c) (hb : c.callee = .builtin .min) (hx : c.args = #[x, y, z]) {ρ : Operand → V} {k : V → Prop}
    (h : evMin (ρ x) (ρ y) fun u => evMin u (ρ z) k) : ∃ v, k v ∧ PureOk P o ρ v := by
  unfold evMin at h
  split at h
  · rename_i a m b n hxx hyy
    split at h
    · rename_i a' m' b' n' hxx' hyy'
      cases hxx'
      refine ⟨_, h, fun G ev w hop => ?_⟩
      have h1 := hop x (by simp [ho, Op.operands, Call.operands, hb, hx])
      have h2 := hop y (by simp [ho, Op.operands, Call.operands, hb, hx])
      have h3 := hop z (by simp [ho, Op.operands, Call.operands, hb, hx])
      rw [hxx] at h1
      rw [hyy] at h2
      rw [hyy'] at h3
      generalize hc : ev x = cx at h1
      generalize hd : ev y = cy at h2
      generalize he : ev z = cz at h3
      cases h1; cases h2; cases h3
      exact ⟨_, by simp [execOp, ho, resolve, hb, hx, invoke, builtin, hc, hd, he, Builtin.min_, Builtin.min2], .int _ _⟩
    · exact h.elim
  · exact h.elim

/-- A list of cells and an array of values, side by side. -/
def Side (G : Gh) (w : World) (cs : List V) (c : Array Value) : Prop :=
  cs.length = c.size ∧ (∀ (i : Nat) (v : V) (u : Value), cs[i]? = some v → c[i]? = some u → VR G w v u) ∧ ∀ u ∈ c.toList, u.oneCell' = true

theorem const_ok (G : Gh) (w : World) (u : Value) : VR G w (constC u) u := by
  unfold constC
  split
  · exact .int _ _
  · exact .bool _
  · rename_i s
    obtain ⟨⟨l⟩⟩ := s
    exact .str l
  · exact .nils
  · exact .nilp
  · exact .junk _

theorem constV_ok (G : Gh) (w : World) (u : Value) : VR G w (constV u) u := by
  unfold constV
  split
  · rename_i cs
    split
    · rename_i h
      refine .agg (by simp) ?_ (fun u hu => List.all_eq_true.1 h u hu)
      intro i v u hv hu
      simp at hv
      obtain ⟨a, ha, rfl⟩ := hv
      rw [ha] at hu
      cases hu
      exact const_ok G w _
    · exact .junk _
  · exact const_ok G w _

theorem zero_side {P : Program} {D : Nat → TD} (hD : TypesOk P D) {t : TypeId} (h : ((D t).k matches .none) = false) (G : Gh) (w : World) :
    ∃ z, (zeroValue t).run P w = .ok z w ∧ Side G w (D t).zero z.cells ∧ (D t).zero.length = (D t).size := by
  obtain ⟨i, z, hi, hs, hb, hz, hzz, hone, hsz⟩ := ty_info hD h
  refine ⟨z, by simp [zeroValue, typeInfo, hi, hz], ⟨by rw [← hzz]; simp, ?_, fun u hu => List.all_eq_true.1 hone u hu⟩, by rw [← hzz]; simp [hsz]⟩
  intro j v u hv hu
  rw [← hzz] at hv
  simp at hv
  obtain ⟨a, ha, rfl⟩ := hv
  rw [ha] at hu
  cases hu
  exact const_ok G w _

/-- The cells of a value that is of cells alone. -/
theorem cells_side {G : Gh} {w : World} {v : V} {c : Value} (h : VR G w v c) (ho : v.cells.all V.one = true) : Side G w v.cells c.cells := by
  have one : ∀ (hv : v.cells = [v]) (hc : c.cells = #[c]) (hcc : c.oneCell' = true), Side G w v.cells c.cells := by
    intro hv hc hcc
    rw [hv, hc]
    refine ⟨rfl, ?_, by simpa using hcc⟩
    intro i a b ha hb
    cases i with
    | zero => cases ha; cases hb; exact h
    | succ i => simp at ha
  cases h with
  | agg hl hr hone => exact ⟨hl, hr, hone⟩
  | tup => simp [V.cells, V.one] at ho
  | junk => simp [V.cells, V.one] at ho
  | _ => exact one rfl rfl rfl

theorem one_of_side {G : Gh} {w : World} {v : V} {c : Value} (h : VR G w v c) (ho : v.one = true) : c.oneCell' = true := by
  cases h <;> first | rfl | simp [V.one] at ho

theorem eraseC_ok {G : Gh} {w : World} {v : V} {c : Value} (h : VR G w v c) : VR G w (eraseC v) c := by
  cases h with
  | rows vs a1 a2 a3 a4 a5 a6 a7 => exact .rows vs a1 a2 a3 a4 a5 a6 (fun τ hτ => by cases hτ)
  | rowsNil => exact .rowsNil (fun τ hτ => by cases hτ)
  | nils => exact .rowsNil (fun τ hτ => by cases hτ)
  | int => exact .int _ _
  | bool => exact .bool _
  | str => exact .str _
  | agg a b c => exact .agg a b c
  | tup a b => exact .tup a b
  | heapNil a => exact .heapNil a
  | heap a b c d => exact .heap a b c d
  | ptr a b => exact .ptr a b
  | eptr vs a b c d e => exact .eptr vs a b c d e
  | nilp => exact .nilp
  | fn a b => exact .fn a b
  | junk => exact .junk _

theorem erase1_ok {G : Gh} {w : World} {v : V} {c : Value} (h : VR G w v c) : VR G w (erase1 v) c := by
  cases h with
  | agg hl hr ho =>
    refine .agg (by simpa using hl) ?_ ho
    intro i a u ha hu
    simp at ha
    obtain ⟨b, hb, rfl⟩ := ha
    exact eraseC_ok (hr i b u hb hu)
  | rows vs a1 a2 a3 a4 a5 a6 a7 => exact eraseC_ok (.rows vs a1 a2 a3 a4 a5 a6 a7)
  | rowsNil => exact .rowsNil (fun τ hτ => by cases hτ)
  | nils => exact .rowsNil (fun τ hτ => by cases hτ)
  | int => exact .int _ _
  | bool => exact .bool _
  | str => exact .str _
  | tup a b => exact .tup a b
  | heapNil a => exact .heapNil a
  | heap a b c d => exact .heap a b c d
  | ptr a b => exact .ptr a b
  | eptr vs a b c d e => exact .eptr vs a b c d e
  | nilp => exact .nilp
  | fn a b => exact .fn a b
  | junk => exact .junk _

theorem eraseC_one (v : V) : (eraseC v).one = v.one := by cases v <;> rfl

theorem erase1_cells (v : V) : (erase1 v).cells = v.cells.map eraseC := by cases v <;> rfl

theorem Side.erase {G : Gh} {w : World} {cs : List V} {c : Array Value} (h : Side G w cs c) : Side G w (cs.map eraseC) c := by
  refine ⟨by simpa using h.1, ?_, h.2.2⟩
  intro i a u ha hu
  simp at ha
  obtain ⟨b, hb, rfl⟩ := ha
  exact eraseC_ok (h.2.1 i b u hb hu)

/-- One part goes in. -/
theorem Side.splice {G : Gh} {w : World} {cs xs : List V} {c x : Array Value} (h : Side G w cs c) (hx : Side G w xs x) {off : Nat} (hle : off + xs.length ≤ cs.length) :
    Side G w (splice cs off xs) (x.zipIdx.foldl (fun cs (c, j) => cs.setIfInBounds (off + j) c) c) := by
  obtain ⟨g1, g2⟩ := Great.foldl_set off x.toList 0 c
  have he : x.zipIdx.foldl (fun cs (c, j) => cs.setIfInBounds (off + j) c) c = (x.toList.zipIdx 0).foldl (fun cs (y : Value × Nat) => cs.setIfInBounds (off + y.2) y.1) c := by
    rw [← Array.foldl_toList, Array.toList_zipIdx]
  rw [he]
  have hcl := h.1
  have hxl := hx.1
  refine ⟨by rw [splice_len _ _ _ hle, g1, hcl], ?_, ?_⟩
  · intro i v u hv hu
    rw [splice_get _ _ _ _ hle] at hv
    rw [g2 i] at hu
    simp only [Nat.add_zero] at hu
    by_cases hi : off ≤ i ∧ i < off + xs.length
    · rw [if_pos hi] at hv
      rw [if_pos ⟨hi.1, by simp; omega, by omega⟩] at hu
      exact hx.2.1 _ v u hv (by simpa using hu)
    · rw [if_neg hi] at hv
      rw [if_neg (by simp; omega)] at hu
      exact h.2.1 i v u hv hu
  · intro u hu
    obtain ⟨i, hi, rfl⟩ := List.getElem_of_mem hu
    have hu2 : ((x.toList.zipIdx 0).foldl (fun cs (y : Value × Nat) => cs.setIfInBounds (off + y.2) y.1) c)[i]? = some ((x.toList.zipIdx 0).foldl (fun cs (y : Value × Nat) => cs.setIfInBounds (off + y.2) y.1) c).toList[i] := by
      simp at hi ⊢
    rw [g2 i] at hu2
    split at hu2
    · exact hx.2.2 _ (List.mem_of_getElem? hu2)
    · exact h.2.2 _ (by have := Array.mem_of_getElem? hu2; simpa using this)

end Go.Proofs.Ytblbaniokmgjgaa
