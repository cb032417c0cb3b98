/- Slices, strings, struct values: sound. -/
import Derived.Test.YtblbaniokmgjgaaVlE
namespace Go.Proofs.Ytblbaniokmgjgaa
open Go
set_option linter.unusedVariables false
set_option linter.unusedSimpArgs false

theorem flat_len {sz : Nat} : ∀ {xs : List V}, (∀ x ∈ xs, x.cells.length = sz) → (xs.flatMap V.cells).length = xs.length * sz
  | [], _ => by simp
  | x :: xs, h => by
    have ih := flat_len (xs := xs) fun y hy => h y (List.mem_cons_of_mem _ hy)
    simp only [List.flatMap_cons, List.length_append, List.length_cons, Nat.add_mul, Nat.one_mul]
    rw [ih, h x List.mem_cons_self]; omega

theorem flat_drop {sz : Nat} : ∀ {xs : List V} (l : Nat), (∀ x ∈ xs, x.cells.length = sz) → (xs.drop l).flatMap V.cells = (xs.flatMap V.cells).drop (l * sz)
  | xs, 0, _ => by simp
  | [], l + 1, _ => by simp
  | x :: xs, l + 1, h => by
    have ih := flat_drop (xs := xs) l fun y hy => h y (List.mem_cons_of_mem _ hy)
    have hx := h x List.mem_cons_self
    simp only [List.drop_succ_cons, List.flatMap_cons, ih]
    rw [show (l + 1) * sz = x.cells.length + l * sz by rw [hx, Nat.add_mul]; omega, List.drop_append]
    simp

theorem flat_take {sz : Nat} : ∀ {xs : List V} (l : Nat), (∀ x ∈ xs, x.cells.length = sz) → (xs.take l).flatMap V.cells = (xs.flatMap V.cells).take (l * sz)
  | xs, 0, _ => by simp
  | [], l + 1, _ => by simp
  | x :: xs, l + 1, h => by
    have ih := flat_take (xs := xs) l fun y hy => h y (List.mem_cons_of_mem _ hy)
    have hx := h x List.mem_cons_self
    simp only [List.take_succ_cons, List.flatMap_cons, ih]
    rw [show (l + 1) * sz = x.cells.length + l * sz by rw [hx, Nat.add_mul]; omega, List.take_append, List.take_of_length_le (l := x.cells) (by omega)]
    simp

theorem flat_get {sz : Nat} {xs : List V} (h : ∀ x ∈ xs, x.cells.length = sz) (i : Nat) (hi : i < xs.length) (j : Nat) (hj : j < sz) : (xs.flatMap V.cells)[i * sz + j]? = (xs.getD i .junk).cells[j]? := by
  have h1 := flat_drop (xs := xs) i h
  have h2 : (xs.flatMap V.cells)[i * sz + j]? = ((xs.drop i).flatMap V.cells)[j]? := by rw [h1, List.getElem?_drop]
  rw [h2, List.drop_eq_getElem_cons hi, List.flatMap_cons, List.getElem?_append_left (by rw [h _ (List.getElem_mem _)]; exact hj)]
  simp [List.getD, List.getElem?_eq_getElem hi]

theorem splice_len : ∀ (cs : List V) (off : Nat) (xs : List V), off + xs.length ≤ cs.length → (splice cs off xs).length = cs.length
  | [], 0, [], _ => rfl
  | [], n + 1, xs, h => by simp at h
  | [], 0, x :: xs, h => by simp at h
  | c :: cs, 0, [], _ => rfl
  | c :: cs, 0, x :: xs, h => by
    simp only [splice, List.length_cons]
    rw [splice_len cs 0 xs (by simp at h ⊢; omega)]
  | c :: cs, n + 1, xs, h => by
    simp only [splice, List.length_cons]
    rw [splice_len cs n xs (by simp at h; omega)]

theorem splice_get : ∀ (cs : List V) (off : Nat) (xs : List V) (k : Nat), off + xs.length ≤ cs.length → (splice cs off xs)[k]? = if off ≤ k ∧ k < off + xs.length then xs[k - off]? else cs[k]?
  | [], 0, [], k, _ => by simp [splice]
  | [], n + 1, xs, k, h => by simp at h
  | [], 0, x :: xs, k, h => by simp at h
  | c :: cs, 0, [], k, _ => by simp [splice]
  | c :: cs, 0, x :: xs, k, h => by
    cases k with
    | zero => simp [splice]
    | succ k =>
      simp only [splice, List.getElem?_cons_succ]
      rw [splice_get cs 0 xs k (by simp at h ⊢; omega)]
      simp
  | c :: cs, n + 1, xs, k, h => by
    cases k with
    | zero => simp [splice]
    | succ k =>
      simp only [splice, List.getElem?_cons_succ]
      rw [splice_get cs n xs k (by simp at h; omega)]
      by_cases hk : n ≤ k ∧ k < n + xs.length
      · rw [if_pos hk, if_pos (by omega)]; congr 1; omega
      · rw [if_neg hk, if_neg (by omega)]

section
variable {P : Program} {D : Nat → TD} (hD : TypesOk P D)
include hD

theorem ev_conv {o : Oper} {src dst : TypeId} {x : Operand} (ho : o.op = .convert src dst x) {ρ : Operand → V} {k : V → Prop} (h : evConv D src dst (ρ x) k) : ∃ v, k v ∧ PureOk P o ρ v := by
  obtain ⟨hs, h⟩ := h
  have hsrc : ∃ d, P.underlying src = some d := by
    cases hk : (D src).k with
    | none => rw [hk] at hs; cases hs
    | int q => exact ⟨_, ty_int hD hk⟩
    | bool => exact ⟨_, ty_bool hD hk⟩
    | str => exact ⟨_, ty_str hD hk⟩
    | ptr => obtain ⟨e, he⟩ := ty_ptr hD hk; exact ⟨_, he⟩
    | slc e => exact ⟨_, ty_slc hD hk⟩
    | fn => obtain ⟨a, b, c, he⟩ := ty_fn hD hk; exact ⟨_, he⟩
    | strct fs => obtain ⟨fields, he, _⟩ := ty_strct hD hk; exact ⟨_, he⟩
  obtain ⟨ds, hds⟩ := hsrc
  split at h
  · rename_i a b n hk hx
    refine ⟨_, h, fun G ev w hop => ?_⟩
    have h1 := hop x (by simp [ho, Op.operands])
    rw [hx] at h1
    generalize hc : ev x = c at h1
    cases h1
    exact ⟨.int a (a.wrap n), by simp [execOp, ho, hc, convert, run_underlying hds, run_underlying (ty_int hD hk), Conv.intToInt], .int _ _⟩
  · rename_i s hk hx
    refine ⟨_, h, fun G ev w hop => ?_⟩
    have h1 := hop x (by simp [ho, Op.operands])
    rw [hx] at h1
    generalize hc : ev x = c at h1
    cases h1
    exact ⟨.string ⟨⟨s⟩⟩, by simp [execOp, ho, hc, convert, run_underlying hds, run_underlying (ty_str hD hk)], .str _⟩
  · rename_i tok xs hk hx
    obtain ⟨⟨e, he, hu8⟩, hall, h⟩ := h
    refine ⟨_, h, fun G ev w hop => ?_⟩
    have h1 := hop x (by simp [ho, Op.operands])
    rw [hx] at h1
    generalize hc : ev x = c at h1
    cases h1 with
    | rowsNil =>
      exact ⟨.string ⟨⟨[]⟩⟩, by simp [execOp, ho, hc, run_convert_bytes_string w src dst e none 0 0 (ty_slc hD he) (ty_int hD hu8) (ty_str hD hk), Conv.bytesToString]; rfl, .str _⟩
    | @rows _ _ b off cap vs hl hr hone hh hp hcap ht =>
      have hxs : ∀ v ∈ xs, ∃ n, v = .int .u8 n := by
        intro v hv
        have := List.all_eq_true.1 hall v hv
        split at this
        · exact ⟨_, rfl⟩
        · cases this
      have hcells : xs.flatMap V.cells = xs := by
        clear hl hr hx h hall hc ht hcap
        induction xs with
        | nil => rfl
        | cons v xs ih =>
          obtain ⟨n, rfl⟩ := hxs v List.mem_cons_self
          simp only [List.flatMap_cons, V.cells, ih (fun u hu => hxs u (List.mem_cons_of_mem _ hu)), List.singleton_append]
      rw [hcells] at hl hr
      have hvs : vs = (xs.map fun v => match v with | .int _ n => n | _ => 0).map (Value.int .u8) := by
        apply List.ext_getElem?
        intro i
        rcases Nat.lt_or_ge i xs.length with g | g
        · obtain ⟨n, hn⟩ := hxs xs[i] (List.getElem_mem _)
          have := hr i xs[i] vs[i] (List.getElem?_eq_getElem g) (List.getElem?_eq_getElem (by omega))
          rw [hn] at this
          generalize hvi : vs[i] = vi at this
          cases this
          simp [List.getElem?_eq_getElem g, List.getElem?_eq_getElem (show i < vs.length by omega), hn, hvi]
        · simp [List.getElem?_eq_none g, List.getElem?_eq_none (show vs.length ≤ i by omega)]
      have hload := run_loadCells_list (P := P) w ⟨b, off, none⟩ vs (fun j v hv => by rw [addr_add]; exact hh j v hv)
      rw [← hl, hvs] at hload
      have hrun := run_bytesToString w ⟨b, off, none⟩ xs.length cap (xs.map fun v => match v with | .int _ n => n | _ => 0) hload
      refine ⟨.string ⟨⟨xs.map byteOfV⟩⟩, ?_, .str _⟩
      have hfold : ∀ (ys : List V) (s : ByteArray), (∀ v ∈ ys, ∃ n, v = .int .u8 n) → (ys.map fun v => match v with | .int _ n => n | _ => 0).foldl (fun r n => r.push (UInt8.ofNat n.toNat)) s = ⟨⟨s.data.toList ++ ys.map byteOfV⟩⟩ := by
        intro ys
        induction ys with
        | nil => intro s _; simp
        | cons v ys ih =>
          intro s hv
          obtain ⟨n, rfl⟩ := hv v List.mem_cons_self
          simp only [List.map_cons, List.foldl_cons]
          rw [ih _ (fun u hu => hv u (List.mem_cons_of_mem _ hu))]
          simp [byteOfV, ByteArray.push]
      rw [hfold xs ByteArray.empty hxs] at hrun
      simp only [execOp, ho, hc, Sem.run_bind, run_convert_bytes_string w src dst e (some ⟨b, off, none⟩) xs.length cap (ty_slc hD he) (ty_int hD hu8) (ty_str hD hk), hrun]
      simp [ByteArray.empty, ByteArray.emptyWithCapacity]
      rfl
  · rename_i hk hx
    obtain ⟨⟨e, he, hu8⟩, h⟩ := h
    refine ⟨_, h, fun G ev w hop => ?_⟩
    have h1 := hop x (by simp [ho, Op.operands])
    rw [hx] at h1
    generalize hc : ev x = c at h1
    cases h1
    exact ⟨.string ⟨⟨[]⟩⟩, by simp [execOp, ho, hc, run_convert_bytes_string w src dst e none 0 0 (ty_slc hD he) (ty_int hD hu8) (ty_str hD hk), Conv.bytesToString]; rfl, .str _⟩
  · exact h.elim

theorem ev_fieldAddr {o : Oper} {t : TypeId} {x : Operand} {f : Nat} (ho : o.op = .fieldAddr t x f) {ρ : Operand → V} {k : V → Prop} (h : evFieldAddr D t (ρ x) f k) : ∃ v, k v ∧ PureOk P o ρ v := by
  unfold evFieldAddr at h
  split at h
  · rename_i fs hk
    split at h
    · rename_i off sz u hf
      obtain ⟨hsz, hu, h⟩ := h
      obtain ⟨fields, hun, hm, hs, _⟩ := ty_strct hD hk
      obtain ⟨i, hi, hsi⟩ := hs _ (List.mem_of_getElem? hf)
      have hfield : ∃ fl, fields[f]? = some fl ∧ fl.offset = off ∧ fl.type = u := by
        have h1 := congrArg (fun l => l[f]?) hm
        simp only [List.getElem?_map, hf, Option.map_some] at h1
        cases hq : fields.toList[f]? with
        | none => rw [hq] at h1; cases h1
        | some fl =>
          rw [hq] at h1
          simp at h1
          exact ⟨fl, by simpa using hq, h1.1, h1.2⟩
      obtain ⟨fl, hfl, hoff, hty⟩ := hfield
      have hsize : ∀ w, (sizeOf fl.type).run P w = .ok sz w := by
        intro w
        rw [hty]
        simp [sizeOf, typeInfo, hi]
        exact hsi
      have run : ∀ (w : World) (b o' : Nat), (Instr.fieldAt t (.pointer (some ⟨b, o', none⟩)) f).run P w = .ok (.pointer (some ⟨b, o' + off, none⟩)) w := by
        intro w b o'
        simp [Instr.fieldAt, run_underlying hun, hfl, Instr.sureAddr, fieldPlace, hsize, hsz, hoff, addr_add]
      split at h
      · rename_i b o' hx
        refine ⟨_, h, fun G ev w hop => ?_⟩
        have h1 := hop x (by simp [ho, Op.operands])
        rw [hx] at h1
        generalize hc : ev x = c at h1
        cases h1 with
        | ptr hb hkk => exact ⟨_, by simp [execOp, ho, hc, run], .ptr hb hkk⟩
      · rename_i e o' hx
        refine ⟨_, h, fun G ev w hop => ?_⟩
        have h1 := hop x (by simp [ho, Op.operands])
        rw [hx] at h1
        generalize hc : ev x = c at h1
        cases h1 with
        | @eptr _ b o2 _ vs hl hv' ho' hh hp =>
          refine ⟨.pointer (some ⟨b, o2 + (o' + off), none⟩), by simp [execOp, ho, hc, run, Nat.add_assoc], .eptr vs hl hv' ho' hh hp⟩
      · exact h.elim
    · exact h.elim
  · exact h.elim

theorem part_of_part {t : TypeId} {cs : List V} {off : Nat} {k : V → Prop} (h : evPart D t cs off k) :
    ∃ v, k v ∧ ∀ (G : Gh) (w : World) (c : Array Value), cs.length = c.size → (∀ (i : Nat) (v : V) (u : Value), cs[i]? = some v → c[i]? = some u → VR G w v u) → (∀ u ∈ c.toList, u.oneCell' = true) →
      ∃ r, (part t c off).run P w = .ok r w ∧ VR G w v r := by
  unfold evPart at h
  have agg : ∀ (hn : ((D t).k matches .none) = false), (D t).agg = true → off + (D t).size ≤ cs.length → ∀ (G : Gh) (w : World) (c : Array Value), cs.length = c.size →
      (∀ (i : Nat) (v : V) (u : Value), cs[i]? = some v → c[i]? = some u → VR G w v u) → (∀ u ∈ c.toList, u.oneCell' = true) →
      ∃ r, (part t c off).run P w = .ok r w ∧ VR G w (.agg ((cs.drop off).take (D t).size)) r := by
    intro hn ha hle G w c hl hr hone
    refine ⟨.agg (c.extract off (off + (D t).size)), by simp [part, run_isAgg hD hn, ha, run_size hD hn], .agg (by simp; omega) ?_ ?_⟩
    · intro i v u hv hu
      rw [List.getElem?_take] at hv
      split at hv
      · rename_i hi
        rw [List.getElem?_drop] at hv
        rw [Array.getElem?_extract] at hu
        split at hu
        · exact hr _ v u hv hu
        · cases hu
      · cases hv
    · intro u hu
      refine hone u ?_
      simp only [Array.toList_extract] at hu
      exact List.mem_of_mem_drop (List.mem_of_mem_take hu)
  have one : ∀ (hn : ((D t).k matches .none) = false) (ha : (D t).agg = false) (v : V), cs[off]? = some v → ∀ (G : Gh) (w : World) (c : Array Value), cs.length = c.size →
      (∀ (i : Nat) (v : V) (u : Value), cs[i]? = some v → c[i]? = some u → VR G w v u) → (∀ u ∈ c.toList, u.oneCell' = true) →
      ∃ r, (part t c off).run P w = .ok r w ∧ VR G w v r := by
    intro hn ha v hv G w c hl hr hone
    have hlt : off < c.size := by
      rcases Nat.lt_or_ge off cs.length with g | g
      · omega
      · rw [List.getElem?_eq_none g] at hv; cases hv
    exact ⟨c[off], by simp [part, run_isAgg hD hn, ha, hlt], hr off v _ hv (Array.getElem?_eq_getElem hlt)⟩
  cases hk : (D t).k with
  | none => simp [hk] at h
  | strct fs =>
    simp only [hk] at h
    exact ⟨_, h.2, agg (by simp [hk]) (by simp [TD.agg, hk]) h.1⟩
  | _ =>
    simp only [hk] at h
    split at h
    · rename_i v hv
      exact ⟨v, h, one (by simp [hk]) (by simp [TD.agg, hk]) v hv⟩
    · exact h.elim

theorem ev_field {o : Oper} {t : TypeId} {x : Operand} {f : Nat} (ho : o.op = .field t x f) {ρ : Operand → V} {k : V → Prop} (h : evField D t (ρ x) f k) : ∃ v, k v ∧ PureOk P o ρ v := by
  unfold evField at h
  split at h
  · rename_i fs cs hk hx
    split at h
    · rename_i off sz u hf
      obtain ⟨v, hkv, hv⟩ := part_of_part hD h
      obtain ⟨fields, hun, hm, hs, _⟩ := ty_strct hD hk
      have hfield : ∃ fl, fields[f]? = some fl ∧ fl.offset = off ∧ fl.type = u := by
        have h1 := congrArg (fun l => l[f]?) hm
        simp only [List.getElem?_map, hf, Option.map_some] at h1
        cases hq : fields.toList[f]? with
        | none => rw [hq] at h1; cases h1
        | some fl =>
          rw [hq] at h1
          simp at h1
          exact ⟨fl, by simpa using hq, h1.1, h1.2⟩
      obtain ⟨fl, hfl, hoff, hty⟩ := hfield
      refine ⟨v, hkv, fun G ev w hop => ?_⟩
      have h1 := hop x (by simp [ho, Op.operands])
      rw [hx] at h1
      generalize hc : ev x = c at h1
      cases h1 with
      | @agg _ c hl hr hone =>
        obtain ⟨r, hrun, hvr⟩ := hv G w c hl hr hone
        exact ⟨r, by simp [execOp, ho, hc, Instr.field, run_underlying hun, hfl, asAgg, hoff, hty, hrun], hvr⟩
    · exact h.elim
  · exact h.elim

theorem ev_index {o : Oper} {t : TypeId} {x i : Operand} (ho : o.op = .index t x i) {ρ : Operand → V} {k : V → Prop} (h : evIndex D t (ρ x) (ρ i) k) : ∃ v, k v ∧ PureOk P o ρ v := by
  unfold evIndex at h
  split at h
  · rename_i s a n hx hi
    obtain ⟨hk, h0, hn, h⟩ := h
    refine ⟨_, h, fun G ev w hop => ?_⟩
    have h1 := hop x (by simp [ho, Op.operands])
    have h2 := hop i (by simp [ho, Op.operands])
    rw [hx] at h1
    rw [hi] at h2
    generalize hc : ev x = c at h1
    generalize hd : ev i = d at h2
    cases h1; cases h2
    have hlt : n.toNat < s.length := by omega
    have hget : (⟨⟨s⟩⟩ : ByteArray)[n.toNat]? = some s[n.toNat] := by
      show (if h : n.toNat < (⟨⟨s⟩⟩ : ByteArray).size then some _ else none) = _
      rw [dif_pos (show n.toNat < (⟨⟨s⟩⟩ : ByteArray).size from hlt)]
      rfl
    refine ⟨.int .u8 ((s.getD n.toNat 0).toNat : Int), ?_, .int _ _⟩
    simp [execOp, ho, hc, hd, Instr.index, asIntOf, run_underlying (ty_str hD hk), h0, hget, List.getD, List.getElem?_eq_getElem hlt]
  · exact h.elim

theorem ev_indexAddr {o : Oper} {t : TypeId} {x i : Operand} (ho : o.op = .indexAddr t x i) {ρ : Operand → V} {k : V → Prop} (h : evIndexAddr D t (ρ x) (ρ i) k) : ∃ v, k v ∧ PureOk P o ρ v := by
  unfold evIndexAddr at h
  split at h
  · rename_i tok xs a n hx hi
    obtain ⟨h0, hn, ⟨e, hk, hke, hall⟩, h⟩ := h
    have hsz : ∀ v ∈ xs, v.cells.length = (D e).size := fun v hv => by simpa using List.all_eq_true.1 hall v hv
    refine ⟨_, h, fun G ev w hop => ?_⟩
    have h1 := hop x (by simp [ho, Op.operands])
    have h2 := hop i (by simp [ho, Op.operands])
    rw [hx] at h1
    rw [hi] at h2
    generalize hc : ev x = c at h1
    generalize hd : ev i = d at h2
    cases h2
    have hlt : n.toNat < xs.length := by omega
    cases h1 with
    | rowsNil => simp at hlt
    | @rows _ _ b off cap vs hl hr hone hh hp hcap ht =>
      have hvl : vs.length = xs.length * (D e).size := by rw [← hl, flat_len hsz]
      have hle : n.toNat * (D e).size + (D e).size ≤ vs.length := by
        rw [hvl, ← Nat.succ_mul]; exact Nat.mul_le_mul_right _ hlt
      refine ⟨.pointer (some ⟨b, off + n.toNat * (D e).size, none⟩), ?_, ?_⟩
      · simp only [execOp, ho, hc, hd, Instr.indexAt, asIntOf, Sem.run_bind, Sem.run_pure, Result.andThen_ok, run_underlying (ty_slc hD hk)]
        simp [h0, hn, run_size hD hke, addr_add]
      · have hcl : (xs.getD n.toNat .junk).cells.length = (D e).size := by
          rw [List.getD, List.getElem?_eq_getElem hlt]; exact hsz _ (List.getElem_mem _)
        refine .eptr (o := off + n.toNat * (D e).size) ((vs.drop (n.toNat * (D e).size)).take (D e).size) (by rw [hcl]; simp; omega) ?_ ?_ ?_ (by simp; omega)
        · intro j v u hv hu
          rw [List.getElem?_take] at hu
          split at hu
          · rename_i hj
            rw [List.getElem?_drop] at hu
            exact hr _ v u (by rw [flat_get hsz _ hlt j hj]; exact hv) hu
          · cases hu
        · intro u hu
          exact hone u (List.mem_of_mem_drop (List.mem_of_mem_take hu))
        · intro j u hu
          rw [List.getElem?_take] at hu
          split at hu
          · rw [List.getElem?_drop] at hu
            rw [Nat.add_assoc]
            exact hh _ u hu
          · cases hu
  · rename_i bl l a n hx hi
    obtain ⟨h0, hn, h⟩ := h
    split at h
    · rename_i e hk
      obtain ⟨hke, h⟩ := h
      refine ⟨_, h, fun G ev w hop => ?_⟩
      have h1 := hop x (by simp [ho, Op.operands])
      have h2 := hop i (by simp [ho, Op.operands])
      rw [hx] at h1
      rw [hi] at h2
      generalize hc : ev x = c at h1
      generalize hd : ev i = d at h2
      cases h2
      cases h1 with
      | heapNil => omega
      | heap hb hok hcap hlim =>
        refine ⟨.pointer (some ⟨G.blk bl, n.toNat * (D e).size, none⟩), ?_, .ptr hb hok⟩
        simp only [execOp, ho, hc, hd, Instr.indexAt, asIntOf, Sem.run_bind, Sem.run_pure, Result.andThen_ok, run_underlying (ty_slc hD hk)]
        simp [h0, hn, run_size hD hke, addr_add]
    · exact h.elim
  · exact h.elim

theorem ev_len {o : Oper} {t : TypeId} {x : Operand} {c : Call} (ho : o.op = .call c) (hb : c.callee = .builtin .len) (hts : ∃ ts, c.argTypes.toList = t :: ts) (hx : c.args = #[x]) {ρ : Operand → V} {k : V → Prop}
    (h : evLen D t (ρ x) k) : ∃ v, k v ∧ PureOk P o ρ v := by
  obtain ⟨ts, hts⟩ := hts
  have h0 : c.argTypes[0]? = some t := by
    have : c.argTypes.toList[0]? = some t := by rw [hts]; rfl
    simpa using this
  have fin : ∀ (ev : Operand → Value) (w : World) (r : Value), (Builtin.len_ c.argTypes o.type #[ev x]).run P w = .ok r w → (execOp ev o).run P w = .ok (.value r) w := by
    intro ev w r hr
    simp [execOp, ho, resolve, hb, hx, invoke, builtin, hr]
  unfold evLen at h
  split at h
  · rename_i s hxx
    obtain ⟨hk, h⟩ := h
    refine ⟨_, h, fun G ev w hop => ?_⟩
    have h1 := hop x (by simp [ho, Op.operands, Call.operands, hb, hx])
    rw [hxx] at h1
    generalize hc : ev x = cx at h1
    cases h1
    exact ⟨.int .i64 s.length, fin ev w _ (by rw [hc]; simp [Builtin.len_, h0, run_underlying (ty_str hD hk), goInt]; rfl), .int _ _⟩
  · rename_i tok xs hxx
    obtain ⟨⟨e, hk⟩, h⟩ := h
    refine ⟨_, h, fun G ev w hop => ?_⟩
    have h1 := hop x (by simp [ho, Op.operands, Call.operands, hb, hx])
    rw [hxx] at h1
    generalize hc : ev x = cx at h1
    refine ⟨.int .i64 xs.length, fin ev w _ ?_, .int _ _⟩
    rw [hc]
    cases h1 <;> simp [Builtin.len_, h0, run_underlying (ty_slc hD hk), goInt]
  · rename_i hxx
    obtain ⟨⟨e, hk⟩, h⟩ := h
    refine ⟨_, h, fun G ev w hop => ?_⟩
    have h1 := hop x (by simp [ho, Op.operands, Call.operands, hb, hx])
    rw [hxx] at h1
    generalize hc : ev x = cx at h1
    refine ⟨.int .i64 0, fin ev w _ ?_, .int _ _⟩
    rw [hc]
    cases h1; simp [Builtin.len_, h0, run_underlying (ty_slc hD hk), goInt]
  · rename_i b n hxx
    obtain ⟨⟨e, hk⟩, h⟩ := h
    refine ⟨_, h, fun G ev w hop => ?_⟩
    have h1 := hop x (by simp [ho, Op.operands, Call.operands, hb, hx])
    rw [hxx] at h1
    generalize hc : ev x = cx at h1
    refine ⟨.int .i64 n, fin ev w _ ?_, .int _ _⟩
    rw [hc]
    cases h1 <;> simp [Builtin.len_, h0, run_underlying (ty_slc hD hk), goInt]
  · exact h.elim

end
end Go.Proofs.Ytblbaniokmgjgaa
