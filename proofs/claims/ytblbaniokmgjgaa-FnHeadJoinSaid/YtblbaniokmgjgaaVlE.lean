/- More operations that only compute are sound. -/
import Derived.Test.YtblbaniokmgjgaaVlD
namespace Go.Proofs.Ytblbaniokmgjgaa
open Go
set_option linter.unusedVariables false
set_option linter.unusedSimpArgs false

theorem eqGuard_plain {P : Program} {w : World} (op : BinOp) (t : TypeId) (x y : Operand) (a b : Value) (h : (match a, b with | .nilIface, .nilIface => false | .agg _, .agg _ => false | _, _ => true) = true) :
    (eqGuard op t x y a b).run P w = .ok () w := by
  unfold eqGuard
  cases a <;> cases b <;> simp at h <;> cases op <;> simp

section
variable {P : Program} {D : Nat → TD}

theorem bin_int {o : Oper} {op : BinOp} {t u : TypeId} {x y : Operand} (ho : o.op = .binOp op t x y u) {ρ : Operand → V} {a b : IntKind} {m n : Int} (hx : ρ x = .int a m) (hy : ρ y = .int b n) {r : V} {c : Value}
    (hr : ∀ w, (binOp op t (.int a m) (.int b n)).run P w = .ok c w) (hc : ∀ G w, VR G w r c) : PureOk P o ρ r := by
  intro G ev w hop
  have h1 := hop x (by simp [ho, Op.operands])
  have h2 := hop y (by simp [ho, Op.operands])
  rw [hx] at h1
  rw [hy] at h2
  generalize hcx : ev x = cx at h1
  generalize hcy : ev y = cy at h2
  cases h1
  cases h2
  exact ⟨c, by simp [execOp, ho, hcx, hcy, eqGuard_plain, hr], hc G w⟩

theorem bin_str {o : Oper} {op : BinOp} {t u : TypeId} {x y : Operand} (ho : o.op = .binOp op t x y u) {ρ : Operand → V} {a b : List UInt8} (hx : ρ x = .str a) (hy : ρ y = .str b) {r : V} {c : Value}
    (hr : ∀ w, (binOp op t (.string ⟨⟨a⟩⟩) (.string ⟨⟨b⟩⟩)).run P w = .ok c w) (hc : ∀ G w, VR G w r c) : PureOk P o ρ r := by
  intro G ev w hop
  have h1 := hop x (by simp [ho, Op.operands])
  have h2 := hop y (by simp [ho, Op.operands])
  rw [hx] at h1
  rw [hy] at h2
  generalize hcx : ev x = cx at h1
  generalize hcy : ev y = cy at h2
  cases h1
  cases h2
  exact ⟨c, by simp [execOp, ho, hcx, hcy, eqGuard_plain, hr], hc G w⟩

theorem bin_bool {o : Oper} {op : BinOp} {t u : TypeId} {x y : Operand} (ho : o.op = .binOp op t x y u) {ρ : Operand → V} {a b : Bool} (hx : ρ x = .bool a) (hy : ρ y = .bool b) {r : V} {c : Value}
    (hr : ∀ w, (binOp op t (.bool a) (.bool b)).run P w = .ok c w) (hc : ∀ G w, VR G w r c) : PureOk P o ρ r := by
  intro G ev w hop
  have h1 := hop x (by simp [ho, Op.operands])
  have h2 := hop y (by simp [ho, Op.operands])
  rw [hx] at h1
  rw [hy] at h2
  generalize hcx : ev x = cx at h1
  generalize hcy : ev y = cy at h2
  cases h1
  cases h2
  exact ⟨c, by simp [execOp, ho, hcx, hcy, eqGuard_plain, hr], hc G w⟩

theorem run_eq_eql (w : World) (t : TypeId) (x y : Value) (r : Bool) (hb : (match x, y with | .bool _, .bool _ => true | .pointer _, .pointer _ => true | _, _ => false) = true) (h : (Op.equalIn 10000 t x y).run P w = .ok r w) :
    (binOp .eql t x y).run P w = .ok (.bool r) w ∧ (binOp .neq t x y).run P w = .ok (.bool (!r)) w := by
  cases x <;> cases y <;> simp at hb <;> constructor <;> simp [binOp, Op.equal, Op.maxDepth, h]

theorem eqT_run (hD : TypesOk P D) (w : World) (G : Gh) (d : Nat) {t : TypeId} {c e : V} {u u' : Value} {a : Bool} (h : eqT (D t).k c e = some a) (hu : VR G w c u) (hu' : VR G w e u') :
    (Op.equalIn (d + 1) t u u').run P w = .ok a w ∧ ((D t).k matches .none) = false ∧ (D t).agg = false := by
  generalize hk : (D t).k = kk at h ⊢
  unfold eqT at h
  split at h
  · rename_i q a1 m b1 n
    split at h
    · rename_i hab
      subst hab
      simp at h
      cases hu; cases hu'
      refine ⟨?_, by simp, by simp [TD.agg, hk]⟩
      rw [run_equalIn_int w d t _ q _ _ (ty_int hD hk), ← h]
      congr 1
    · cases h
  · simp at h
    cases hu; cases hu'
    refine ⟨?_, by simp, by simp [TD.agg, hk]⟩
    rw [run_equalIn_bool' w d t _ _ (ty_bool hD hk), ← h]
  · simp at h
    cases hu; cases hu'
    refine ⟨?_, by simp, by simp [TD.agg, hk]⟩
    rw [run_equalIn_string w d t _ _ (ty_str hD hk), ← h, ByteArray.toList_eq, ByteArray.toList_eq]
    congr 1
    simp [Bool.beq_eq_decide_eq]
  · cases h

theorem run_eq_ptr (w : World) (d : Nat) {t e : TypeId} (h : P.underlying t = some (.pointer e)) (a : Addr) : (Op.equalIn (d + 1) t (.pointer (some a)) (.pointer none)).run P w = .ok false w := by
  simp [Op.equalIn, run_underlying h]

theorem run_eq_nil (w : World) (d : Nat) {t e : TypeId} (h : P.underlying t = some (.pointer e)) : (Op.equalIn (d + 1) t (.pointer none) (.pointer none)).run P w = .ok true w := by
  simp [Op.equalIn, run_underlying h]

theorem eq_cells (hD : TypesOk P D) (xs ys : Array Value) (w : World) (d : Nat) : ∀ (fs : List (Nat × Nat × TypeId)) (fields : List Field) (i : Nat) (cs ds : List V) (r : Bool) (G : Gh),
    fields.map (fun f => (f.offset, f.type)) = fs.map (fun x => (x.1, x.2.2)) → (∀ f ∈ fields, f.name ≠ "_") → eqFs D i fs cs ds = some r →
    (∀ (j : Nat) (v : V), cs[j]? = some v → ∃ u, xs[i + j]? = some u ∧ VR G w v u) → (∀ (j : Nat) (v : V), ds[j]? = some v → ∃ u, ys[i + j]? = some u ∧ VR G w v u) →
    (Op.eqFields (d + 1) xs ys fields).run P w = .ok r w
  | [], [], i, [], [], r, G, _, _, h, _, _ => by
    simp [eqFs] at h; subst h; simp [Op.eqFields]
  | [], f :: fields, _, _, _, _, _, hm, _, _, _, _ => by simp at hm
  | x :: fs, [], _, _, _, _, _, hm, _, _, _, _ => by simp at hm
  | [], [], _, _ :: _, _, _, _, _, _, hl, _, _ => by simp [eqFs] at hl
  | [], [], _, [], _ :: _, _, _, _, _, hl, _, _ => by simp [eqFs] at hl
  | _ :: _, _ :: _, _, [], _, _, _, _, _, hl, _, _ => by simp [eqFs] at hl
  | _ :: _, _ :: _, _, _ :: _, [], _, _, _, _, hl, _, _ => by simp [eqFs] at hl
  | (off, sz, t) :: fs, f :: fields, i, c :: cs, e :: ds, r, G, hm, hn, h, hx, hy => by
    simp only [List.map_cons, List.cons.injEq, Prod.mk.injEq] at hm
    obtain ⟨⟨ho, ht⟩, hm⟩ := hm
    simp only [eqFs] at h
    split at h
    · rename_i hos
      obtain ⟨rfl, rfl⟩ := hos
      obtain ⟨u, hu, hru⟩ := hx 0 c rfl
      obtain ⟨u', hu', hru'⟩ := hy 0 e rfl
      simp only [Nat.add_zero] at hu hu'
      split at h
      · rename_i a b ha hb
        simp only [Option.some.injEq] at h
        subst h
        obtain ⟨heq, hkn, hag⟩ := eqT_run hD w G d ha hru hru'
        have ih := eq_cells hD xs ys w d fs fields (off + 1) cs ds b G hm (fun f' hf' => hn f' (List.mem_cons_of_mem _ hf')) hb
          (fun j v hv => by have := hx (j + 1) v (by simpa using hv); rwa [show off + 1 + j = off + (j + 1) by omega])
          (fun j v hv => by have := hy (j + 1) v (by simpa using hv); rwa [show off + 1 + j = off + (j + 1) by omega])
        have hpart : ∀ (zs : Array Value) (z : Value), zs[off]? = some z → (part t zs f.offset).run P w = .ok z w := by
          intro zs z hz
          have hia := run_isAgg hD hkn w
          rw [hag] at hia
          simp only [part, ho, Sem.run_bind, hia, Result.andThen_ok]
          simp [hz]
        have hn' : f.name ≠ "_" := hn f List.mem_cons_self
        rw [Op.eqFields]
        simp only [if_pos hn', Sem.run_bind, hpart xs u hu, hpart ys u' hu', ht, heq, Result.andThen_ok]
        cases a
        · simp
        · simpa using ih
      · cases h
    · cases h

theorem ev_eqs (hD : TypesOk P D) {o : Oper} {op : BinOp} {t u : TypeId} {x y : Operand} (ho : o.op = .binOp op t x y u) {ρ : Operand → V} {xs ys : List V} (hx : ρ x = .agg xs) (hy : ρ y = .agg ys) {k : Bool → Prop}
    (h : evEqS D t xs ys k) : ∃ r, k r ∧ (op = .eql → PureOk P o ρ (.bool r)) ∧ (op = .neq → PureOk P o ρ (.bool (!r))) := by
  unfold evEqS at h
  split at h
  · rename_i fs hk
    split at h
    · rename_i r he
      refine ⟨r, h, ?_⟩
      obtain ⟨fields, hu, hm, hs, hn, hst, hg⟩ := ty_strct hD hk
      have key : ∀ (G : Gh) (ev : Operand → Value) (w : World), (∀ x ∈ o.op.operands, VR G w (ρ x) (ev x)) → ∃ cx cy, ev x = .agg cx ∧ ev y = .agg cy ∧ (Op.equalIn 10000 t (.agg cx) (.agg cy)).run P w = .ok r w := by
        intro G ev w hop
        have h1 := hop x (by simp [ho, Op.operands])
        have h2 := hop y (by simp [ho, Op.operands])
        rw [hx] at h1
        rw [hy] at h2
        generalize hcx : ev x = cx at h1
        generalize hcy : ev y = cy at h2
        cases h1 with
        | @agg _ cx hl1 hr1 _ =>
          cases h2 with
          | @agg _ cy hl2 hr2 _ =>
            refine ⟨cx, cy, rfl, rfl, ?_⟩
            have hf : P.fieldsOf t = fields := by simp [Program.fieldsOf, hu]
            rw [run_equalIn_struct w 9999 t cx cy (by rw [hf]; exact hu) hst, hf]
            refine eq_cells hD cx cy w 9998 fs fields.toList 0 xs ys r G hm hn he ?_ ?_
            · intro j v hv
              have hlt : j < cx.size := by
                rcases Nat.lt_or_ge j xs.length with g | g
                · omega
                · rw [List.getElem?_eq_none g] at hv; cases hv
              rw [Nat.zero_add]
              exact ⟨_, Array.getElem?_eq_getElem hlt, hr1 j v _ hv (Array.getElem?_eq_getElem hlt)⟩
            · intro j v hv
              have hlt : j < cy.size := by
                rcases Nat.lt_or_ge j ys.length with g | g
                · omega
                · rw [List.getElem?_eq_none g] at hv; cases hv
              rw [Nat.zero_add]
              exact ⟨_, Array.getElem?_eq_getElem hlt, hr2 j v _ hv (Array.getElem?_eq_getElem hlt)⟩
      constructor
      · rintro rfl G ev w hop
        obtain ⟨cx, cy, h1, h2, h3⟩ := key G ev w hop
        exact ⟨.bool r, by simp [execOp, ho, h1, h2, run_eqGuard_agg w .eql t x y cx cy hg, run_eql_struct, h3], .bool r⟩
      · rintro rfl G ev w hop
        obtain ⟨cx, cy, h1, h2, h3⟩ := key G ev w hop
        exact ⟨.bool (!r), by simp [execOp, ho, h1, h2, run_eqGuard_agg w .neq t x y cx cy hg, run_neq_struct, h3], .bool _⟩
    · exact h.elim
  · exact h.elim

theorem str_eq (a b : List UInt8) : ((⟨⟨a⟩⟩ : ByteArray).toList == (⟨⟨b⟩⟩ : ByteArray).toList) = decide (a = b) := by
  rw [ByteArray.toList_eq, ByteArray.toList_eq]
  simp [Bool.beq_eq_decide_eq]

theorem ev_bin (hD : TypesOk P D) {o : Oper} {op : BinOp} {t u : TypeId} {x y : Operand} (ho : o.op = .binOp op t x y u) {ρ : Operand → V} {k : V → Prop} (h : evBin D op t (ρ x) (ρ y) k) : ∃ v, k v ∧ PureOk P o ρ v := by
  unfold evBin at h
  split at h
  case h_1 a m b n hx hy => obtain ⟨rfl, h⟩ := h; exact ⟨_, h, bin_int ho hx hy (fun w => by simp [binOp, Op.intArith]) (fun G w => .int _ _)⟩
  case h_2 a m b n hx hy => obtain ⟨rfl, h⟩ := h; exact ⟨_, h, bin_int ho hx hy (fun w => by simp [binOp, Op.intArith]) (fun G w => .int _ _)⟩
  case h_3 a m b n hx hy => obtain ⟨rfl, h⟩ := h; exact ⟨_, h, bin_int ho hx hy (fun w => by simp [binOp, Op.intArith]) (fun G w => .int _ _)⟩
  case h_4 a m b n hx hy => obtain ⟨rfl, hn, h⟩ := h; exact ⟨_, h, bin_int ho hx hy (fun w => by simp [binOp, Op.intDiv, hn]) (fun G w => .int _ _)⟩
  case h_5 a m b n hx hy => obtain ⟨rfl, hn, h⟩ := h; exact ⟨_, h, bin_int ho hx hy (fun w => by simp [binOp, Op.intDiv, hn]) (fun G w => .int _ _)⟩
  case h_6 a m b n hx hy => obtain ⟨rfl, h⟩ := h; exact ⟨_, h, bin_int ho hx hy (fun w => by simp [binOp, Op.intBits, intBits]) (fun G w => .int _ _)⟩
  case h_7 a m b n hx hy => obtain ⟨rfl, h⟩ := h; exact ⟨_, h, bin_int ho hx hy (fun w => by simp [binOp, Op.intBits, intBits]) (fun G w => .int _ _)⟩
  case h_8 a m b n hx hy => obtain ⟨rfl, h⟩ := h; exact ⟨_, h, bin_int ho hx hy (fun w => by simp [binOp, Op.intBits, intBits]) (fun G w => .int _ _)⟩
  case h_9 a m b n hx hy => obtain ⟨rfl, h⟩ := h; exact ⟨_, h, bin_int ho hx hy (fun w => by simp [binOp, Op.intBits, intBits]) (fun G w => .int _ _)⟩
  case h_10 a m b n hx hy => obtain ⟨hn, h⟩ := h; have hn' : ¬ n < 0 := by omega
                             exact ⟨_, h, bin_int ho hx hy (fun w => by simp [binOp, Op.shift, hn']) (fun G w => .int _ _)⟩
  case h_11 a m b n hx hy => obtain ⟨hn, h⟩ := h; have hn' : ¬ n < 0 := by omega
                             exact ⟨_, h, bin_int ho hx hy (fun w => by simp [binOp, Op.shift, hn']) (fun G w => .int _ _)⟩
  case h_12 a m b n hx hy => obtain ⟨rfl, h⟩ := h; exact ⟨_, h, bin_int ho hx hy (c := .bool (decide (m = n))) (fun w => by simp [binOp, Op.intCmp, Bool.beq_eq_decide_eq]) (fun G w => .bool _)⟩
  case h_13 a m b n hx hy => obtain ⟨rfl, h⟩ := h; exact ⟨_, h, bin_int ho hx hy (c := .bool (!decide (m = n))) (fun w => by simp [binOp, Op.intCmp, bne, Bool.beq_eq_decide_eq]) (fun G w => .bool _)⟩
  case h_14 a m b n hx hy => obtain ⟨rfl, h⟩ := h; exact ⟨_, h, bin_int ho hx hy (fun w => by simp [binOp, Op.intCmp]) (fun G w => .bool _)⟩
  case h_15 a m b n hx hy => obtain ⟨rfl, h⟩ := h; exact ⟨_, h, bin_int ho hx hy (fun w => by simp [binOp, Op.intCmp]) (fun G w => .bool _)⟩
  case h_16 a m b n hx hy => obtain ⟨rfl, h⟩ := h; exact ⟨_, h, bin_int ho hx hy (fun w => by simp [binOp, Op.intCmp]) (fun G w => .bool _)⟩
  case h_17 a m b n hx hy => obtain ⟨rfl, h⟩ := h; exact ⟨_, h, bin_int ho hx hy (fun w => by simp [binOp, Op.intCmp]) (fun G w => .bool _)⟩
  case h_18 s u hx hy =>
    obtain ⟨hl, h⟩ := h
    refine ⟨_, h, bin_str ho hx hy (c := .string ⟨⟨s ++ u⟩⟩) (fun w => ?_) (fun G w => .str _)⟩
    have hle : ¬ (((⟨⟨s⟩⟩ : ByteArray).size + (⟨⟨u⟩⟩ : ByteArray).size : Nat) : Int) > IntKind.i64.max := by
      show ¬ ((s.length + u.length : Nat) : Int) > IntKind.i64.max
      have : IntKind.i64.max = 9223372036854775807 := by decide
      omega
    simp only [binOp, Op.stringOp]
    rw [if_neg hle]
    simp [ByteArray.mk_append_mk]
  case h_19 s u hx hy => exact ⟨_, h, bin_str ho hx hy (c := .bool (decide (s = u))) (fun w => by simp only [binOp, Op.stringOp, str_eq]; rfl) (fun G w => .bool _)⟩
  case h_20 s u hx hy => exact ⟨_, h, bin_str ho hx hy (c := .bool (!decide (s = u))) (fun w => by simp only [binOp, Op.stringOp, str_eq]; rfl) (fun G w => .bool _)⟩
  case h_21 a b hx hy => obtain ⟨hk, h⟩ := h; exact ⟨_, h, bin_bool ho hx hy (fun w => (run_eq_eql w t _ _ _ rfl (run_equalIn_bool' w 9999 t a b (ty_bool hD hk))).1) (fun G w => .bool _)⟩
  case h_22 a b hx hy => obtain ⟨hk, h⟩ := h; exact ⟨_, h, bin_bool ho hx hy (fun w => (run_eq_eql w t _ _ _ rfl (run_equalIn_bool' w 9999 t a b (ty_bool hD hk))).2) (fun G w => .bool _)⟩
  case h_23 b of hx hy =>
    obtain ⟨hk, h⟩ := h
    obtain ⟨e, he⟩ := ty_ptr hD hk
    refine ⟨_, h, fun G ev w hop => ?_⟩
    have h1 := hop x (by simp [ho, Op.operands])
    have h2 := hop y (by simp [ho, Op.operands])
    rw [hx] at h1
    rw [hy] at h2
    generalize hcx : ev x = cx at h1
    generalize hcy : ev y = cy at h2
    cases h1; cases h2
    exact ⟨.bool false, by simp [execOp, ho, hcx, hcy, eqGuard_plain, (run_eq_eql w t (.pointer (some _)) (.pointer none) false rfl (run_eq_ptr w 9999 he _)).1], .bool _⟩
  case h_24 b of hx hy =>
    obtain ⟨hk, h⟩ := h
    obtain ⟨e, he⟩ := ty_ptr hD hk
    refine ⟨_, h, fun G ev w hop => ?_⟩
    have h1 := hop x (by simp [ho, Op.operands])
    have h2 := hop y (by simp [ho, Op.operands])
    rw [hx] at h1
    rw [hy] at h2
    generalize hcx : ev x = cx at h1
    generalize hcy : ev y = cy at h2
    cases h1; cases h2
    exact ⟨.bool true, by simp [execOp, ho, hcx, hcy, eqGuard_plain, (run_eq_eql w t (.pointer (some _)) (.pointer none) false rfl (run_eq_ptr w 9999 he _)).2], .bool _⟩
  case h_25 hx hy =>
    obtain ⟨hk, h⟩ := h
    obtain ⟨e, he⟩ := ty_ptr hD hk
    refine ⟨_, h, fun G ev w hop => ?_⟩
    have h1 := hop x (by simp [ho, Op.operands])
    have h2 := hop y (by simp [ho, Op.operands])
    rw [hx] at h1
    rw [hy] at h2
    generalize hcx : ev x = cx at h1
    generalize hcy : ev y = cy at h2
    cases h1; cases h2
    exact ⟨.bool true, by simp [execOp, ho, hcx, hcy, eqGuard_plain, (run_eq_eql w t (.pointer none) (.pointer none) true rfl (run_eq_nil w 9999 he)).1], .bool _⟩
  case h_26 hx hy =>
    obtain ⟨hk, h⟩ := h
    obtain ⟨e, he⟩ := ty_ptr hD hk
    refine ⟨_, h, fun G ev w hop => ?_⟩
    have h1 := hop x (by simp [ho, Op.operands])
    have h2 := hop y (by simp [ho, Op.operands])
    rw [hx] at h1
    rw [hy] at h2
    generalize hcx : ev x = cx at h1
    generalize hcy : ev y = cy at h2
    cases h1; cases h2
    exact ⟨.bool false, by simp [execOp, ho, hcx, hcy, eqGuard_plain, (run_eq_eql w t (.pointer none) (.pointer none) true rfl (run_eq_nil w 9999 he)).2], .bool _⟩
  case h_27 xs ys hx hy => obtain ⟨r, hk, h1, _⟩ := ev_eqs hD ho hx hy h; exact ⟨_, hk, h1 rfl⟩
  case h_28 xs ys hx hy => obtain ⟨r, hk, _, h1⟩ := ev_eqs hD ho hx hy h; exact ⟨_, hk, h1 rfl⟩
  case h_29 => exact h.elim

end
end Go.Proofs.Ytblbaniokmgjgaa
