/- One operation, whatever it is; a region's operations in their order; calls; what a call may forget at its end. -/
import Derived.Test.YtblbaniokmgjgaaVlL
namespace Go.Proofs.Ytblbaniokmgjgaa
open Go
set_option linter.unusedVariables false
set_option linter.unusedSimpArgs false

def OpStep (P : Program) (o : Oper) (ρ : Operand → V) (S : List Blk) (v : V) (S' : List Blk) : Prop :=
  ∀ (G : Gh) (a : Act) (w : World) (K : Act → World → Prop) (Q : Exit → Act → World → Prop), (∀ x ∈ o.op.operands, VR G w (ρ x) (a.eval x)) → Rel G w S →
    (∀ c G' w', VR G' w' v c → Rel G' w' S' → Evol G w S G' w' S' → K (a.put o.dst c) w') → o.wp P a w K Q

section
variable {P : Program} {D : Nat → TD}

theorem RunOk.step {o : Oper} {ρ : Operand → V} {S : List Blk} {v : V} {S' : List Blk} (h : RunOk P o ρ S v S') : OpStep P o ρ S v S' := by
  intro G a w K Q hop hR hK
  obtain ⟨c, w', G', hr, hv, hR', hE⟩ := h G a.eval w hop hR
  unfold Oper.wp
  rcases hr with hr | ⟨hr, rfl⟩
  · rw [hr]; exact hK c G' w' hv hR' hE
  · rw [hr]; exact hK undef G' w' hv hR' hE

theorem eraseArgs_ok {G : Gh} {w : World} {l : List V} {vs : List Value} (h : AllR G w l vs) : AllR G w (eraseArgs l) vs := by
  unfold eraseArgs
  split
  · exact h
  · refine ⟨by simpa using h.1, fun i v u hv hu => ?_⟩
    rw [List.getElem?_map] at hv
    cases hq : l[i]? with
    | none => rw [hq] at hv; cases hv
    | some v' => rw [hq] at hv; cases hv; exact erase1_ok (h.2 i v' u hq hu)

theorem call_args {o : Oper} {c : Call} {f : Operand} (ho : o.op = .call c) (hc : c.callee = .value f) {ρ : Operand → V} {g : FuncId} {cap : List V} (hf : ρ f = .fn g cap) {G : Gh} {a : Act} {w : World} (hop : ∀ x ∈ o.op.operands, VR G w (ρ x) (a.eval x)) :
    ∃ cc, a.eval f = .func (.func g) #[] cc ∧ AllR G w (eraseArgs (c.args.toList.map ρ ++ cap)) ((c.args.map a.eval) ++ cc).toList := by
  have h1 := hop f (by simp [ho, Op.operands, Call.operands, hc])
  have hargs : ∀ x ∈ c.args, VR G w (ρ x) (a.eval x) := fun x hx => hop x (by simp [ho, Op.operands, Call.operands, hc]; exact .inr hx)
  rw [hf] at h1
  generalize hcf : a.eval f = cf at h1
  cases h1 with
  | @fn _ _ cc hl hr =>
    refine ⟨cc, rfl, eraseArgs_ok ⟨by simp [hl], ?_⟩⟩
    intro i v u hv hu
    cases hq : (c.args.toList.map ρ ++ cap)[i]? with
    | none => rw [hq] at hv; cases hv
    | some v' =>
      rw [hq] at hv
      cases hv
      rw [Array.toList_append, Array.toList_map] at hu
      rcases Nat.lt_or_ge i c.args.toList.length with g' | g'
      · rw [List.getElem?_append_left (by simpa using g')] at hq
        rw [List.getElem?_append_left (by simpa using g')] at hu
        simp only [List.getElem?_map] at hq hu
        cases hx : c.args.toList[i]? with
        | none => rw [hx] at hq; cases hq
        | some x =>
          rw [hx] at hq hu
          cases hq; cases hu
          exact hargs x (by simpa using List.mem_of_getElem? hx)
      · rw [List.getElem?_append_right (by simpa using g')] at hq
        rw [List.getElem?_append_right (by simpa using g')] at hu
        simp only [List.length_map] at hq hu
        exact hr _ v u hq (by simpa using hu)

theorem ev_call {o : Oper} {c : Call} {f : Operand} (ho : o.op = .call c) (hc : c.callee = .value f) {ρ : Operand → V} {S : List Blk} {k : V → List Blk → Prop} (h : evFn P (ρ f) (c.args.toList.map ρ) S k) : ∃ v S', k v S' ∧ OpStep P o ρ S v S' := by
  unfold evFn at h
  split at h
  · rename_i g cap hf
    rcases h with ⟨⟨fn, hfn, hbody, hname⟩, r, S', hk, hcall⟩ | ⟨r, hk, hx⟩
    · refine ⟨r, S', hk, fun G a w K Q hop hR hK => ?_⟩
      obtain ⟨cc, hcf, hall⟩ := call_args ho hc hf hop
      have hcalls := hcall G w _ hall hR
      unfold Oper.wp
      have hrun : (execOp a.eval o).run P w = .ok (.enter g ((c.args.map a.eval) ++ cc)) w := by
        simp [execOp, ho, resolve, hc, hcf, Deferred.ofValue, invoke, callFunc, hfn, hbody, hname]
        have hne : ¬ fn.name = "runtime.NumGoroutine" := by simpa using hname
        simp [hne]
        intro hbn
        rw [hbn] at hbody; cases hbody
      rw [hrun]
      refine Calls.mono hcalls ?_
      rintro e w' ⟨c', G', rfl, hv, hR', hE⟩
      exact hK c' G' w' hv hR' hE
    · refine ⟨r, S, hk, fun G a w K Q hop hR hK => ?_⟩
      obtain ⟨cc, hcf, hall⟩ := call_args ho hc hf hop
      obtain ⟨u, hrun0, hv⟩ := hx G w _ hall
      unfold Oper.wp
      have hrun : (execOp a.eval o).run P w = .ok (.value u) w := by
        simp only [execOp, ho, resolve, hc, hcf, Deferred.ofValue, invoke, Sem.run_bind, Sem.run_pure, Result.andThen_ok]
        simpa using hrun0
      rw [hrun]
      exact hK u G w hv hR (Evol.refl _ _ _)
  · exact h.elim

theorem ev_builtin (hD : TypesOk P D) {o : Oper} {c : Call} {b : Builtin} (ho : o.op = .call c) (hc : c.callee = .builtin b) {ρ : Operand → V} {S : List Blk} {k : V → List Blk → Prop} (h : evBuiltin D b c.argTypes.toList (c.args.toList.map ρ) S k) :
    ∃ v S', k v S' ∧ RunOk P o ρ S v S' := by
  have arr : ∀ {α : Type} (a : Array α) (l : List α), a.toList = l → a = l.toArray := fun a l h => by rw [← h]
  unfold evBuiltin at h
  split at h
  · rename_i t ts x hts hxs
    obtain ⟨y, hy, rfl⟩ : ∃ y, c.args = #[y] ∧ ρ y = x := by
      cases hq : c.args.toList with
      | nil => rw [hq] at hxs; cases hxs
      | cons y l => rw [hq] at hxs; simp at hxs; obtain ⟨rfl, rfl⟩ := hxs; exact ⟨y, arr _ _ hq, rfl⟩
    obtain ⟨v, hk, hv⟩ := ev_len hD ho hc ⟨ts, hts⟩ hy h
    exact ⟨v, S, hk, hv.run S⟩
  · rename_i t u s x hts hxs
    obtain ⟨y, z, hy, rfl, rfl⟩ : ∃ y z, c.args = #[y, z] ∧ ρ y = s ∧ ρ z = x := by
      cases hq : c.args.toList with
      | nil => rw [hq] at hxs; cases hxs
      | cons y l =>
        rw [hq] at hxs
        cases l with
        | nil => simp at hxs
        | cons z l => simp at hxs; obtain ⟨rfl, rfl, rfl⟩ := hxs; exact ⟨y, z, arr _ _ hq, rfl, rfl⟩
    exact ev_append hD ho hc (arr _ _ hts) hy h
  · rename_i x y hxs
    obtain ⟨p, q, hy, rfl, rfl⟩ : ∃ p q, c.args = #[p, q] ∧ ρ p = x ∧ ρ q = y := by
      cases hq : c.args.toList with
      | nil => rw [hq] at hxs; cases hxs
      | cons y l =>
        rw [hq] at hxs
        cases l with
        | nil => simp at hxs
        | cons z l => simp at hxs; obtain ⟨rfl, rfl, rfl⟩ := hxs; exact ⟨y, z, arr _ _ hq, rfl, rfl⟩
    obtain ⟨v, hk, hv⟩ := ev_min ho hc hy h
    exact ⟨v, S, hk, hv.run S⟩
  · rename_i x y z hxs
    obtain ⟨p, q, r, hy, rfl, rfl, rfl⟩ : ∃ p q r, c.args = #[p, q, r] ∧ ρ p = x ∧ ρ q = y ∧ ρ r = z := by
      cases hq : c.args.toList with
      | nil => rw [hq] at hxs; cases hxs
      | cons y l =>
        rw [hq] at hxs
        cases l with
        | nil => simp at hxs
        | cons z l =>
          cases l with
          | nil => simp at hxs
          | cons u l => simp at hxs; obtain ⟨rfl, rfl, rfl, rfl⟩ := hxs; exact ⟨y, z, u, arr _ _ hq, rfl, rfl, rfl⟩
    obtain ⟨v, hk, hv⟩ := ev_min3 ho hc hy h
    exact ⟨v, S, hk, hv.run S⟩
  · rename_i x y hxs
    obtain ⟨p, q, hy, rfl, rfl⟩ : ∃ p q, c.args = #[p, q] ∧ ρ p = x ∧ ρ q = y := by
      cases hq : c.args.toList with
      | nil => rw [hq] at hxs; cases hxs
      | cons y l =>
        rw [hq] at hxs
        cases l with
        | nil => simp at hxs
        | cons z l => simp at hxs; obtain ⟨rfl, rfl, rfl⟩ := hxs; exact ⟨y, z, arr _ _ hq, rfl, rfl⟩
    obtain ⟨v, hk, hv⟩ := ev_max ho hc hy h
    exact ⟨v, S, hk, hv.run S⟩
  · exact h.elim

theorem ev_op (hD : TypesOk P D) (o : Oper) {ρ : Operand → V} {S : List Blk} {k : V → List Blk → Prop} (h : evOp P D o.op ρ S k) : ∃ v S', k v S' ∧ OpStep P o ρ S v S' := by
  have pure_ : ∀ {q : V → Prop}, (∃ v, q v ∧ PureOk P o ρ v) → (∀ v, q v → k v S) → ∃ v S', k v S' ∧ OpStep P o ρ S v S' := by
    rintro q ⟨v, hq, hv⟩ hk
    exact ⟨v, S, hk v hq, (hv.run S).step⟩
  have run_ : (∃ v S', k v S' ∧ RunOk P o ρ S v S') → ∃ v S', k v S' ∧ OpStep P o ρ S v S' := by
    rintro ⟨v, S', hk, hv⟩
    exact ⟨v, S', hk, hv.step⟩
  unfold evOp at h
  split at h
  · rename_i x ho; exact ⟨_, S, h, ((ev_move (.inl ho) ρ).run S).step⟩
  · rename_i x ho; exact ⟨_, S, h, ((ev_move (.inr ho) ρ).run S).step⟩
  · rename_i c a b ho
    split at h
    · rename_i t hc
      refine ⟨_, S, ?_, ((ev_pick ho ρ t hc).run S).step⟩
      cases t
      · exact h.2 rfl
      · exact h.1 rfl
    · exact h.elim
  · rename_i t ho; exact ⟨_, _, h.2.2, (ev_alloc hD ho ρ S h.1).step⟩
  · rename_i t x ho; exact ⟨_, _, h.2, (ev_box ho ρ S h.1).step⟩
  · rename_i t parts ho; exact pure_ (ev_build hD ho h) (fun _ hq => hq)
  · rename_i t len parts ho; exact run_ (ev_buildSlice hD ho h)
  · rename_i t a ho
    obtain ⟨v, hk, hv⟩ := ev_load hD ho h
    exact ⟨v, S, hk, hv.step⟩
  · rename_i t a x ho
    obtain ⟨S', hk, hv⟩ := ev_store hD ho h
    exact ⟨_, S', hk, hv.step⟩
  · rename_i x ho; exact pure_ (ev_nil ho h) (fun _ hq => hq)
  · rename_i op t x y u ho; exact pure_ (ev_bin hD ho h) (fun _ hq => hq)
  · rename_i op t x ho; exact pure_ (ev_un ho h) (fun _ hq => hq)
  · rename_i src dst x ho; exact pure_ (ev_conv hD ho h) (fun _ hq => hq)
  · rename_i fn first captured ho; exact pure_ (ev_makeFunc ho h) (fun _ hq => hq)
  · rename_i t l c ho; exact run_ (ev_makeSlice hD ho h)
  · rename_i t x lo hi ho; exact pure_ (ev_slice hD ho h) (fun _ hq => hq)
  · rename_i t x f ho; exact pure_ (ev_fieldAddr hD ho h) (fun _ hq => hq)
  · rename_i t x f ho; exact pure_ (ev_field hD ho h) (fun _ hq => hq)
  · rename_i t x i ho; exact pure_ (ev_indexAddr hD ho h) (fun _ hq => hq)
  · rename_i t x i ho; exact pure_ (ev_index hD ho h) (fun _ hq => hq)
  · rename_i x i ho; exact pure_ (ev_extract ho h) (fun _ hq => hq)
  · rename_i c ho
    split at h
    · rename_i f hc; exact ev_call ho hc h
    · rename_i b hc; exact run_ (ev_builtin hD ho hc h)
    · exact h.elim
  · exact h.elim

/-- The frame. -/
structure ActR (N : Nat) (G : Gh) (w : World) (t : Nat → V) (a : Act) : Prop where
  size : a.tmps.size = N
  defers : a.defers = []
  rel : ∀ i, VR G w (t i) (a.tmps.getD i undef)

theorem ActR.ext {N : Nat} {G G' : Gh} {w w' : World} {t : Nat → V} {a : Act} (h : ActR N G w t a) (he : Ext G w G' w') : ActR N G' w' t a := ⟨h.size, h.defers, fun i => (h.rel i).ext he⟩

theorem ActR.put {N : Nat} {G : Gh} {w : World} {t : Nat → V} {a : Act} (h : ActR N G w t a) {d : Option Nat} (hd : ∀ x, d = some x → x < N) {v : V} {c : Value} (hv : VR G w v c) : ActR N G w (putT t d v) (a.put d c) := by
  cases d with
  | none => exact h
  | some d =>
    have hlt := hd d rfl
    have hs := h.size
    refine ⟨by simp [Act.put, hs], h.defers, fun i => ?_⟩
    by_cases e : i = d
    · subst e
      simp only [putT, if_true, Act.put]
      rw [Array.getD_eq_getD_getElem?, Array.getElem?_setIfInBounds]
      simp [hs, hlt]
      exact hv
    · simp only [putT, e, if_false, Act.put]
      rw [Array.getD_eq_getD_getElem?, Array.getElem?_setIfInBounds, if_neg (fun h => e h.symm), ← Array.getD_eq_getD_getElem?]
      exact h.rel i

theorem evalT_ok {N : Nat} {G : Gh} {w : World} {t : Nat → V} {a : Act} (h : ActR N G w t a) (x : Operand) : VR G w (evalT t x) (a.eval x) := by
  cases x with
  | tmp i => exact h.rel i
  | const v => exact constV_ok G w v
  | global g => exact .junk _
  | func f => exact .fn (by simp) (by simp)

/-- Slots are there. -/
def opsOk (N : Nat) (ops : List Oper) : Bool := ops.all fun o => match o.dst with | some d => decide (d < N) | none => true

theorem opsOk_dst {N : Nat} {ops : List Oper} (h : opsOk N ops = true) {o : Oper} (ho : o ∈ ops) : ∀ x : Nat, o.dst = some x → x < N := by
  intro x hx
  have := List.all_eq_true.1 h o ho
  rw [hx] at this
  simpa using this

theorem yielded_ok {N : Nat} {G : Gh} {w : World} {t : Nat → V} {a : Act} (h : ActR N G w t a) {full : Array Oper} {j d : Nat} {b : Bool} (hd : dstAt full.toList j = some d) (hb : t d = .bool b) (hlt : d < N) : yielded full a.tmps j = some b := by
  have h1 : (full[j]?).bind (·.dst) = some d := by simpa [dstAt] using hd
  have h2 := h.rel d
  rw [hb] at h2
  have hs := h.size
  rw [Array.getD_eq_getD_getElem?, Array.getElem?_eq_getElem (by omega)] at h2
  simp only [Option.getD_some] at h2
  unfold yielded
  rw [h1]
  simp only [Option.bind_some]
  rw [Array.getElem?_eq_getElem (by omega)]
  generalize a.tmps[d] = c at h2
  cases h2
  rfl

theorem putT_bool {G : Gh} {w : World} {N : Nat} {t : Nat → V} {a : Act} (h : ActR N G w t a) {d : Nat} {b : Bool} (hb : t d = .bool b) : ActR N G w (putT t (some d) (.bool b)) a := by
  refine ⟨h.size, h.defers, fun i => ?_⟩
  by_cases e : i = d
  · subst e; simp only [putT, if_true]; rw [← hb]; exact h.rel i
  · simp only [putT, e, if_false]; exact h.rel i

theorem ev_ops (hD : TypesOk P D) {N : Nat} (full : Array Oper) (hN : opsOk N full.toList = true) : ∀ (os : List Oper) (n : Nat), (∀ j, os[j]? = full[n + j]?) → ∀ (t : Nat → V) (S : List Blk) (k : (Nat → V) → List Blk → Prop), evOps P D full.toList os t S k →
    ∃ t' S', k t' S' ∧ ∀ (G : Gh) (a : Act) (w : World) (Q : Exit → Act → World → Prop), ActR N G w t a → Rel G w S → (∀ a' w' G', ActR N G' w' t' a' → Rel G' w' S' → Evol G w S G' w' S' → Q .normal a' w') →
      wpOps P full Q (List.range' n os.length) a w
  | [], n, _, t, S, k, h => ⟨t, S, h, fun G a w Q ha hR hQ => hQ a w G ha hR (Evol.refl _ _ _)⟩
  | o :: os, n, hfull, t, S, k, h => by
    have ho : full[n]? = some o := by have := hfull 0; simpa using this.symm
    have hmem : o ∈ full.toList := by simpa using Array.mem_of_getElem? ho
    have hdst := opsOk_dst hN hmem
    have hrest : ∀ j, os[j]? = full[n + 1 + j]? := fun j => by have := hfull (j + 1); simpa [Nat.add_assoc, Nat.add_comm 1 j] using this
    -- where it is carried out
    have wantedCase : ∀ (t1 : Nat → V), evOp P D o.op (evalT t1) S (fun v S' => evOps P D full.toList os (putT t1 o.dst v) S' k) →
        ∃ t' S', k t' S' ∧ ∀ (G : Gh) (a : Act) (w : World) (Q : Exit → Act → World → Prop), Region.wanted o (yielded full a.tmps) = true → ActR N G w t1 a → Rel G w S →
          (∀ a' w' G', ActR N G' w' t' a' → Rel G' w' S' → Evol G w S G' w' S' → Q .normal a' w') → wpOps P full Q (List.range' n (o :: os).length) a w := by
      intro t1 h1
      obtain ⟨v, S1, hk, hstep⟩ := ev_op hD o h1
      obtain ⟨t', S', hk', ih⟩ := ev_ops hD full hN os (n + 1) hrest _ _ k hk
      refine ⟨t', S', hk', fun G a w Q hw ha hR hQ => ?_⟩
      simp only [List.length_cons, List.range'_succ, wpOps, ho, hw, if_true]
      refine .inl (hstep G a w _ Q (fun x _ => evalT_ok ha x) hR (fun c G' w' hv hR' hE => ?_))
      refine ih G' (a.put o.dst c) w' Q ((ha.ext hE.ext).put hdst hv) hR' (fun a2 w2 G2 ha2 hR2 hE2 => ?_)
      exact hQ a2 w2 G2 ha2 hR2 (hE.trans hE2)
    -- where it is passed by
    have skipCase : ∀ (t1 : Nat → V), evOps P D full.toList os (putT t1 o.dst .junk) S k →
        ∃ t' S', k t' S' ∧ ∀ (G : Gh) (a : Act) (w : World) (Q : Exit → Act → World → Prop), Region.wanted o (yielded full a.tmps) = false → ActR N G w t1 a → Rel G w S →
          (∀ a' w' G', ActR N G' w' t' a' → Rel G' w' S' → Evol G w S G' w' S' → Q .normal a' w') → wpOps P full Q (List.range' n (o :: os).length) a w := by
      intro t1 h1
      obtain ⟨t', S', hk', ih⟩ := ev_ops hD full hN os (n + 1) hrest _ _ k h1
      refine ⟨t', S', hk', fun G a w Q hw ha hR hQ => ?_⟩
      simp only [List.length_cons, List.range'_succ, wpOps, ho, hw, Bool.false_eq_true, if_false]
      exact ih G (a.put o.dst undef) w Q (ha.put hdst (.junk _)) hR hQ
    simp only [evOps] at h
    split at h
    · rename_i hg
      obtain ⟨t', S', hk', ih⟩ := wantedCase t h
      exact ⟨t', S', hk', fun G a w Q ha hR hQ => ih G a w Q (by simp [Region.wanted, hg]) ha hR hQ⟩
    · rename_i j want hg
      split at h
      · rename_i d hd
        split at h
        · rename_i b hb
          have hlt : d < N := by
            have h1 : (full.toList[j]?).bind (·.dst) = some d := hd
            cases hq : full.toList[j]? with
            | none => rw [hq] at h1; cases h1
            | some oj => rw [hq] at h1; exact opsOk_dst hN (List.mem_of_getElem? hq) d h1
          by_cases hbw : b = want
          · obtain ⟨t', S', hk', ih⟩ := wantedCase _ (h.1 hbw)
            refine ⟨t', S', hk', fun G a w Q ha hR hQ => ih G a w Q ?_ (putT_bool ha (by rw [hb, hbw])) hR hQ⟩
            simp [Region.wanted, hg, yielded_ok ha hd hb hlt, hbw]
          · have hbn : b = !want := by cases b <;> cases want <;> simp_all
            obtain ⟨t', S', hk', ih⟩ := skipCase _ (h.2 hbn)
            refine ⟨t', S', hk', fun G a w Q ha hR hQ => ih G a w Q ?_ (putT_bool ha (by rw [hb, hbn])) hR hQ⟩
            simp [Region.wanted, hg, yielded_ok ha hd hb hlt, hbn]
        · exact h.elim
      · exact h.elim

end
end Go.Proofs.Ytblbaniokmgjgaa
