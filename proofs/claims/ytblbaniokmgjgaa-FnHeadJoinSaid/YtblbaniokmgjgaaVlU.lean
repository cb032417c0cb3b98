/- The walk as one reckoning over the code; loops stay as they are. -/
import Derived.Test.YtblbaniokmgjgaaVlT
namespace Go.Proofs.Ytblbaniokmgjgaa
open Go
set_option linter.unusedVariables false
set_option linter.unusedSimpArgs false

def jsOk (pf : Option FuncId → Bool) (J : Nat → List Nat) : Code → Bool
  | .region id ops true => drawOk pf ops.toList (J id)
  | .seq a b => jsOk pf J a && jsOk pf J b
  | .cond _ a b => jsOk pf J a && jsOk pf J b
  | .block _ c => jsOk pf J c
  | _ => true

def evC (P : Program) (D : Nat → TD) (N : Nat) (pf : Option FuncId → Bool) (J : Nat → List Nat) : Code → (Exit → (Nat → V) → List Blk → Prop) → (Nat → V) → List Blk → Prop
  | .skip, k, t, S => k .normal t S
  | .ret, k, t, S => k .ret t S
  | .exit id, k, t, S => k (.exit id) t S
  | .region _ ops false, k, t, S => evOps P D ops.toList ops.toList t S (k .normal)
  | .region id ops true, k, t, S => evDraw P D pf ops.toList ops.toList 0 (J id) t S [] [] (k .normal)
  | .seq a b, k, t, S => evC P D N pf J a (thenK (evC P D N pf J b k) k) t S
  | .cond c a b, k, t, S => condK (evalT t c) (evC P D N pf J a k t S) (evC P D N pf J b k t S)
  | .block id c, k, t, S => evC P D N pf J c (blockK id k) t S
  | c, k, t, S => wpV P D N c k t S

section
variable {P : Program} {D : Nat → TD} {N : Nat} {pf : Option FuncId → Bool} {J : Nat → List Nat}

theorem thenK_mono {K K' : (Nat → V) → List Blk → Prop} {k : Exit → (Nat → V) → List Blk → Prop} (h : ∀ t S, K t S → K' t S) : ∀ e t S, thenK K k e t S → thenK K' k e t S := by
  intro e t S hk
  cases e <;> first | exact h _ _ hk | exact hk

theorem wpV_of_ev (hD : TypesOk P D) : ∀ (c : Code) {k : Exit → (Nat → V) → List Blk → Prop} {t : Nat → V} {S : List Blk}, jsOk pf J c = true → evC P D N pf J c k t S → wpV P D N c k t S := by
  intro c
  induction c with
  | skip => intro k t S _ h; exact wpV_skip (by simpa [evC] using h)
  | ret => intro k t S _ h; exact wpV_ret (by simpa [evC] using h)
  | exit id => intro k t S _ h; exact wpV_exit (by simpa [evC] using h)
  | region id ops d =>
    intro k t S hj h
    cases d with
    | false => exact wpV_region hD (by simpa [evC] using h)
    | true => exact wpV_draw hD pf (J id) (by simpa [jsOk] using hj) (by simpa [evC] using h)
  | seq a b iha ihb =>
    intro k t S hj h
    simp only [jsOk, Bool.and_eq_true] at hj
    simp only [evC] at h
    refine wpV_seq (wpV_mono (iha hj.1 h) ?_)
    exact thenK_mono (fun t S hh => ihb hj.2 hh)
  | cond c a b iha ihb =>
    intro k t S hj h
    simp only [jsOk, Bool.and_eq_true] at hj
    simp only [evC] at h
    refine wpV_cond ?_
    unfold condK at h ⊢
    split at h
    · rename_i x hx
      exact ⟨fun e => iha hj.1 (h.1 e), fun e => ihb hj.2 (h.2 e)⟩
    · exact h.elim
  | block id c ih =>
    intro k t S hj h
    exact wpV_block (ih (by simpa [jsOk] using hj) (by simpa [evC] using h))
  | _ => intro k t S _ h; exact (by simpa [evC] using h)

theorem wpV_of (hD : TypesOk P D) (pf : Option FuncId → Bool) (J : Nat → List Nat) {c : Code} {k : Exit → (Nat → V) → List Blk → Prop} {t : Nat → V} {S : List Blk} (hj : jsOk pf J c = true) (h : evC P D N pf J c k t S) : wpV P D N c k t S :=
  wpV_of_ev hD c hj h

def endK (D : Nat → TD) (rs : List ResultVar) (S : List Blk) (q : V → List Blk → Prop) (e : Exit) (t' : Nat → V) (S' : List Blk) : Prop :=
  (e = .normal ∨ e = .ret) ∧ evRes D rs t' S' fun vs => ∃ r S2, Wk S (oneOf vs) S' r S2 ∧ q r S2

theorem VCall.of_ev (hD : TypesOk P D) (pf : Option FuncId → Bool) (J : Nat → List Nat) {f : FuncId} {fn : Func} {c : Code} (hf : P.funcs[f]? = some fn) (hb : fn.body = some c) (hname : (fn.name == "runtime.NumGoroutine") = false) {n : Nat} (hn : fn.ntmps = n) (hok : codeOk n c = true) (hj : jsOk pf J c = true)
    {rs : List ResultVar} (hrs : fn.results.toList = rs) {args : List V} (hargs : args.length ≤ n) {S : List Blk} {q : V → List Blk → Prop}
    (h : evC P D n pf J c (endK D rs S q) (argT args) S) : VCall P f args S q :=
  .inl <| VCall.of_body hD hf hb hname hn hok hrs hargs (wpV_of_ev hD c hj h)

theorem VCall.mono {f : FuncId} {args : List V} {S : List Blk} {q k : V → List Blk → Prop} (h : VCall P f args S q) (hk : ∀ r S', q r S' → k r S') : VCall P f args S k := by
  rcases h with ⟨he, r, S', hq, hd⟩ | ⟨r, hq, hx⟩
  · exact .inl ⟨he, r, S', hk r S' hq, hd⟩
  · exact .inr ⟨r, hk r S hq, hx⟩

theorem VCall.to {f : FuncId} {args : List V} {S : List Blk} {x : V} {S1 : List Blk} {k : V → List Blk → Prop} (h : VCall P f args S fun r S' => r = x ∧ S' = S1) (hk : k x S1) : VCall P f args S k :=
  h.mono (by rintro _ _ ⟨rfl, rfl⟩; exact hk)

/-- The end of a body that made only what nothing needs. -/
theorem end_pure {D : Nat → TD} {S X : List Blk} {r : V} {q : V → List Blk → Prop} (hr : Cl S.length r) (hq : q r S) : ∃ r' S2, Wk S r (S ++ X) r' S2 ∧ q r' S2 := ⟨r, S, Wk.pure hr, hq⟩

section
variable {a a' : List Oper} {o o' : List Oper} {t t' : Nat → V} {S S' : List Blk} {k : (Nat → V) → List Blk → Prop}

@[congr] theorem evOps_congr (h1 : t = t') (h2 : S = S') : evOps P D a o t S k = evOps P D a o t' S' k := by rw [h1, h2]
@[congr] theorem evC_congr {c : Code} {k : Exit → (Nat → V) → List Blk → Prop} (h1 : t = t') (h2 : S = S') : evC P D N pf J c k t S = evC P D N pf J c k t' S' := by rw [h1, h2]
@[congr] theorem wpV_congr {c : Code} {k : Exit → (Nat → V) → List Blk → Prop} (h1 : t = t') (h2 : S = S') : wpV P D N c k t S = wpV P D N c k t' S' := by rw [h1, h2]
@[congr] theorem condK_congr {v v' : V} {p q : Prop} (h1 : v = v') : condK v p q = condK v' p q := by rw [h1]
@[congr] theorem VCall_congr {f : FuncId} {args args' : List V} {q : V → List Blk → Prop} (h1 : args = args') (h2 : S = S') : VCall P f args S q = VCall P f args' S' q := by rw [h1, h2]
@[congr] theorem evOp_congr {x : Op} {ρ : Operand → V} {q : V → List Blk → Prop} (h2 : S = S') : evOp P D x ρ S q = evOp P D x ρ S' q := by rw [h2]
@[congr] theorem evDrawOp_congr {x : Op} {ρ : Operand → V} {j n : Nat} {h : List (List Blk)} {p : List (Nat × Nat)} {q : V → List Blk → List (List Blk) → List (Nat × Nat) → Prop} (h2 : S = S') : evDrawOp P D pf x ρ j n S h p q = evDrawOp P D pf x ρ j n S' h p q := by rw [h2]
@[congr] theorem evDraw_congr {j : Nat} {js : List Nat} {h : List (List Blk)} {p : List (Nat × Nat)} (h1 : t = t') (h2 : S = S') : evDraw P D pf a o j js t S h p k = evDraw P D pf a o j js t' S' h p k := by rw [h1, h2]
@[congr] theorem evRes_congr {rs : List ResultVar} {q : List V → Prop} (h1 : t = t') (h2 : S = S') : evRes D rs t S q = evRes D rs t' S' q := by rw [h1, h2]

theorem condK_t (p q : Prop) : condK (.bool true) p q = p := by simp [condK]
theorem condK_f (p q : Prop) : condK (.bool false) p q = q := by simp [condK]
theorem condK_b (b : Bool) (p q : Prop) : condK (.bool b) p q = ((b = true → p) ∧ (b = false → q)) := rfl

section
variable {v v' x x' y y' : V} {vs vs' ws ws' : List V} {q : V → Prop} {q2 : V → List Blk → Prop} {S S' : List Blk} {t u n m : Nat} {z : Int}
@[congr] theorem evBin_congr {o : BinOp} (h1 : x = x') (h2 : y = y') : evBin D o t x y q = evBin D o t x' y' q := by rw [h1, h2]
@[congr] theorem evUn_congr {o : UnOp} (h1 : x = x') : evUn o x q = evUn o x' q := by rw [h1]
@[congr] theorem evConv_congr (h1 : x = x') : evConv D t u x q = evConv D t u x' q := by rw [h1]
@[congr] theorem evPart_congr (h1 : vs = vs') (h2 : n = m) : evPart D t vs n q = evPart D t vs' m q := by rw [h1, h2]
@[congr] theorem evLoad_congr (h1 : x = x') (h2 : S = S') : evLoad D t x S q = evLoad D t x' S' q := by rw [h1, h2]
@[congr] theorem evStore_congr {q : List Blk → Prop} (h1 : x = x') (h2 : y = y') (h3 : S = S') : evStore D t x y S q = evStore D t x' y' S' q := by rw [h1, h2, h3]
@[congr] theorem evFill_congr {fs : List (Nat × Nat × TypeId)} {ps ps' : List (Nat × V)} {q : List V → Prop} (h1 : ps = ps') (h2 : vs = vs') : evFill fs ps vs q = evFill fs ps' vs' q := by rw [h1, h2]
@[congr] theorem evBuild_congr {ps ps' : List (Nat × V)} (h1 : ps = ps') : evBuild D t ps q = evBuild D t ps' q := by rw [h1]
@[congr] theorem evBuildSlice_congr {ps ps' : List (Nat × V)} (h1 : ps = ps') (h2 : S = S') : evBuildSlice D t n ps S q2 = evBuildSlice D t n ps' S' q2 := by rw [h1, h2]
@[congr] theorem evFrozen_congr {ps ps' : List (Nat × V)} (h1 : ps = ps') : evFrozen D t n ps q = evFrozen D t n ps' q := by rw [h1]
@[congr] theorem evIndexAddr_congr (h1 : x = x') (h2 : y = y') : evIndexAddr D t x y q = evIndexAddr D t x' y' q := by rw [h1, h2]
@[congr] theorem evIndex_congr (h1 : x = x') (h2 : y = y') : evIndex D t x y q = evIndex D t x' y' q := by rw [h1, h2]
@[congr] theorem evEnd_congr {o o' : Option V} {q : Int → Prop} (h1 : o = o') (h2 : n = m) : evEnd o n q = evEnd o' m q := by rw [h1, h2]
@[congr] theorem evSlice_congr {o o' p p' : Option V} (h1 : x = x') (h2 : o = o') (h3 : p = p') : evSlice D t x o p q = evSlice D t x' o' p' q := by rw [h1, h2, h3]
@[congr] theorem evFieldAddr_congr (h1 : x = x') : evFieldAddr D t x n q = evFieldAddr D t x' n q := by rw [h1]
@[congr] theorem evField_congr (h1 : x = x') : evField D t x n q = evField D t x' n q := by rw [h1]
@[congr] theorem evExtract_congr (h1 : x = x') : evExtract x n q = evExtract x' n q := by rw [h1]
@[congr] theorem evLen_congr (h1 : x = x') : evLen D t x q = evLen D t x' q := by rw [h1]
@[congr] theorem srcCells_congr {q : Nat → List V → Prop} (h1 : x = x') (h2 : S = S') (h3 : n = m) : srcCells x n S q = srcCells x' m S' q := by rw [h1, h2, h3]
@[congr] theorem srcRows_congr {q : List V → Prop} (h1 : x = x') : srcRows D t x q = srcRows D t x' q := by rw [h1]
@[congr] theorem evAppend_congr (h1 : x = x') (h2 : y = y') (h3 : S = S') : evAppend D t u x y S q2 = evAppend D t u x' y' S' q2 := by rw [h1, h2, h3]
@[congr] theorem evMin_congr (h1 : x = x') (h2 : y = y') : evMin x y q = evMin x' y' q := by rw [h1, h2]
@[congr] theorem evMax_congr (h1 : x = x') (h2 : y = y') : evMax x y q = evMax x' y' q := by rw [h1, h2]
@[congr] theorem evFn_congr (h1 : x = x') (h2 : vs = vs') (h3 : S = S') : evFn P x vs S q2 = evFn P x' vs' S' q2 := by rw [h1, h2, h3]
@[congr] theorem evPure_congr (h1 : x = x') (h2 : vs = vs') : evPure P x vs q = evPure P x' vs' q := by rw [h1, h2]
@[congr] theorem PCall_congr {f : FuncId} (h2 : vs = vs') : PCall P f vs q = PCall P f vs' q := by rw [h2]
@[congr] theorem evBuiltin_congr {b : Builtin} {ts : List TypeId} (h2 : vs = vs') (h3 : S = S') : evBuiltin D b ts vs S q2 = evBuiltin D b ts vs' S' q2 := by rw [h2, h3]
@[congr] theorem evMakeFunc_congr {f : Fn} (h1 : vs = vs') (h2 : ws = ws') : evMakeFunc f vs ws q = evMakeFunc f vs' ws' q := by rw [h1, h2]
@[congr] theorem evNil_congr (h1 : x = x') : evNil x q = evNil x' q := by rw [h1]
@[congr] theorem evMakeSlice_congr (h1 : x = x') (h2 : y = y') (h3 : S = S') : evMakeSlice D t x y S q2 = evMakeSlice D t x' y' S' q2 := by rw [h1, h2, h3]
@[congr] theorem evEqS_congr {q : Bool → Prop} (h1 : vs = vs') (h2 : ws = ws') : evEqS D t vs ws q = evEqS D t vs' ws' q := by rw [h1, h2]
end
end
end

section
variable {P : Program} {D : Nat → TD} {N : Nat} {pf : Option FuncId → Bool} {J : Nat → List Nat} (k : Exit → (Nat → V) → List Blk → Prop) (t : Nat → V) (S S0 : List Blk) (id : Nat) (ops : Array Oper) (a b : Code) (c : Operand) (rs : List ResultVar) (q : V → List Blk → Prop)
@[push_cast] theorem evC_skip : evC P D N pf J .skip k t S = k .normal t S := rfl
@[push_cast] theorem evC_ret : evC P D N pf J .ret k t S = k .ret t S := rfl
@[push_cast] theorem evC_exit : evC P D N pf J (.exit id) k t S = k (.exit id) t S := rfl
@[push_cast] theorem evC_region : evC P D N pf J (.region id ops false) k t S = evOps P D ops.toList ops.toList t S (k .normal) := rfl
@[push_cast] theorem evC_draw : evC P D N pf J (.region id ops true) k t S = evDraw P D pf ops.toList ops.toList 0 (J id) t S [] [] (k .normal) := rfl
@[push_cast] theorem evC_seq : evC P D N pf J (.seq a b) k t S = evC P D N pf J a (thenK (evC P D N pf J b k) k) t S := rfl
@[push_cast] theorem evC_cond : evC P D N pf J (.cond c a b) k t S = condK (evalT t c) (evC P D N pf J a k t S) (evC P D N pf J b k t S) := rfl
@[push_cast] theorem evC_block : evC P D N pf J (.block id a) k t S = evC P D N pf J a (blockK id k) t S := rfl
@[push_cast] theorem evC_loop : evC P D N pf J (.loop a) k t S = wpV P D N (.loop a) k t S := rfl
@[push_cast] theorem endK_n : endK D rs S0 q .normal t S = evRes D rs t S fun vs => ∃ r S2, Wk S0 (oneOf vs) S r S2 ∧ q r S2 := by simp [endK]
@[push_cast] theorem endK_r : endK D rs S0 q .ret t S = evRes D rs t S fun vs => ∃ r S2, Wk S0 (oneOf vs) S r S2 ∧ q r S2 := by simp [endK]
end
attribute [push_cast low] condK_b
attribute [push_cast] List.toList_toArray true_or or_true false_or or_false

end Go.Proofs.Ytblbaniokmgjgaa
