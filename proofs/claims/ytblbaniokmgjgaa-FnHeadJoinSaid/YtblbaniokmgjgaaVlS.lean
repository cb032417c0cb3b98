/- A table of types is held against the program by a reckoning. -/
import Derived.Test.YtblbaniokmgjgaaVlR
namespace Go.Proofs.Ytblbaniokmgjgaa
open Go
set_option linter.unusedVariables false
set_option linter.unusedSimpArgs false

def beq0 : V → V → Bool
  | .int a m, .int b n => a == b && m == n
  | .bool a, .bool b => a == b
  | .str a, .str b => a == b
  | .nils, .nils => true
  | .nilp, .nilp => true
  | .junk, .junk => true
  | _, _ => false

theorem beq0_eq {a b : V} (h : beq0 a b = true) : a = b := by
  cases a <;> cases b <;> simp [beq0] at h <;> simp_all

def beqs0 : List V → List V → Bool
  | [], [] => true
  | a :: as, b :: bs => beq0 a b && beqs0 as bs
  | _, _ => false

theorem beqs0_eq : ∀ {a b : List V}, beqs0 a b = true → a = b
  | [], [], _ => rfl
  | a :: as, b :: bs, h => by
    simp only [beqs0, Bool.and_eq_true] at h
    rw [beq0_eq h.1, beqs0_eq h.2]
  | [], _ :: _, h => by simp [beqs0] at h
  | _ :: _, [], h => by simp [beqs0] at h

def kindChk (P : Program) (t : TypeId) : TK → Bool
  | .none => true
  | .int q => match P.underlying t with | some (.int q') => q == q' | _ => false
  | .bool => match P.underlying t with | some .bool => true | _ => false
  | .str => match P.underlying t with | some .string => true | _ => false
  | .ptr => match P.underlying t with | some (.pointer _) => true | _ => false
  | .slc e => match P.underlying t with | some (.slice e') => e == e' | _ => false
  | .fn => match P.underlying t with | some (.func _ _ _) => true | _ => false
  | .strct fs => match P.underlying t with
    | some (.struct fields) => (fields.toList.map (fun f => (f.offset, f.type)) == fs.map (fun x => (x.1, x.2.2))) && (fs.all fun x => match P.info? x.2.2 with | some i => i.size == x.2.1 | none => false) &&
        (fields.toList.all fun f => f.name != "_") && !P.stoodInHeld t && !P.eqGuardType P.depth t
    | _ => false

def infoChk (P : Program) (t : TypeId) (d : TD) : Bool :=
  match P.info? t with
  | some i => match i.zero with
    | some z => i.size == d.size && i.bytes == d.bytes && beqs0 (z.cells.toList.map constC) d.zero && z.cells.toList.all Value.oneCell' && z.cells.size == d.size
    | none => false
  | none => false

def tyChk (P : Program) (t : TypeId) (d : TD) : Bool :=
  match d.k with
  | .none => true
  | k => infoChk P t d && kindChk P t k

theorem tyChk_ok {P : Program} {t : TypeId} {d : TD} (h : tyChk P t d = true) : TyOk P t d := by
  unfold TyOk
  by_cases hn : d.k = .none
  · exact .inl hn
  · refine .inr ?_
    have h2 : (infoChk P t d && kindChk P t d.k) = true := by
      unfold tyChk at h
      cases hk : d.k <;> first | exact absurd hk hn | (rw [hk] at h; exact h)
    rw [Bool.and_eq_true] at h2
    obtain ⟨hi, hk⟩ := h2
    refine ⟨?_, ?_⟩
    · unfold infoChk at hi
      split at hi
      · rename_i i hinf
        split at hi
        · rename_i z hz
          simp only [Bool.and_eq_true, beq_iff_eq] at hi
          obtain ⟨⟨⟨⟨a1, a2⟩, a3⟩, a4⟩, a5⟩ := hi
          exact ⟨i, z, hinf, a1, a2, hz, beqs0_eq a3, a4, a5⟩
        · cases hi
      · cases hi
    · generalize d.k = k at hk hn
      cases k with
      | none => trivial
      | int q =>
        simp only [kindChk] at hk
        split at hk
        · rename_i q' hu; rw [hu, (by simpa using hk : q = q')]
        · cases hk
      | bool =>
        simp only [kindChk] at hk
        split at hk
        · rename_i hu; exact hu
        · cases hk
      | str =>
        simp only [kindChk] at hk
        split at hk
        · rename_i hu; exact hu
        · cases hk
      | ptr =>
        simp only [kindChk] at hk
        split at hk
        · rename_i e hu; exact ⟨e, hu⟩
        · cases hk
      | slc e =>
        simp only [kindChk] at hk
        split at hk
        · rename_i e' hu; rw [hu, (by simpa using hk : e = e')]
        · cases hk
      | fn =>
        simp only [kindChk] at hk
        split at hk
        · rename_i a b c hu; exact ⟨a, b, c, hu⟩
        · cases hk
      | strct fs =>
        simp only [kindChk] at hk
        split at hk
        · rename_i fields hu
          simp only [Bool.and_eq_true, beq_iff_eq, Bool.not_eq_true'] at hk
          obtain ⟨⟨⟨⟨a1, a2⟩, a3⟩, a4⟩, a5⟩ := hk
          refine ⟨fields, hu, a1, fun x hx => ?_, fun f hf => by simpa using List.all_eq_true.1 a3 f hf, a4, a5⟩
          have h3 := List.all_eq_true.1 a2 x hx
          split at h3
          · rename_i i hi'; exact ⟨i, hi', by simpa using h3⟩
          · cases h3
        · cases hk

theorem typesOk_of {P : Program} (Dl : List TD) (D : Nat → TD) (hDl : ∀ t, D t = (Dl[t]?).getD ⟨.none, 0, 0, [], false⟩) (h : (List.range Dl.length).all (fun t => tyChk P t (D t)) = true) (hm : P.follows .mixedOrders = true) : TypesOk P D := by
  refine ⟨fun t => ?_, hm⟩
  rcases Nat.lt_or_ge t Dl.length with g | g
  · exact tyChk_ok (List.all_eq_true.1 h t (List.mem_range.2 g))
  · refine .inl ?_
    rw [hDl, List.getElem?_eq_none g]
    rfl

end Go.Proofs.Ytblbaniokmgjgaa
