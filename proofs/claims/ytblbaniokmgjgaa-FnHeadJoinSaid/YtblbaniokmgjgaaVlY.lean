/- The ends of bodies, and words for closed values. -/
import Derived.Test.YtblbaniokmgjgaaVlX
namespace Go.Proofs.Ytblbaniokmgjgaa
open Go
set_option linter.unusedVariables false
set_option linter.unusedSimpArgs false

section
variable {S X : List Blk} {v x : V} {n : Nat}

theorem fin0 (h : v = x) : ∃ r S2, Wk S v S r S2 ∧ r = x ∧ S2 = S := ⟨v, S, Wk.refl _ _ _, h, rfl⟩
theorem fin1 (hc : Cl S.length v) (h : v = x) : ∃ r S2, Wk S v (S ++ X) r S2 ∧ r = x ∧ S2 = S := ⟨v, S, Wk.pure hc, h, rfl⟩
theorem finE (hc : Cl S.length (eraseT v)) (h : eraseT v = x) : ∃ r S2, Wk S v (S ++ X) r S2 ∧ r = x ∧ S2 = S := ⟨_, S, (Wk.eraseT _ _ _).trans (Wk.pure hc), h, rfl⟩
theorem finE0 (h : eraseT v = x) : ∃ r S2, Wk S v S r S2 ∧ r = x ∧ S2 = S := ⟨_, S, Wk.eraseT _ _ _, h, rfl⟩

@[push_cast] theorem cl_int (k : IntKind) (m : Int) : Cl n (.int k m) = True := eq_true (.int k m)
@[push_cast] theorem cl_bool (b : Bool) : Cl n (.bool b) = True := eq_true (.bool b)
@[push_cast] theorem cl_str (s : List UInt8) : Cl n (.str s) = True := eq_true (.str s)
@[push_cast] theorem cl_nils : Cl n .nils = True := eq_true .nils
@[push_cast] theorem cl_nilp : Cl n .nilp = True := eq_true .nilp
@[push_cast] theorem cl_agg (cs : List V) : Cl n (.agg cs) ↔ ∀ v ∈ cs, Cl n v := ⟨fun h => by cases h; assumption, .agg⟩
@[push_cast] theorem cl_tup (cs : List V) : Cl n (.tup cs) ↔ ∀ v ∈ cs, Cl n v := ⟨fun h => by cases h; assumption, .tup⟩
@[push_cast] theorem cl_rows (xs : List V) : Cl n (.rows none xs) ↔ ∀ x ∈ xs, Cl n x := by
  constructor
  · intro h x hx
    cases h with
    | rows _ hv =>
      by_cases ha : ∃ cs, x = .agg cs
      · obtain ⟨cs, rfl⟩ := ha
        exact .agg (fun v hv' => hv v (List.mem_flatMap.2 ⟨_, hx, hv'⟩))
      · exact hv x (List.mem_flatMap.2 ⟨x, hx, by rw [cells_not_agg (fun cs e => ha ⟨cs, e⟩)]; exact List.mem_singleton.2 rfl⟩)
  · exact Cl.rows'
@[push_cast] theorem cl_heap (b l : Nat) : Cl n (.heap b l) ↔ b < n := ⟨fun h => by cases h; assumption, .heap⟩
@[push_cast] theorem cl_ptr (b l : Nat) : Cl n (.ptr b l) ↔ b < n := ⟨fun h => by cases h; assumption, .ptr⟩

theorem fin_freeze {b m sz : Nat} {cs xs : List V} {B : Blk} (hB : B = .cells sz cs) (hb : b = S.length) (hm : m * sz ≤ cs.length) (hxl : xs.length = m) (hxs : xs.flatMap V.cells = cs.take (m * sz)) (hc : Cl S.length (.rows none xs)) (h : V.rows none xs = x) :
    ∃ r S2, Wk S (.heap b m) (S ++ [B]) r S2 ∧ r = x ∧ S2 = S := by
  subst hb hB h
  have h1 := Wk.freeze (S0 := S) (S := S ++ [Blk.cells sz cs]) (r := .heap S.length m) (b := S.length) (m := m) xs (by simp) hm hxl hxs
  simp only [fr1, frC, and_self, if_true] at h1
  have h2 := Wk.erase S (.rows (some (S ++ [Blk.cells sz cs]).length) xs) ((S ++ [Blk.cells sz cs]).set S.length Blk.dead ++ [Blk.right sz])
  rw [app_set0, List.append_assoc] at h1 h2
  exact ⟨_, _, (h1.trans h2).trans (Wk.pure hc), rfl, rfl⟩

theorem splice_one : ∀ (cs : List V) (k : Nat) (u : V), splice cs k [u] = cs.set k u
  | [], k, u => by cases k <;> simp [splice]
  | c :: cs, 0, u => by cases cs <;> simp [splice]
  | c :: cs, k + 1, u => by simp [splice, splice_one cs k u]

theorem VCall.as {P : Program} {f : FuncId} {args args' : List V} {S : List Blk} {q : V → List Blk → Prop} (h : VCall P f args' S q) (e : args = args') : VCall P f args S q := e ▸ h

end

/-- A table in which arrays of some more element types may be written. -/
def wrOf (D : Nat → TD) (ts : List Nat) (t : Nat) : TD := if ts.contains t then ⟨(D t).k, (D t).size, (D t).bytes, (D t).zero, true⟩ else D t
theorem wrOk {P : Program} {D : Nat → TD} (h : TypesOk P D) (ts : List Nat) : TypesOk P (wrOf D ts) := by
  refine ⟨fun t => ?_, h.mix⟩
  unfold wrOf
  split
  · exact h.ty t
  · exact h.ty t
theorem wrOf_eq (D : Nat → TD) (ts : List Nat) (t : Nat) : wrOf D ts t = if ts.contains t then ⟨(D t).k, (D t).size, (D t).bytes, (D t).zero, true⟩ else D t := rfl
attribute [push_cast] wrOf_eq List.contains_cons List.contains_nil Bool.or_false Bool.or_true Bool.true_or Bool.false_or
attribute [push_cast] TK.slc.injEq TK.int.injEq exists_eq_left' exists_eq_left exists_eq' exists_eq forall_eq_or_imp forall_false List.mem_map and_self byteOfV eraseT_tup
theorem byte_wrap (n : Int) : UInt8.ofNat (IntKind.u8.wrap n).toNat = UInt8.ofNat (n % 256).toNat := by
  have h : IntKind.u8.wrap n = n % 256 := by
    simp [IntKind.wrap, IntKind.signed, IntKind.bits]
  rw [h]

end Go.Proofs.Ytblbaniokmgjgaa
