/- What a call forgets: blocks that nothing leads to any more; names for the ends of the walk. -/
import Derived.Test.YtblbaniokmgjgaaVlQ
namespace Go.Proofs.Ytblbaniokmgjgaa
open Go
set_option linter.unusedVariables false
set_option linter.unusedSimpArgs false

theorem Wk.erase (S0 : List Blk) (r : V) (S : List Blk) : Wk S0 r S (erase1 r) S := fun _ _ G _ _ _ hE hv hR => ⟨G, erase1_ok hv, hR, hE⟩

def eraseT : V → V
  | .tup vs => .tup (vs.map erase1)
  | v => erase1 v

theorem Wk.eraseT (S0 : List Blk) (r : V) (S : List Blk) : Wk S0 r S (eraseT r) S := by
  intro _ _ G _ _ _ hE hv hR
  refine ⟨G, ?_, hR, hE⟩
  cases hv with
  | tup hl hr =>
    refine .tup (by simpa using hl) ?_
    intro i v u hv hu
    simp at hv
    obtain ⟨x, hx, rfl⟩ := hv
    exact erase1_ok (hr i x u hx hu)
  | agg a b c => exact erase1_ok (.agg a b c)
  | rows vs a1 a2 a3 a4 a5 a6 a7 => exact erase1_ok (.rows vs a1 a2 a3 a4 a5 a6 a7)
  | rowsNil a => exact erase1_ok (.rowsNil a)
  | nils => exact erase1_ok .nils
  | int => exact .int _ _
  | bool => exact .bool _
  | str => exact .str _
  | heapNil a => exact .heapNil a
  | heap a b c d => exact .heap a b c d
  | ptr a b => exact .ptr a b
  | eptr vs a b c d e => exact .eptr vs a b c d e
  | nilp => exact .nilp
  | fn a b => exact .fn a b
  | junk => exact .junk _

end Go.Proofs.Ytblbaniokmgjgaa
