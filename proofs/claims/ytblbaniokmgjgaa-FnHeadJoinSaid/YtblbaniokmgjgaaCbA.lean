/- From a law's value call to its given row. -/
import Derived.Test.YtblbaniokmgjgaaCaL
import Derived.Test.YtblbaniokmgjgaaRows
import Derived.ProofKit
namespace Go.Proofs.Ytblbaniokmgjgaa
open Go Go.ChangeShapes Go.WideShapes Go.ChangeAt Go.RowKit
set_option linter.unusedVariables false
set_option linter.unusedSimpArgs false

theorem lawOwn : ownKnob Try.prog.godebug = none := by kernel_rfl
theorem lawLaid : laidOutB Try.prog = true := by kernel_rfl
theorem cellsOf8 : Try.prog.cellsOf 5 = 1 := by kernel_rfl

def lawG (W : World) (K : Nat) : Gh := { n := 0, ok := fun _ => false, blk := fun _ => 0, fin := fun _ => 0, lim := fun _ => 0, sz := fun _ => 0, p := fun b => if b < W.heap.size then K else 0 }
theorem lawRel (W : World) (K : Nat) : Rel (lawG W K) W [] where
  n := rfl
  fresh := fun b hb => by simp [lawG, Nat.not_lt.2 hb]
  lt := fun j B h => by simp at h
  live := fun j B h => by simp at h
  vac := fun j sz cs h => by simp at h
  inj := fun i j B C h => by simp at h

/- Bytes that come in. -/
set_option maxRecDepth 100000 in
theorem bytes_arg {H : Type} {enc : TypeId × Value → H} {W : World} {base : Nat} {v0 : Value} {d0 : DataW H} {p0 : List MemPlace}
    (hv : Value.okWide Try.prog W .any base 37 v0) (h0 : DataW.Trod enc Try.prog W 0 (fun _ => true) true 37 v0 d0 p0) :
    ∃ (code : List UInt8) (K : Nat), ∀ K', K ≤ K' → VR (lawG W K') W (.rows none (code.map u8V)) v0 := by
  obtain ⟨a0, len, cap, rfl⟩ := okWide_slice Try.underlying37 hv
  obtain ⟨fuel, hf⟩ := h0
  rcases open_ints Try.underlying37 Try.underlying5 cellsOf8 hf with ⟨hcs, hx⟩ | ⟨a, len', cap', zs, hcs, _, hl, hm, hz, hx, hcell, hwz⟩
  · simp [Value.cells] at hcs
    obtain ⟨rfl, rfl, rfl⟩ := hcs
    exact ⟨[], 0, fun K' _ => .rowsNil (fun τ hτ => by cases hτ)⟩
  · simp [Value.cells] at hcs
    obtain ⟨rfl, rfl, rfl⟩ := hcs
    simp only [if_true] at hz
    simp only [Value.okWide, Cell.okWide, Cell.ok, Try.underlying37] at hv
    obtain ⟨_, _, _, hsp, row, cells, hsh, _⟩ := hv
    obtain ⟨b, off, s⟩ := a
    simp only at hsp
    subst hsp
    have hb : b < W.heap.size := by
      rcases Nat.lt_or_ge b W.heap.size with g | g
      · exact g
      · have hn : W.heap[b]? = none := Array.getElem?_eq_none g
        simp [World.shape?, hn] at hsh
    have hbyte : ∀ x ∈ zs, 0 ≤ x ∧ x < 256 := fun x hx => by
      have h := hwz x hx
      have h1 : IntKind.u8.min = 0 := rfl
      have h2 : IntKind.u8.max = 255 := rfl
      simp only [Lit.wf, Bool.and_eq_true, decide_eq_true_eq] at h
      omega
    refine ⟨(zs.take len).map (fun x => UInt8.ofNat x.toNat), off + len, fun K' hK => ?_⟩
    have hlen : (((zs.take len).map (fun x => UInt8.ofNat x.toNat)).map u8V).length = len := by simp; omega
    have hr : VR (lawG W K') W (.rows none (((zs.take len).map (fun x => UInt8.ofNat x.toNat)).map u8V)) (.slice (some ⟨b, off, none⟩) (((zs.take len).map (fun x => UInt8.ofNat x.toNat)).map u8V).length cap) := by
      refine .rows ((zs.take len).map fun x => .int .u8 x) ?_ ?_ ?_ ?_ ?_ (by rw [hlen]; omega) (fun τ hτ => by cases hτ)
      · rw [cells_ff _ (fun v hv => by obtain ⟨y, _, rfl⟩ := List.mem_map.1 hv; rfl)]; simp
      · intro i v u hv' hu
        rw [cells_ff _ (fun v hv => by obtain ⟨y, _, rfl⟩ := List.mem_map.1 hv; rfl)] at hv'
        simp only [List.getElem?_map, Option.map_eq_some_iff] at hv' hu
        obtain ⟨c, ⟨x, hx1, rfl⟩, rfl⟩ := hv'
        obtain ⟨y, hy, rfl⟩ := hu
        rw [hx1] at hy
        cases hy
        obtain ⟨g1, g2⟩ := hbyte x (List.mem_of_mem_take (List.mem_of_getElem? hx1))
        have e : ((UInt8.ofNat x.toNat).toNat : Int) = x := by simp; omega
        rw [u8V, e]
        exact .int _ _
      · intro u hu
        simp only [List.mem_map] at hu
        obtain ⟨x, _, rfl⟩ := hu
        rfl
      · intro i u hu
        simp only [List.getElem?_map, Option.map_eq_some_iff] at hu
        obtain ⟨x, hx1, rfl⟩ := hu
        have hi : i < zs.length := by
          have := (List.getElem?_eq_some_iff.1 hx1).1
          simp at this; omega
        have := hcell i hi
        rw [List.getElem?_take] at hx1
        split at hx1
        · rw [List.getD, hx1] at this
          rw [add_plain] at this
          exact this
        · cases hx1
      · have : ((zs.take len).map fun x => Value.int .u8 x).length = len := by simp; omega
        rw [this]
        simp only [lawG, if_pos hb]
        omega
    rw [hlen] at hr
    exact hr

theorem law_calls {fid : FuncId} {fn : Func} (hfn : Try.prog.funcs[fid]? = some fn) (hbody : fn.body.isNone = false) (hname : (fn.name == "runtime.NumGoroutine") = false) {args : List V}
    (hc : VCall Try.prog fid args [] fun r S' => r = .bool true ∧ S' = []) {W : World} {K : Nat} {cargs : Array Value} (ha : AllR (lawG W K) W args cargs.toList) :
    Calls Try.prog fid cargs W fun e W' => e = .returned (.bool true) ∧ Below W.heap.size W W' := by
  rcases hc with ⟨_, r, S', ⟨rfl, rfl⟩, hd⟩ | ⟨r, _, hx⟩
  · refine Calls.mono (hd (lawG W K) W cargs ha (lawRel W K)) ?_
    rintro e W' ⟨c, G', rfl, hv, _, hE⟩
    cases hv
    refine ⟨rfl, ⟨hE.os, hE.tape, hE.output, hE.size, fun k hk => hE.other k hk ?_⟩⟩
    rintro ⟨j, B, hj, _⟩
    simp at hj
  · obtain ⟨c, hrun, _⟩ := hx (lawG W K) W cargs ha
    have hne : ¬ fn.name = "runtime.NumGoroutine" := by simpa using hname
    cases hbo : fn.body with
    | none => rw [hbo] at hbody; cases hbody
    | some bd => simp [callFunc, hfn, hbo, hne] at hrun

theorem allR_one {G : Gh} {W : World} {a : V} {v : Value} (h : VR G W a v) : AllR G W [a] (#[v] : Array Value).toList := by
  refine ⟨rfl, fun i x u hx hu => ?_⟩
  rcases i with _ | i
  · cases hx; cases hu; exact h
  · cases hx

theorem allR_two {G : Gh} {W : World} {a b : V} {v u : Value} (h : VR G W a v) (k : VR G W b u) : AllR G W [a, b] (#[v, u] : Array Value).toList := by
  refine ⟨rfl, fun i x z hx hz => ?_⟩
  rcases i with _ | _ | i
  · cases hx; cases hz; exact h
  · cases hx; cases hz; exact k
  · cases hx

end Go.Proofs.Ytblbaniokmgjgaa
