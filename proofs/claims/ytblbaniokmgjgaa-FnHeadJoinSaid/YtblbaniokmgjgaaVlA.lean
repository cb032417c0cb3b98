/- Abstract values of a value logic over the model, and what it means that a concrete value stands for one. -/
import Derived.Laws.Tables
import Derived.Laws.AppendOwn
import Derived.Laws.OwnMore
import Derived.Laws.BytesString
import Derived.Great.BuildSlice
import Derived.Below
import Derived.KernelRfl
namespace Go.Proofs.Ytblbaniokmgjgaa
open Go
set_option linter.unusedVariables false
set_option linter.unusedSimpArgs false

/-- Abstract values. 'rows': a slice whose elements stand in the value itself (nothing writes to them); 'heap', 'ptr': into abstract blocks. -/
inductive V where
  | int (k : IntKind) (n : Int)
  | bool (b : Bool)
  | str (s : List UInt8)
  | agg (cs : List V)
  | tup (vs : List V)
  | nils
  | rows (tok : Option Nat) (xs : List V)
  | heap (blk len : Nat)
  | ptr (blk off : Nat)
  | eptr (x : V) (off : Nat)
  | nilp
  | fn (f : FuncId) (cap : List V)
  | junk
  deriving Inhabited

def V.cells : V → List V
  | .agg cs => cs
  | v => [v]

def V.one : V → Bool
  | .agg _ | .tup _ | .junk => false
  | _ => true

/-- Abstract blocks: a variable or an array that is written; the right to append behind a slice; nothing any more. -/
inductive Blk where
  | cells (sz : Nat) (cs : List V)
  | right (sz : Nat)
  | dead
  deriving Inhabited

def Blk.live : Blk → Bool
  | .dead => false
  | _ => true

/-- Where abstract blocks lie, and up to which place the cells of a block are never written again. -/
structure Gh where
  n : Nat
  ok : Nat → Bool
  blk : Nat → Nat
  fin : Nat → Nat
  lim : Nat → Nat
  sz : Nat → Nat
  p : Nat → Nat

def Held (w : World) (b off : Nat) (vs : List Value) : Prop := ∀ i u, vs[i]? = some u → w.cell? ⟨b, off + i, none⟩ = some u

def TokOk (G : Gh) (tok : Option Nat) (b off len cap nc : Nat) : Prop :=
  ∀ τ, tok = some τ → τ < G.n ∧ G.ok τ = true ∧ G.blk τ = b ∧ off + nc = G.fin τ ∧ nc = len * G.sz τ ∧ off + cap * G.sz τ ≤ G.lim τ

inductive VR (G : Gh) (w : World) : V → Value → Prop where
  | int (k : IntKind) (n : Int) : VR G w (.int k n) (.int k n)
  | bool (b : Bool) : VR G w (.bool b) (.bool b)
  | str (s : List UInt8) : VR G w (.str s) (.string ⟨⟨s⟩⟩)
  | agg {cs : List V} {c : Array Value} : cs.length = c.size → (∀ (i : Nat) (v : V) (u : Value), cs[i]? = some v → c[i]? = some u → VR G w v u) →
      (∀ u ∈ c.toList, u.oneCell' = true) → VR G w (.agg cs) (.agg c)
  | tup {cs : List V} {c : Array Value} : cs.length = c.size → (∀ (i : Nat) (v : V) (u : Value), cs[i]? = some v → c[i]? = some u → VR G w v u) → VR G w (.tup cs) (.tuple c)
  | nils : VR G w .nils (.slice none 0 0)
  | rowsNil {tok : Option Nat} : (∀ τ, tok = some τ → τ < G.n) → VR G w (.rows tok []) (.slice none 0 0)
  | rows {tok : Option Nat} {xs : List V} {b off cap : Nat} (vs : List Value) : (xs.flatMap V.cells).length = vs.length →
      (∀ (i : Nat) (v : V) (u : Value), (xs.flatMap V.cells)[i]? = some v → vs[i]? = some u → VR G w v u) → (∀ u ∈ vs, u.oneCell' = true) →
      Held w b off vs → off + vs.length ≤ G.p b → xs.length ≤ cap → TokOk G tok b off xs.length cap vs.length →
      VR G w (.rows tok xs) (.slice (some ⟨b, off, none⟩) xs.length cap)
  | heapNil {blk : Nat} : blk < G.n → VR G w (.heap blk 0) (.slice none 0 0)
  | heap {blk len cap : Nat} : blk < G.n → G.ok blk = true → len ≤ cap → cap * G.sz blk ≤ G.lim blk → VR G w (.heap blk len) (.slice (some ⟨G.blk blk, 0, none⟩) len cap)
  | ptr {blk off : Nat} : blk < G.n → G.ok blk = true → VR G w (.ptr blk off) (.pointer (some ⟨G.blk blk, off, none⟩))
  | eptr {x : V} {b o off : Nat} (vs : List Value) : x.cells.length = vs.length →
      (∀ (i : Nat) (v : V) (u : Value), x.cells[i]? = some v → vs[i]? = some u → VR G w v u) → (∀ u ∈ vs, u.oneCell' = true) →
      Held w b o vs → o + vs.length ≤ G.p b → VR G w (.eptr x off) (.pointer (some ⟨b, o + off, none⟩))
  | nilp : VR G w .nilp (.pointer none)
  | fn {f : FuncId} {cap : List V} {c : Array Value} : cap.length = c.size → (∀ (i : Nat) (v : V) (u : Value), cap[i]? = some v → c[i]? = some u → VR G w v u) → VR G w (.fn f cap) (.func (.func f) #[] c)
  | junk (u : Value) : VR G w .junk u

/-- Lists of values stand for each other. -/
def AllR (G : Gh) (w : World) (cs : List V) (vs : List Value) : Prop :=
  cs.length = vs.length ∧ ∀ (i : Nat) (v : V) (u : Value), cs[i]? = some v → vs[i]? = some u → VR G w v u

structure Ext (G : Gh) (w : World) (G' : Gh) (w' : World) : Prop where
  n : G.n ≤ G'.n
  same : ∀ j, j < G.n → G'.ok j = G.ok j ∧ G'.blk j = G.blk j ∧ G'.fin j = G.fin j ∧ G'.lim j = G.lim j ∧ G'.sz j = G.sz j
  p : ∀ b, G.p b ≤ G'.p b
  cell : ∀ b o, o < G.p b → w'.cell? ⟨b, o, none⟩ = w.cell? ⟨b, o, none⟩

theorem Ext.refl (G : Gh) (w : World) : Ext G w G w := ⟨Nat.le_refl _, fun _ _ => ⟨rfl, rfl, rfl, rfl, rfl⟩, fun _ => Nat.le_refl _, fun _ _ _ => rfl⟩

theorem Ext.trans {G G' G'' : Gh} {w w' w'' : World} (h : Ext G w G' w') (k : Ext G' w' G'' w'') : Ext G w G'' w'' := by
  refine ⟨Nat.le_trans h.n k.n, fun j hj => ?_, fun b => Nat.le_trans (h.p b) (k.p b), fun b o ho => (k.cell b o (Nat.lt_of_lt_of_le ho (h.p b))).trans (h.cell b o ho)⟩
  obtain ⟨a1, a2, a3, a4, a5⟩ := h.same j hj
  obtain ⟨b1, b2, b3, b4, b5⟩ := k.same j (Nat.lt_of_lt_of_le hj h.n)
  exact ⟨b1.trans a1, b2.trans a2, b3.trans a3, b4.trans a4, b5.trans a5⟩

theorem Held.ext {G G' : Gh} {w w' : World} (h : Ext G w G' w') {b off : Nat} {vs : List Value} (hh : Held w b off vs) (hp : off + vs.length ≤ G.p b) : Held w' b off vs := by
  intro i u hi
  have hlt : i < vs.length := by
    rcases Nat.lt_or_ge i vs.length with g | g
    · exact g
    · rw [List.getElem?_eq_none g] at hi; cases hi
  rw [h.cell b (off + i) (by omega)]
  exact hh i u hi

theorem TokOk.ext {G G' : Gh} {w w' : World} (h : Ext G w G' w') {tok : Option Nat} {b off len cap nc : Nat} (ht : TokOk G tok b off len cap nc) : TokOk G' tok b off len cap nc := by
  intro τ hτ
  obtain ⟨h1, h2, h3, h4, h5, h6⟩ := ht τ hτ
  obtain ⟨a1, a2, a3, a4, a5⟩ := h.same τ h1
  exact ⟨Nat.lt_of_lt_of_le h1 h.n, a1.trans h2, a2.trans h3, by rw [a3]; exact h4, by rw [a5]; exact h5, by rw [a5, a4]; exact h6⟩

theorem VR.ext {G G' : Gh} {w w' : World} (h : Ext G w G' w') {v : V} {c : Value} (hv : VR G w v c) : VR G' w' v c := by
  induction hv with
  | int k n => exact .int k n
  | bool b => exact .bool b
  | str s => exact .str s
  | agg hl _ ho ih => exact .agg hl ih ho
  | tup hl _ ih => exact .tup hl ih
  | nils => exact .nils
  | rowsNil ht => exact .rowsNil (fun τ hτ => Nat.lt_of_lt_of_le (ht τ hτ) h.n)
  | rows vs hl _ ho hh hp hc ht ih => exact .rows vs hl ih ho (hh.ext h hp) (Nat.le_trans hp (h.p _)) hc (ht.ext h)
  | heapNil hb => exact .heapNil (Nat.lt_of_lt_of_le hb h.n)
  | heap hb hk hc hl =>
    obtain ⟨a1, a2, a3, a4, a5⟩ := h.same _ hb
    rw [← a2]
    exact .heap (Nat.lt_of_lt_of_le hb h.n) (a1.trans hk) hc (by rw [a5, a4]; exact hl)
  | ptr hb hk =>
    obtain ⟨a1, a2, a3, a4, a5⟩ := h.same _ hb
    rw [← a2]
    exact .ptr (Nat.lt_of_lt_of_le hb h.n) (a1.trans hk)
  | eptr vs hl _ ho hh hp ih => exact .eptr vs hl ih ho (hh.ext h hp) (Nat.le_trans hp (h.p _))
  | nilp => exact .nilp
  | fn hl _ ih => exact .fn hl ih
  | junk u => exact .junk u

theorem AllR.ext {G G' : Gh} {w w' : World} (h : Ext G w G' w') {cs : List V} {vs : List Value} (hv : AllR G w cs vs) : AllR G' w' cs vs :=
  ⟨hv.1, fun i v u a b => (hv.2 i v u a b).ext h⟩

/-- What a live abstract block is in memory. -/
def BlkOk (G : Gh) (w : World) (j : Nat) : Blk → Prop
  | .cells sz cs => ∃ arr ty, w.heap[G.blk j]? = some (.cells arr ty (0, 0)) ∧ G.p (G.blk j) = 0 ∧ G.lim j ≤ arr.size ∧
      cs.length ≤ arr.size ∧ G.sz j = sz ∧ (∀ (i : Nat) (v : V) (u : Value), cs[i]? = some v → arr[i]? = some u → VR G w v u ∧ u.oneCell' = true)
  | .right sz => ∃ arr ty, w.heap[G.blk j]? = some (.cells arr ty (0, 0)) ∧ G.p (G.blk j) = G.fin j ∧ G.lim j ≤ arr.size ∧ G.sz j = sz
  | .dead => True

structure Rel (G : Gh) (w : World) (S : List Blk) : Prop where
  n : G.n = S.length
  fresh : ∀ b, w.heap.size ≤ b → G.p b = 0
  lt : ∀ j B, S[j]? = some B → B.live = true → G.ok j = true → G.blk j < w.heap.size
  live : ∀ j B, S[j]? = some B → B.live = true → G.ok j = true → BlkOk G w j B
  vac : ∀ j sz cs, S[j]? = some (.cells sz cs) → G.ok j = false → cs = []
  inj : ∀ i j B C, S[i]? = some B → S[j]? = some C → B.live = true → C.live = true → G.ok i = true → G.ok j = true → G.blk i = G.blk j → i = j

/-- Whether a concrete block is one of the abstract ones. -/
def Owns (G : Gh) (S : List Blk) (b : Nat) : Prop := ∃ j B, S[j]? = some B ∧ B.live = true ∧ G.ok j = true ∧ G.blk j = b

/-- How a run may change memory. -/
structure Evol (G : Gh) (w : World) (S : List Blk) (G' : Gh) (w' : World) (S' : List Blk) : Prop where
  ext : Ext G w G' w'
  size : w.heap.size ≤ w'.heap.size
  os : w'.os = w.os
  tape : w'.tape = w.tape
  output : w'.output = w.output
  other : ∀ b, b < w.heap.size → ¬ Owns G S b → w'.heap[b]? = w.heap[b]?
  own : ∀ b, b < w.heap.size → Owns G' S' b → Owns G S b
  pk : ∀ b, b < w.heap.size → ¬ Owns G S b → G'.p b = G.p b

theorem Evol.refl (G : Gh) (w : World) (S : List Blk) : Evol G w S G w S := ⟨Ext.refl _ _, Nat.le_refl _, rfl, rfl, rfl, fun _ _ _ => rfl, fun _ _ h => h, fun _ _ _ => rfl⟩

theorem Evol.trans {G G' G'' : Gh} {w w' w'' : World} {S S' S'' : List Blk} (h : Evol G w S G' w' S') (k : Evol G' w' S' G'' w'' S'') : Evol G w S G'' w'' S'' := by
  refine ⟨h.ext.trans k.ext, Nat.le_trans h.size k.size, k.os.trans h.os, k.tape.trans h.tape, k.output.trans h.output, fun b hb hn => ?_, fun b hb ho => ?_, fun b hb hn => ?_⟩
  · rw [k.other b (Nat.lt_of_lt_of_le hb h.size) (fun ho => hn (h.own b hb ho)), h.other b hb hn]
  · exact h.own b hb (k.own b (Nat.lt_of_lt_of_le hb h.size) ho)
  · rw [k.pk b (Nat.lt_of_lt_of_le hb h.size) (fun ho => hn (h.own b hb ho)), h.pk b hb hn]

end Go.Proofs.Ytblbaniokmgjgaa
