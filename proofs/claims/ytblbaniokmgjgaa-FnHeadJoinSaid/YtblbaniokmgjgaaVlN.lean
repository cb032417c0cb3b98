/- A region that draws its order: whatever order its edges let, it comes to what its operations come to one behind the other. -/
import Derived.Test.YtblbaniokmgjgaaVlNf
namespace Go.Proofs.Ytblbaniokmgjgaa
open Go
set_option linter.unusedVariables false
set_option linter.unusedSimpArgs false

/-- Orders that the edges let. -/
inductive Sched (n : Nat) (edges : Nat → List Nat) : List Nat → List Nat → Prop where
  | done {d : List Nat} : (∀ i, i < n → i ∈ d) → Sched n edges d []
  | step {d l : List Nat} {i : Nat} : i < n → i ∉ d → (∀ e ∈ edges i, e ∈ d) → Sched n edges (i :: d) l → Sched n edges d (i :: l)

def edgesOf (ops : Array Oper) (i : Nat) : List Nat := match ops[i]? with
  | some o => (o.after.toList.filter (Region.binds .any)).map (·.on)
  | none => []

theorem binds_any {m : Region.Mode} {e : Edge} (h : Region.binds .any e = true) : Region.binds m e = true := by
  unfold Region.binds at h ⊢
  split <;> simp_all

theorem go_sched (m : Region.Mode) (hm : m = .any) (ops : Array Oper) (hlt : ∀ (i : Nat) (o : Oper), ops[i]? = some o → ∀ e ∈ o.after, Region.binds .any e = true → e.on < i) : ∀ (fuel t : Nat) (listed : Array Bool) (acc : List Nat),
    listed.size = ops.size → (∀ i, i < ops.size → (listed.getD i true = true ↔ i ∈ acc)) → ((List.range ops.size).filter (fun i => !listed.getD i true)).length ≤ fuel →
    ∃ l, Region.linearise.go m ops fuel t listed acc = acc.reverse ++ l ∧ Sched ops.size (edgesOf ops) acc l
  | 0, t, listed, acc, hs, hiff, hle => by
    refine ⟨[], by simp [Region.linearise.go], .done fun i hi => ?_⟩
    have h0 : (List.range ops.size).filter (fun i => !listed.getD i true) = [] := List.eq_nil_of_length_eq_zero (by omega)
    have := List.filter_eq_nil_iff.1 h0 i (List.mem_range.2 hi)
    exact (hiff i hi).1 (by simpa using this)
  | fuel + 1, t, listed, acc, hs, hiff, hle => by
    unfold Region.linearise.go
    generalize hrs : ((List.range ops.size).filter fun i => !listed.getD i true && ((ops[i]?).map (·.after.all fun e => !Region.binds m e || listed.getD e.on false)).getD false) = rs
    simp only
    cases hp : rs[t % rs.length]? with
    | none =>
      refine ⟨[], by simp, .done fun i hi => ?_⟩
      have hnil : rs = [] := by
        cases rs with
        | nil => rfl
        | cons x xs =>
          rw [List.getElem?_eq_getElem (Nat.mod_lt _ (by simp))] at hp
          cases hp
      -- the least that is not listed could be taken
      rw [hnil] at hrs
      induction i using Nat.strongRecOn with
      | _ i ih =>
        have hno := List.filter_eq_nil_iff.1 hrs i (List.mem_range.2 hi)
        rcases Classical.em (listed.getD i true = true) with h1 | h1
        · exact (hiff i hi).1 h1
        · exfalso
          apply hno
          have h1' : listed.getD i true = false := by simpa using h1
          have ho : ops[i]? = some ops[i] := Array.getElem?_eq_getElem hi
          rw [ho, h1']
          simp only [Bool.not_false, Option.map_some, Option.getD_some, Bool.true_and]
          rw [Array.all_eq_true_iff_forall_mem]
          intro e he
          cases hbe : Region.binds m e
          · simp
          have hel := hlt i _ ho e he (by rw [← hm]; exact hbe)
          have hm2 := ih e.on hel (by omega)
          have hl := (hiff e.on (by omega)).2 hm2
          have : listed.getD e.on false = true := by
            rw [Array.getD_eq_getD_getElem?, Array.getElem?_eq_getElem (by omega)] at hl ⊢
            simpa using hl
          simp [this]
    | some i =>
      have hmem : i ∈ rs := List.mem_of_getElem? hp
      rw [← hrs, List.mem_filter] at hmem
      obtain ⟨hi, hready⟩ := hmem
      have hi' : i < ops.size := List.mem_range.1 hi
      have ho : ops[i]? = some ops[i] := Array.getElem?_eq_getElem hi'
      rw [ho] at hready
      simp only [Option.map_some, Option.getD_some, Bool.and_eq_true, Bool.not_eq_true'] at hready
      obtain ⟨hun, hall⟩ := hready
      have hnot : i ∉ acc := fun hm => by rw [(hiff i hi').2 hm] at hun; cases hun
      have hset : ∀ j, j < ops.size → (listed.setIfInBounds i true).getD j true = if j = i then true else listed.getD j true := by
        intro j hj
        rw [Array.getD_eq_getD_getElem?, Array.getElem?_setIfInBounds]
        by_cases e : i = j
        · subst e
          have hls : i < listed.size := by omega
          simp [hls]
        · rw [if_neg e, if_neg (fun h => e h.symm), ← Array.getD_eq_getD_getElem?]
      obtain ⟨l, hl, hsch⟩ := go_sched m hm ops hlt fuel (t / rs.length) (listed.setIfInBounds i true) (i :: acc) (by simpa using hs) (fun j hj => by
        rw [hset j hj]
        by_cases e : j = i
        · subst e; simp
        · rw [if_neg e, hiff j hj]; simp [e]) (by
        have hlt2 : ((List.range ops.size).filter (fun j => !(listed.setIfInBounds i true).getD j true)).length < ((List.range ops.size).filter (fun j => !listed.getD j true)).length := by
          have he : (List.range ops.size).filter (fun j => !(listed.setIfInBounds i true).getD j true) = ((List.range ops.size).filter (fun j => !listed.getD j true)).filter (fun j => j != i) := by
            rw [List.filter_filter]
            apply List.filter_congr
            intro j hj
            rw [hset j (List.mem_range.1 hj)]
            by_cases e : j = i <;> simp [e]
          rw [he]
          refine List.length_filter_lt_length_iff_exists.2 ⟨i, List.mem_filter.2 ⟨hi, by simp [hun]⟩, by simp⟩
        omega)
      refine ⟨i :: l, by simp only [hl]; simp, .step hi' hnot (fun e he => ?_) hsch⟩
      unfold edgesOf at he
      rw [ho] at he
      simp only [List.mem_map, List.mem_filter] at he
      obtain ⟨ed, ⟨hme, hb⟩, rfl⟩ := he
      have h1 := Array.all_eq_true_iff_forall_mem.1 hall ed (by simpa using hme)
      rw [binds_any hb] at h1
      have hel := hlt i _ ho ed (by simpa using hme) hb
      have h2 : listed.getD ed.on false = true := by simpa using h1
      refine (hiff ed.on (by omega)).1 ?_
      rw [Array.getD_eq_getD_getElem?, Array.getElem?_eq_getElem (by omega)] at h2 ⊢
      simpa using h2

theorem schedule_sched (mixed : Bool) (hmix : mixed = true) (ops : Array Oper) (t : Nat) (hlt : ∀ (i : Nat) (o : Oper), ops[i]? = some o → ∀ e ∈ o.after, Region.binds .any e = true → e.on < i) : Sched ops.size (edgesOf ops) [] (Region.schedule mixed ops t) := by
  subst hmix
  have key : ∀ t, Sched ops.size (edgesOf ops) [] (Region.linearise .any ops t) := by
    intro t
    obtain ⟨l, hl, hs⟩ := go_sched .any rfl ops hlt ops.size t (Array.replicate ops.size false) [] (by simp) (fun i hi => by simp [hi]) (by
      refine Nat.le_trans (List.length_filter_le _ _) (by simp))
    unfold Region.linearise
    rw [hl]
    simpa using hs
  unfold Region.schedule
  simp only [Bool.true_or, if_true]
  exact key _

/-- Operations that stand in one order alone. 'pf' names functions whose calls leave memory as it is; with none: slices that are built and never written. -/
def isFixed (pf : Option FuncId → Bool) : Op → Bool
  | .alloc _ | .box _ _ | .store _ _ _ | .makeSlice _ _ _ => true
  | .buildSlice _ _ _ => !pf none
  | .call c => match c.callee with
    | .value (.func f) => !pf (some f)
    | .value _ => true
    | .builtin .append => true
    | _ => false
  | _ => false

/-- What must come before each operation. -/
def preAll : List Oper → List (List Nat) → List (List Nat)
  | [], acc => acc
  | o :: os, acc => preAll os (acc ++ [((o.after.toList.filter (Region.binds .any)).map fun e => e.on :: acc.getD e.on []).flatten.eraseDups])

def slotsOf (o : Oper) : List Nat := o.op.operands.toList.filterMap fun | .tmp i => some i | _ => none

/-- Calls beside which a block may be made. -/
def isFn : Op → Bool
  | .call c => match c.callee with
    | .value (.func _) => true
    | _ => false
  | _ => false

def isAlloc : Op → Bool
  | .alloc _ => true
  | _ => false

def drawOk (pf : Option FuncId → Bool) (ops : List Oper) (js : List Nat) : Bool :=
  let pre := preAll ops []
  let n := ops.length
  let al := js.getD n n
  (List.range n).all fun i => match ops[i]? with
    | none => false
    | some o =>
      (o.after.toList.all fun e => !Region.binds .any e || decide (e.on < i)) &&
      (match o.guard with | some (g, _) => decide (g < i) | none => true) &&
      (i != al || (isAlloc o.op && o.guard.isNone && decide (999999 < js.getD i 0))) &&
      ((List.range n).all fun j => match ops[j]? with
        | none => false
        | some q =>
          (j == i || o.dst.isNone || q.dst != o.dst) &&
          (!(decide (j < i) && isFixed pf o.op && isFixed pf q.op) || (pre.getD i []).contains j || (i == al && isFn q.op && decide (999999 < js.getD j 0))) &&
          (j == i || match q.dst with
            | none => true
            | some x => !((slotsOf o).contains x || (match o.guard with | some (g, _) => dstAt ops g == some x | none => false)) || (pre.getD i []).contains j || (pre.getD j []).contains i) &&
          (!(isFixed pf q.op && decide (js.getD i 0 ≤ j)) || (pre.getD j []).contains i))


/-- The reads that a write may not touch yet. -/
def pendOk (j : Nat) (S S' : List Blk) : List (Nat × Nat) → Prop
  | [] => True
  | (b, J) :: r => (if j < J then S'[b]? = S[b]? else True) ∧ pendOk j S S' r

def histOk (b : Nat) (S : List Blk) : List (List Blk) → Prop
  | [] => True
  | S0 :: r => S0[b]? = S[b]? ∧ histOk b S r

/-- A call that leaves memory as it is, whatever that is. -/
def PCall (P : Program) (f : FuncId) (args : List V) (q : V → Prop) : Prop := ∃ x, (∀ S, VCall P f args S fun r S' => r = x ∧ S' = S) ∧ q x

def evPure (P : Program) (f : V) (args : List V) (q : V → Prop) : Prop :=
  match f with
  | .fn g cap => PCall P g (eraseArgs (args ++ cap)) q
  | _ => False

/-- A slice that is built and never written: memory is as it was. -/
def evFrozen (D : Nat → TD) (t : TypeId) (len : Nat) (parts : List (Nat × V)) (k : V → Prop) : Prop :=
  match (D t).k with
  | .slc e => ((D e).k matches .none) = false ∧ 0 < (D e).size ∧ len * (D e).size ≤ 16777216 ∧ parts.map (·.1) = List.range len ∧ (parts.all fun x => x.2.cells.length == (D e).size && x.2.cells.all V.one) = true ∧
      (D e).wr = false ∧ k (.rows none (parts.map fun x => erase1 x.2))
  | _ => False

abbrev HK := V → List Blk → List (List Blk) → List (Nat × Nat) → Prop
def at4 (k : HK) (S : List Blk) (hist : List (List Blk)) (pend : List (Nat × Nat)) (v : V) : Prop := k v S hist pend
def looseK (k : HK) (hist : List (List Blk)) (pend : List (Nat × Nat)) (v : V) (S : List Blk) : Prop := k v S hist pend
def fixK (j : Nat) (S : List Blk) (hist : List (List Blk)) (pend : List (Nat × Nat)) (k : HK) (v : V) (S' : List Blk) : Prop := pendOk j S S' pend ∧ k v S' (S :: hist) pend

def clE (n : Nat) : List V → Prop
  | [] => True
  | v :: r => Cl n v ∧ clE n r

/-- A call beside which a block may be made: it makes none, and knows of none that is to come. -/
def frmK (J : Nat) (xs : List V) (S : List Blk) (k : V → List Blk → Prop) (v : V) (S' : List Blk) : Prop :=
  if 999999 < J then S'.length = S.length ∧ clE S.length xs ∧ k v S' else k v S'

/-- A block that may be made early. -/
def alcK (J : Nat) (zs : List V) (k : V → List Blk → Prop) (v : V) (S' : List Blk) : Prop :=
  if 999999 < J then zs.isEmpty = false ∧ k v S' else k v S'

section
variable (P : Program) (D : Nat → TD) (pf : Option FuncId → Bool)

def evDrawOp (o : Op) (ρ : Operand → V) (j J : Nat) (S : List Blk) (hist : List (List Blk)) (pend : List (Nat × Nat)) (k : HK) : Prop :=
  match o with
  | .load t a => match ρ a with
    | .ptr b off => histOk b S hist ∧ evLoad D t (.ptr b off) S (at4 k S hist ((b, J) :: pend))
    | x => evLoad D t x S (at4 k S hist pend)
  | .buildSlice t len parts => if pf none then evFrozen D t len (parts.toList.map fun p => (p.1, ρ p.2)) (at4 k S hist pend)
    else evOp P D (.buildSlice t len parts) ρ S (fixK j S hist pend k)
  | .alloc t => evOp P D (.alloc t) ρ S (alcK J (D t).zero (fixK j S hist pend k))
  | .call c => if isFixed pf (.call c) then (match c.callee with
      | .value (.func _) => evOp P D (.call c) ρ S (frmK J (c.args.toList.map ρ) S (fixK j S hist pend k))
      | _ => evOp P D (.call c) ρ S (fixK j S hist pend k))
    else match c.callee with
      | .value f => evPure P (ρ f) (c.args.toList.map ρ) (at4 k S hist pend)
      | _ => evOp P D (.call c) ρ S (looseK k hist pend)
  | o => if isFixed pf o then evOp P D o ρ S (fixK j S hist pend k)
    else evOp P D o ρ S (looseK k hist pend)

def evDraw (full : List Oper) : List Oper → Nat → List Nat → (Nat → V) → List Blk → List (List Blk) → List (Nat × Nat) → ((Nat → V) → List Blk → Prop) → Prop
  | [], _, _, t, S, _, _, k => k t S
  | o :: os, j, js, t, S, hist, pend, k => match o.guard with
    | none => evDrawOp P D pf o.op (evalT t) j (js.headD 0) S hist pend fun v S' hist' pend' => evDraw full os (j + 1) js.tail (putT t o.dst v) S' hist' pend' k
    | some (g, want) => match dstAt full g with
      | some d => match t d with
        | .bool b => guardK b want (evDrawOp P D pf o.op (evalT (putT t (some d) (.bool want))) j (js.headD 0) S hist pend fun v S' hist' pend' => evDraw full os (j + 1) js.tail (putT (putT t (some d) (.bool want)) o.dst v) S' hist' pend' k)
            (evDraw full os (j + 1) js.tail (putT (putT t (some d) (.bool (!want))) o.dst .junk) S hist pend k)
        | _ => False
      | none => False

def drawK (full os : List Oper) (j : Nat) (js : List Nat) (t : Nat → V) (d : Option Nat) (k : (Nat → V) → List Blk → Prop) (v : V) (S : List Blk) (hist : List (List Blk)) (pend : List (Nat × Nat)) : Prop :=
  evDraw P D pf full os (j + 1) js (putT t d v) S hist pend k

def guardDraw (full os : List Oper) (o : Op) (dst : Option Nat) (d : Nat) (want : Bool) (j : Nat) (js : List Nat) (t : Nat → V) (S : List Blk) (hist : List (List Blk)) (pend : List (Nat × Nat)) (k : (Nat → V) → List Blk → Prop) (x : V) : Prop :=
  match x with
  | .bool b => guardK b want (evDrawOp P D pf o (evalT (putT t (some d) (.bool want))) j (js.headD 0) S hist pend (drawK P D pf full os j js.tail (putT t (some d) (.bool want)) dst k))
      (evDraw P D pf full os (j + 1) js.tail (putT (putT t (some d) (.bool (!want))) dst .junk) S hist pend k)
  | _ => False

def guardDrawAt (full os : List Oper) (o : Op) (dst : Option Nat) (want : Bool) (j : Nat) (js : List Nat) (t : Nat → V) (S : List Blk) (hist : List (List Blk)) (pend : List (Nat × Nat)) (k : (Nat → V) → List Blk → Prop) (d : Option Nat) : Prop :=
  match d with
  | some d => guardDraw P D pf full os o dst d want j js t S hist pend k (t d)
  | none => False

end

section
variable {P : Program} {D : Nat → TD} {pf : Option FuncId → Bool} (full os : List Oper) (o : Op) (d : Option Nat) (ty : TypeId) (ps : String) (af : Array Edge) (t : Nat → V) (S : List Blk) (k : (Nat → V) → List Blk → Prop)
  (j : Nat) (js : List Nat) (hist : List (List Blk)) (pend : List (Nat × Nat))

theorem evDraw_nil : evDraw P D pf full [] j js t S hist pend k = k t S := by simp only [evDraw]
theorem evDraw_none : evDraw P D pf full ({ dst := d, op := o, type := ty, pos := ps, after := af, guard := none } :: os) j js t S hist pend k = evDrawOp P D pf o (evalT t) j (js.headD 0) S hist pend (drawK P D pf full os j js.tail t d k) := by simp only [evDraw]; rfl
theorem evDraw_some (g : Nat) (want : Bool) : evDraw P D pf full ({ dst := d, op := o, type := ty, pos := ps, after := af, guard := some (g, want) } :: os) j js t S hist pend k =
    guardDrawAt P D pf full os o d want j js t S hist pend k (dstAt full g) := by
  simp only [evDraw]
  cases dstAt full g with
  | none => rfl
  | some x => simp only [guardDrawAt]; cases t x <;> rfl
theorem drawK_eq (v : V) : drawK P D pf full os j js t d k v S hist pend = evDraw P D pf full os (j + 1) js (putT t d v) S hist pend k := rfl
end

/-- An operation that goes its way over any memory, and leaves it. -/
def FreeOk (P : Program) (o : Oper) (ρ : Operand → V) (v : V) : Prop := ∀ S, OpStep P o ρ S v S

theorem PureOk.free {P : Program} {o : Oper} {ρ : Operand → V} {v : V} (h : PureOk P o ρ v) : FreeOk P o ρ v := fun S => (h.run S).step

/-- What an operation of such a region does. -/
def Cls (P : Program) (pf : Option FuncId → Bool) (o : Oper) (ρ : Operand → V) (v : V) (st : Nat → List Blk) (i j J n : Nat) : Prop :=
  (FreeOk P o ρ v ∧ st (j + 1) = st j ∧ isFixed pf o.op = false) ∨
  (∃ b : Nat, isFixed pf o.op = false ∧ st (j + 1) = st j ∧ (∀ S2, S2[b]? = (st j)[b]? → RunOk P o ρ S2 v S2) ∧ (∀ m, i ≤ m → m ≤ j → (st m)[b]? = (st j)[b]?) ∧ ∀ m, j < m → m < J → m < n → (st (m + 1))[b]? = (st m)[b]?) ∨
  (isFixed pf o.op = true ∧ OpStep P o ρ (st j) v (st (j + 1)))

def WantedV (full : List Oper) (o : Oper) (t : Nat → V) (r : Bool) : Prop :=
  (o.guard = none ∧ r = true) ∨ ∃ g want d, o.guard = some (g, want) ∧ dstAt full g = some d ∧ t d = .bool (if r then want else !want)

def GoodAt (P : Program) (pf : Option FuncId → Bool) (full : List Oper) (js : Nat → Nat) (val : Nat → V) (st : Nat → List Blk) (T : Nat → Nat → V) (i n j : Nat) : Prop :=
  ∃ o, full[j]? = some o ∧ T (j + 1) = putT (T j) o.dst (val j) ∧
    ((WantedV full o (T j) true ∧ Cls P pf o (evalT (T j)) (val j) st i j (js j) n) ∨ (WantedV full o (T j) false ∧ val j = .junk ∧ st (j + 1) = st j))

section
variable {P : Program} {D : Nat → TD} {pf : Option FuncId → Bool}

theorem putT_self {t : Nat → V} {d : Nat} {b : Bool} (h : t d = .bool b) : putT t (some d) (.bool b) = t := by
  funext i
  by_cases e : i = d
  · subst e; simp [putT, h]
  · simp [putT, e]

/-- What is known of an operation that stands in one order alone. -/
structure Xtra (P : Program) (o : Oper) (ρ : Operand → V) (J : Nat) (S : List Blk) (v : V) (S' : List Blk) : Prop where
  frame : isFn o.op = true → 999999 < J → S'.length = S.length ∧ ∀ x ∈ o.op.operands, (∃ f, x = .func f) ∨ Cl S.length (ρ x)
  alloc : isAlloc o.op = true → 999999 < J → ∃ cs : List V, cs ≠ [] ∧ (∀ v ∈ cs, Cl 0 v) ∧ v = .ptr S.length 0 ∧ S' = S ++ [.cells 0 cs] ∧ ∀ S2, OpStep P o ρ S2 (.ptr S2.length 0) (S2 ++ [.cells 0 cs])

theorem Xtra.no {P : Program} {o : Oper} {ρ : Operand → V} {J : Nat} {S : List Blk} {v : V} {S' : List Blk} (h1 : isFn o.op = false) (h2 : isAlloc o.op = false) : Xtra P o ρ J S v S' :=
  ⟨fun h => by (rw [h1] at h; cases h), fun h => by (rw [h2] at h; cases h)⟩

theorem clE_mem {n : Nat} : ∀ {xs : List V}, clE n xs → ∀ x ∈ xs, Cl n x
  | v :: r, h, x, hm => by
    rcases List.mem_cons.1 hm with rfl | hm
    · exact h.1
    · exact clE_mem h.2 x hm

theorem constC_cl (v : Value) : Cl 0 (constC v) := by
  unfold constC
  split <;> constructor

theorem zero_cl (hD : TypesOk P D) {t : TypeId} (hkn : ((D t).k matches .none) = false) : ∀ v ∈ (D t).zero, Cl 0 v := by
  intro v hv
  rcases hD.ty t with h | ⟨⟨i, z, _, _, _, _, h, _, _⟩, _⟩
  · rw [h] at hkn; cases hkn
  · rw [← h] at hv
    obtain ⟨c, _, rfl⟩ := List.mem_map.1 hv
    exact constC_cl c

/-- What one operation of such a region comes to. -/
theorem drawOp_ok (hD : TypesOk P D) (o : Oper) {ρ : Operand → V} {j J : Nat} {S : List Blk} {hist : List (List Blk)} {pend : List (Nat × Nat)} {k : V → List Blk → List (List Blk) → List (Nat × Nat) → Prop}
    (h : evDrawOp P D pf o.op ρ j J S hist pend k) : ∃ v S' hist' pend', k v S' hist' pend' ∧
      ((FreeOk P o ρ v ∧ S' = S ∧ isFixed pf o.op = false ∧ hist' = hist ∧ pend' = pend) ∨
       (∃ b : Nat, isFixed pf o.op = false ∧ S' = S ∧ (∀ S2, S2[b]? = S[b]? → RunOk P o ρ S2 v S2) ∧ (S[b]?).isSome = true ∧ histOk b S hist ∧ hist' = hist ∧ pend' = (b, J) :: pend) ∨
       (isFixed pf o.op = true ∧ OpStep P o ρ S v S' ∧ pendOk j S S' pend ∧ hist' = S :: hist ∧ pend' = pend ∧ Xtra P o ρ J S v S')) := by
  unfold evDrawOp at h
  split at h
  · rename_i t a ho
    split at h
    · rename_i b off ha
      obtain ⟨hh, h⟩ := h
      have h2 := h
      unfold evLoad at h
      simp only at h
      split at h
      · rename_i sz cs hS
        obtain ⟨v, hkv, hv⟩ := load_of_part hD h
        refine ⟨v, S, hist, _, hkv, .inr (.inl ⟨b, by simp [ho, isFixed], rfl, fun S2 hS2 => ?_, by simp [hS], hh, rfl, rfl⟩)⟩
        intro G ev w hop hR
        have h1 := hop a (by simp [ho, Op.operands])
        rw [ha] at h1
        generalize hc : ev a = c at h1
        cases h1 with
        | ptr hb hk =>
          obtain ⟨u, hr, hvr⟩ := hv G w (G.blk b) 0 (cells_of_blk hR (by rw [hS2, hS]) hk)
          rw [Nat.zero_add] at hr
          exact ⟨u, w, G, .inl (by simp [execOp, ho, hc, hr]), hvr, hR, Evol.refl _ _ _⟩
      · exact h.elim
    · rename_i x hx
      cases hxx : ρ a with
      | ptr b off => exact absurd hxx (hx b off)
      | eptr e off =>
        rw [hxx] at h
        obtain ⟨v, hkv, hv⟩ := load_of_part hD h.2
        refine ⟨v, S, hist, pend, hkv, .inl ⟨PureOk.free ?_, rfl, by simp [ho, isFixed], rfl, rfl⟩⟩
        intro G ev w hop
        have h1 := hop a (by simp [ho, Op.operands])
        rw [hxx] at h1
        generalize hc : ev a = c at h1
        cases h1 with
        | eptr vs hl hv' ho' hh hp =>
          obtain ⟨u, hr, hvr⟩ := hv G w _ _ (cells_of_eptr hl hv' ho' hh)
          exact ⟨u, by simp [execOp, ho, hc, hr], hvr⟩
      | _ => rw [hxx] at h; exact h.elim
  · rename_i t len parts ho
    split at h
    · rename_i hf
      unfold evFrozen at h
      split at h
      · rename_i e hk
        obtain ⟨g1, g2, g3, g4, g5, g6, g7⟩ := h
        have hb : evBuildSlice D t len (parts.toList.map fun p => (p.1, ρ p.2)) [] fun v S' => True := by
          unfold evBuildSlice
          rw [hk]
          simp only [g6, Bool.false_eq_true, if_false]
          exact ⟨g1, g2, g3, g4, g5, trivial⟩
        refine ⟨_, S, hist, pend, g7, .inl ⟨fun S2 => ?_, rfl, by simp [ho, isFixed, hf], rfl, rfl⟩⟩
        have hb2 : evBuildSlice D t len (parts.toList.map fun p => (p.1, ρ p.2)) S2 fun v S' => v = .rows (some S2.length) ((parts.toList.map fun p => (p.1, ρ p.2)).map fun x => erase1 x.2) ∧ S' = S2 ++ [.right (D e).size] := by
          unfold evBuildSlice
          rw [hk]
          simp only [g6, Bool.false_eq_true, if_false]
          exact ⟨g1, g2, g3, g4, g5, by trivial, by trivial⟩
        obtain ⟨v, S', ⟨rfl, rfl⟩, hrun⟩ := ev_buildSlice hD ho hb2
        refine (RunOk.frozen hrun (fun G w ev hop v hv => ?_)).step
        obtain ⟨x, hx, hvx⟩ := List.mem_flatMap.1 hv
        obtain ⟨y, hy, rfl⟩ := List.mem_map.1 hx
        obtain ⟨p, hp, rfl⟩ := List.mem_map.1 hy
        have h1 := hop p.2 (by simp [ho, Op.operands]; exact ⟨p.1, by simpa using hp⟩)
        exact (erase1_ok h1).cl.cells v hvx
      · exact h.elim
    · rename_i hf
      obtain ⟨v, S', ⟨hp, hk⟩, hst⟩ := ev_op hD o (by rw [ho]; exact h)
      exact ⟨v, S', _, _, hk, .inr (.inr ⟨by simpa [ho, isFixed] using hf, hst, hp, rfl, rfl, .no (by rw [ho]; rfl) (by rw [ho]; rfl)⟩)⟩
  · rename_i t ho
    have hh := h
    unfold evOp at hh
    obtain ⟨g1, g2, g3⟩ := hh
    have hrun := fun S2 => ev_alloc hD ho ρ S2 g1
    unfold alcK at g3
    split at g3
    · obtain ⟨g4, hp, hk⟩ := g3
      refine ⟨_, _, _, _, hk, .inr (.inr ⟨by rw [ho]; rfl, (hrun S).step, hp, rfl, rfl, ⟨fun h => by (rw [ho] at h; cases h), fun _ _ => ⟨_, ?_, zero_cl hD g1, rfl, rfl, fun S2 => (hrun S2).step⟩⟩⟩)⟩
      intro e
      rw [e] at g4
      cases g4
    · rename_i hJ
      obtain ⟨hp, hk⟩ := g3
      exact ⟨_, _, _, _, hk, .inr (.inr ⟨by rw [ho]; rfl, (hrun S).step, hp, rfl, rfl, ⟨fun h => by (rw [ho] at h; cases h), fun _ h => absurd h hJ⟩⟩)⟩
  · rename_i c ho
    split at h
    · rename_i hf
      split at h
      · rename_i f hc
        obtain ⟨v, S', hfr, hst⟩ := ev_op hD o (by rw [ho]; exact h)
        unfold frmK at hfr
        split at hfr
        · obtain ⟨h1, h2, hp, hk⟩ := hfr
          refine ⟨v, S', _, _, hk, .inr (.inr ⟨by rw [ho]; exact hf, hst, hp, rfl, rfl, ⟨fun _ _ => ⟨h1, fun x hx => ?_⟩, fun h => by (rw [ho] at h; cases h)⟩⟩)⟩
          rw [ho] at hx
          rcases (by simpa [Op.operands, Call.operands, hc] using hx : x = .func f ∨ x ∈ c.args) with rfl | hx
          · exact .inl ⟨f, rfl⟩
          · exact .inr (clE_mem h2 _ (List.mem_map.2 ⟨x, by simpa using hx, rfl⟩))
        · rename_i hJ
          obtain ⟨hp, hk⟩ := hfr
          exact ⟨v, S', _, _, hk, .inr (.inr ⟨by rw [ho]; exact hf, hst, hp, rfl, rfl, ⟨fun _ h => absurd h hJ, fun h => by (rw [ho] at h; cases h)⟩⟩)⟩
      · rename_i cal hcal
        obtain ⟨v, S', ⟨hp, hk⟩, hst⟩ := ev_op hD o (by rw [ho]; exact h)
        refine ⟨v, S', _, _, hk, .inr (.inr ⟨by rw [ho]; exact hf, hst, hp, rfl, rfl, .no ?_ (by rw [ho]; rfl)⟩)⟩
        rw [ho]
        unfold isFn
        cases hq : c.callee with
        | value x =>
          cases x with
          | func f => exact absurd hq (hcal f)
          | _ => simp [hq]
        | _ => simp [hq]
    · rename_i hf
      have hf' : isFixed pf o.op = false := by rw [ho]; simpa using hf
      split at h
      · rename_i f hc
        unfold evPure at h
        split at h
        · rename_i g cap hgc
          obtain ⟨x, hx, hq⟩ := h
          refine ⟨x, S, hist, pend, hq, .inl ⟨fun S2 => ?_, rfl, hf', rfl, rfl⟩⟩
          obtain ⟨v, S', ⟨rfl, rfl⟩, hst⟩ := ev_call (ρ := ρ) (S := S2) ho hc (k := fun r S' => r = x ∧ S' = S2) (by unfold evFn; rw [hgc]; exact hx S2)
          exact hst
        · exact h.elim
      · rename_i cal hcal
        unfold evOp at h
        simp only at h
        split at h
        · rename_i f hc; exact absurd hc (hcal f)
        · rename_i b hc
          have arr : ∀ {α : Type} (a : Array α) (l : List α), a.toList = l → a = l.toArray := fun a l h => by rw [← h]
          have pure_ : ∀ {q : V → Prop}, (∃ v, q v ∧ PureOk P o ρ v) → (∀ v, q v → k v S hist pend) → ∃ v S' hist' pend', k v S' hist' pend' ∧
              ((FreeOk P o ρ v ∧ S' = S ∧ isFixed pf o.op = false ∧ hist' = hist ∧ pend' = pend) ∨
               (∃ b : Nat, isFixed pf o.op = false ∧ S' = S ∧ (∀ S2, S2[b]? = S[b]? → RunOk P o ρ S2 v S2) ∧ (S[b]?).isSome = true ∧ histOk b S hist ∧ hist' = hist ∧ pend' = (b, J) :: pend) ∨
               (isFixed pf o.op = true ∧ OpStep P o ρ S v S' ∧ pendOk j S S' pend ∧ hist' = S :: hist ∧ pend' = pend ∧ Xtra P o ρ J S v S')) := by
            rintro q ⟨v, hq, hv⟩ hk
            exact ⟨v, S, hist, pend, hk v hq, .inl ⟨hv.free, rfl, hf', rfl, rfl⟩⟩
          unfold evBuiltin at h
          split at h
          · rename_i t ts x hts hxs
            obtain ⟨y, hy, rfl⟩ : ∃ y, c.args = #[y] ∧ ρ y = x := by
              cases hq : c.args.toList with
              | nil => rw [hq] at hxs; cases hxs
              | cons y l => rw [hq] at hxs; simp at hxs; obtain ⟨rfl, rfl⟩ := hxs; exact ⟨y, arr _ _ hq, rfl⟩
            exact pure_ (ev_len hD ho hc ⟨ts, hts⟩ hy h) (fun _ hq => hq)
          · simp [ho, isFixed, hc] at hf
          · rename_i x y hxs
            obtain ⟨p, q, hy, rfl, rfl⟩ : ∃ p q, c.args = #[p, q] ∧ ρ p = x ∧ ρ q = y := by
              cases hq : c.args.toList with
              | nil => rw [hq] at hxs; cases hxs
              | cons y l =>
                rw [hq] at hxs
                cases l with
                | nil => simp at hxs
                | cons z l => simp at hxs; obtain ⟨rfl, rfl, rfl⟩ := hxs; exact ⟨y, z, arr _ _ hq, rfl, rfl⟩
            exact pure_ (ev_min ho hc hy h) (fun _ hq => hq)
          · rename_i x y z hxs
            obtain ⟨p, q, r, hy, rfl, rfl, rfl⟩ : ∃ p q r, c.args = #[p, q, r] ∧ ρ p = x ∧ ρ q = y ∧ ρ r = z := by
              cases hq : c.args.toList with
              | nil => rw [hq] at hxs; cases hxs
              | cons y l =>
                rw [hq] at hxs
                cases l with
                | nil => simp at hxs
                | cons z l =>
                  cases l with
                  | nil => simp at hxs
                  | cons u l => simp at hxs; obtain ⟨rfl, rfl, rfl, rfl⟩ := hxs; exact ⟨y, z, u, arr _ _ hq, rfl, rfl, rfl⟩
            exact pure_ (ev_min3 ho hc hy h) (fun _ hq => hq)
          · rename_i x y hxs
            obtain ⟨p, q, hy, rfl, rfl⟩ : ∃ p q, c.args = #[p, q] ∧ ρ p = x ∧ ρ q = y := by
              cases hq : c.args.toList with
              | nil => rw [hq] at hxs; cases hxs
              | cons y l =>
                rw [hq] at hxs
                cases l with
                | nil => simp at hxs
                | cons z l => simp at hxs; obtain ⟨rfl, rfl, rfl⟩ := hxs; exact ⟨y, z, arr _ _ hq, rfl, rfl⟩
            exact pure_ (ev_max ho hc hy h) (fun _ hq => hq)
          · exact h.elim
        · exact h.elim
  · rename_i op hnl hnb hna hnc
    split at h
    · rename_i hf
      obtain ⟨v, S', ⟨hp, hk⟩, hst⟩ := ev_op hD o h
      refine ⟨v, S', _, _, hk, .inr (.inr ⟨hf, hst, hp, rfl, rfl, .no ?_ ?_⟩)⟩
      · unfold isFn
        split
        · rename_i c ho; exact absurd ho (hnc c)
        · rfl
      · unfold isAlloc
        split
        · rename_i t ho; exact absurd ho (hna t)
        · rfl
    · rename_i hf
      have hf' : isFixed pf o.op = false := by simpa using hf
      have pure_ : ∀ {q : V → Prop}, (∃ v, q v ∧ PureOk P o ρ v) → (∀ v, q v → k v S hist pend) → ∃ v S' hist' pend', k v S' hist' pend' ∧
          ((FreeOk P o ρ v ∧ S' = S ∧ isFixed pf o.op = false ∧ hist' = hist ∧ pend' = pend) ∨
           (∃ b : Nat, isFixed pf o.op = false ∧ S' = S ∧ (∀ S2, S2[b]? = S[b]? → RunOk P o ρ S2 v S2) ∧ (S[b]?).isSome = true ∧ histOk b S hist ∧ hist' = hist ∧ pend' = (b, J) :: pend) ∨
           (isFixed pf o.op = true ∧ OpStep P o ρ S v S' ∧ pendOk j S S' pend ∧ hist' = S :: hist ∧ pend' = pend ∧ Xtra P o ρ J S v S')) := by
        rintro q ⟨v, hq, hv⟩ hk
        exact ⟨v, S, hist, pend, hk v hq, .inl ⟨hv.free, rfl, hf', rfl, rfl⟩⟩
      unfold evOp at h
      split at h
      · rename_i x ho; exact pure_ ⟨_, h, ev_move (.inl ho) ρ⟩ (fun _ hq => hq)
      · rename_i x ho; exact pure_ ⟨_, h, ev_move (.inr ho) ρ⟩ (fun _ hq => hq)
      · rename_i c a b ho
        split at h
        · rename_i t hc
          refine pure_ (q := fun v => k v S hist pend) ⟨_, ?_, ev_pick ho ρ t hc⟩ (fun _ hq => hq)
          cases t
          · exact h.2 rfl
          · exact h.1 rfl
        · exact h.elim
      · rename_i t ho; simp [ho, isFixed] at hf
      · rename_i t x ho; simp [ho, isFixed] at hf
      · rename_i t parts ho; exact pure_ (ev_build hD ho h) (fun _ hq => hq)
      · rename_i t len parts ho; exact absurd ho (hnb t len parts)
      · rename_i t a ho; exact absurd ho (hnl t a)
      · rename_i t a x ho; simp [ho, isFixed] at hf
      · rename_i x ho; exact pure_ (ev_nil ho h) (fun _ hq => hq)
      · rename_i op t x y u ho; exact pure_ (ev_bin hD ho h) (fun _ hq => hq)
      · rename_i op t x ho; exact pure_ (ev_un ho h) (fun _ hq => hq)
      · rename_i src dst x ho; exact pure_ (ev_conv hD ho h) (fun _ hq => hq)
      · rename_i fn first captured ho; exact pure_ (ev_makeFunc ho h) (fun _ hq => hq)
      · rename_i t l c ho; simp [ho, isFixed] at hf
      · rename_i t x lo hi ho; exact pure_ (ev_slice hD ho h) (fun _ hq => hq)
      · rename_i t x f ho; exact pure_ (ev_fieldAddr hD ho h) (fun _ hq => hq)
      · rename_i t x f ho; exact pure_ (ev_field hD ho h) (fun _ hq => hq)
      · rename_i t x i ho; exact pure_ (ev_indexAddr hD ho h) (fun _ hq => hq)
      · rename_i t x i ho; exact pure_ (ev_index hD ho h) (fun _ hq => hq)
      · rename_i x i ho; exact pure_ (ev_extract ho h) (fun _ hq => hq)
      · rename_i c ho; exact absurd ho (hnc c)
      · exact h.elim

end
end Go.Proofs.Ytblbaniokmgjgaa
