/- A part of the proof: contracts of functions, or plain facts on which these lean. -/
import Derived.Test.YtodjmflbakfmjaaGreatDoorMa28
import Derived.Test.YtodjmflbakfmjaaGreatDoorMa36
import Derived.Test.YtodjmflbakfmjaaGreatDoorMa38
namespace Go.Proofs.YtodjmflbakfmjaaGreatDoor
open Go
set_option linter.unusedVariables false
set_option linter.unusedSimpArgs false
set_option maxRecDepth 100000
set_option maxHeartbeats 16000000

section
open Go
theorem lkStream_self (s : St) (hb : StB s) (S : List Blk) : VCall Tryz.prog 55 [stV s, stV s] S fun r S' => r = .bool true ∧ S' = S := by
 have h1 := hb.head.1
 have h2 := hb.got.1
 refine VCall.en hD Tryz.func55 Tryz.ntmps55 Tryz.results55 ?_
 simp -implicitDefEqProofs (disch := omega) only [push_cast, simprocAttr, decide_true, Bool.and_self, ↓gd]
 refine ((lkFields_self s.head h1 _).as rfl).to ?_
 simp -implicitDefEqProofs (disch := omega) only [push_cast, simprocAttr, ↓gd]
 refine ((lkFields_self s.got h2 _).as rfl).to ?_
 simp -implicitDefEqProofs (disch := omega) only [push_cast, simprocAttr, ↓gd]
 exact fin1 (.bool _) rfl
theorem lkFrames_self (l : List Fr) (hl : l.length ≤ 1000000) {S : List Blk} {b c : Nat} (hb : S[b]? = some (.cells 4 (frmsC l))) (hc : S[c]? = some (.cells 4 (frmsC l))) : VCall Tryz.prog 57 [.heap b l.length, .heap c l.length] S fun r S' => r = .bool true ∧ S' = S := by
 have hlw := frmsC_len l
 refine VCall.ex hDe (fun _ => false) (fun id => if id = 6 then [9, 9, 9, 9, 9, 9, 9, 9, 9] else []) Tryz.func57 Tryz.ntmps57 Tryz.results57 ?_
 simp -implicitDefEqProofs (disch := omega) only [push_cast, simprocAttr, ↓gd]
 refine wpV_loop (fun m t S' => ∃ i : Nat, m = l.length - i ∧ i ≤ l.length ∧ t 0 = .heap b l.length ∧ t 1 = .heap c l.length ∧ t 5 = .int .i64 i ∧ S' = S) l.length ⟨0, by omega, by omega, rfl, rfl, rfl, rfl⟩ ?_
 rintro m t S' ⟨i, rfl, hi, h0, h1, h5, rfl⟩
 refine wpV_of hDe (fun _ => false) (fun id => if id = 6 then [9, 9, 9, 9, 9, 9, 9, 9, 9] else []) (by kernel_rfl) ?_
 simp -implicitDefEqProofs (disch := omega) only [push_cast, simprocAttr, h0, h1, h5, ↓gd]
 refine ⟨fun h => ?_, fun h => ?_⟩
 ·have hil : i < l.length := by omega
  have hat := frmsC_at hil
  simp -implicitDefEqProofs (disch := omega) only [push_cast, simprocAttr, h0, h1, h5, hb, hc, hat, decide_true, Bool.and_self, ↓gd]
  exact ⟨by omega, by omega, by omega, by omega, by omega, by omega, l.length - (i + 1), by omega, i + 1, rfl, by omega, by simp⟩
 ·exact fin0 rfl
theorem lkEnd_self {e : En} (he : EnB e) {S : List Blk} {b c d f : Nat} (h1 : EnAt S b c e) (h2 : EnAt S d f e) : VCall Tryz.prog 29 [eV b c e, eV d f e] S fun r S' => r = .bool true ∧ S' = S := by
 have hel := he.len
 have hwl := he.wait
 have lb := lt_of_some h1.1
 have lc := lt_of_some h1.2
 have ld := lt_of_some h2.1
 have lf := lt_of_some h2.2
 have hb := h1.1
 have hd := h2.1
 have hlen := strsC_len e.strs
 have ho := he.out.1
 have hi := he.inn.1
 refine VCall.ex hDe (fun _ => false) (fun id => if id = 6 then [10, 10, 10, 10, 10, 10, 10, 10, 10, 10, 12, 12] else []) Tryz.func29 Tryz.ntmps29 Tryz.results29 ?_
 simp -implicitDefEqProofs (disch := omega) only [push_cast, simprocAttr, decide_true, Bool.and_self, ↓gd]
 refine wpV_loop (fun m t S' => ∃ i : Nat, m = e.strs.length - i ∧ i ≤ e.strs.length ∧ t 2 = .ptr S.length 0 ∧ t 3 = .ptr (S.length + 1) 0 ∧ t 5 = .int .i64 i ∧ S' = S ++ [.cells 0 (enC (.heap b e.strs.length) (.heap c e.wait.length) e), .cells 0 (enC (.heap d e.strs.length) (.heap f e.wait.length) e)]) e.strs.length ⟨0, by omega, by omega, rfl, rfl, rfl, rfl⟩ ?_
 rintro m t S' ⟨i, rfl, hi', h2', h3, h5, rfl⟩
 refine wpV_of hDe (fun _ => false) (fun id => if id = 6 then [10, 10, 10, 10, 10, 10, 10, 10, 10, 10, 12, 12] else []) (by kernel_rfl) ?_
 by_cases hil : i < e.strs.length
 ·have hil' : (i : Int) < e.strs.length := by omega
  have hat := strsC_at hil
  simp -implicitDefEqProofs (disch := omega) only [push_cast, simprocAttr, h2', h3, h5, hil', hb, hd, hat, ↓gd]
  repeat refine And.intro (by omega) ?_
  refine ((lkStream_self (e.strs.getD i st0) (he.sts _ (getD_memS hil)) _).as (by simp [stV, strC])).to ?_
  simp -implicitDefEqProofs (disch := omega) only [push_cast, simprocAttr, h2', h3, h5, ↓gd]
  exact ⟨e.strs.length - (i + 1), by omega, i + 1, rfl, by omega, by simp⟩
 ·have : i = e.strs.length := by omega
  subst this
  have hil' : ¬ ((e.strs.length : Nat) : Int) < e.strs.length := by omega
  simp -implicitDefEqProofs (disch := omega) only [push_cast, simprocAttr, h2', h3, h5, hil', ↓gd]
  refine ((lkTable_self e.out e.outM ho _).as rfl).to ?_
  simp -implicitDefEqProofs (disch := omega) only [push_cast, simprocAttr, h2', h3, h5, ↓gd]
  refine ((lkTable_self e.inn e.innM hi _).as rfl).to ?_
  simp -implicitDefEqProofs (disch := omega) only [push_cast, simprocAttr, h2', h3, h5, ↓gd]
  refine ((lkFrames_self e.wait hwl (b := c) (c := f) (S := _) ?_ ?_).as rfl).to ?_
  ·rw [List.getElem?_append_left lc]; exact h1.2
  ·rw [List.getElem?_append_left lf]; exact h2.2
  simp -implicitDefEqProofs (disch := omega) only [push_cast, simprocAttr, ↓gd]
  exact fin1 (.bool _) rfl
theorem lkWorld_self {w : Wo} (hB : WoB w) {S : List Blk} {b c d f b' c' d' f' : Nat} (h1 : WoAt S b c d f w) (h2 : WoAt S b' c' d' f' w) : VCall Tryz.prog 18 [wV b c d f w, wV b' c' d' f' w] S fun r S' => r = .bool true ∧ S' = S := by
 refine VCall.en hDe Tryz.func18 Tryz.ntmps18 Tryz.results18 ?_
 simp -implicitDefEqProofs (disch := omega) only [push_cast, simprocAttr, ↓gd]
 refine ((lkEnd_self hB.caller (h1.caller.app _) (h2.caller.app _)).as (by simp [eV, enV, enC])).to ?_
 simp -implicitDefEqProofs (disch := omega) only [push_cast, simprocAttr, ↓gd]
 refine ((lkEnd_self hB.answerer (h1.answerer.app _) (h2.answerer.app _)).as (by simp [eV, enV, enC])).to ?_
 simp -implicitDefEqProofs (disch := omega) only [push_cast, simprocAttr, decide_true, Bool.and_self, ↓gd]
 exact fin1 (.bool _) rfl
end
section
def more0 : List Fr → Nat
 | [] => 0
 | f :: l => (if f.kind = 8 ∧ f.stream = 0 then byteAt f.body 0 else 0) + more0 l
theorem more0_app : ∀ l k : List Fr, more0 (l ++ k) = more0 l + more0 k
 | [], k => by simp [more0]
 | f :: l, k => by simp only [List.cons_append, more0, more0_app l k]; omega
def gone : List St → Nat
 | [] => 0
 | s :: l => (if s.state = 3 then 1 else 0) + gone l
theorem gone_app : ∀ l k : List St, gone (l ++ k) = gone l + gone k
 | [], k => by simp [gone]
 | f :: l, k => by simp only [List.cons_append, gone, gone_app l k]; omega
theorem gone_le : ∀ l : List St, gone l ≤ l.length
 | [] => by simp [gone]
 | s :: l => by have := gone_le l; simp only [gone, List.length_cons]; split <;> omega
theorem gone_set : ∀ (l : List St) (k : Nat) (s : St), ((l.getD k st0).state = 3 → s.state = 3) → gone l ≤ gone (l.set k s)
 | [], k, s, _ => by simp
 | a :: l, 0, s, hs => by
  have h : a.state = 3 → s.state = 3 := hs
  simp only [List.set_cons_zero, gone]
  by_cases q : a.state = 3
  ·rw [if_pos q, if_pos (h q)]; exact Nat.le_refl _
  ·rw [if_neg q]; split <;> omega
 | a :: l, k + 1, s, hs => by
  have := gone_set l k s (by simpa using hs)
  simp only [List.set_cons_succ, gone]; omega
theorem gone_more : ∀ (l : List St) (k : Nat) (s : St), k < l.length → (l.getD k st0).state ≠ 3 → s.state = 3 → gone (l.set k s) = gone l + 1
 | [], k, s, h, _, _ => by simp at h
 | a :: l, 0, s, _, hs, h3 => by
  have h : a.state ≠ 3 := hs
  simp only [List.set_cons_zero, gone, if_neg h, if_pos h3]; omega
 | a :: l, k + 1, s, h, hs, h3 => by
  have := gone_more l k s (by simpa using h) (by simpa using hs) h3
  simp only [List.set_cons_succ, gone]; omega
structure Loc (e : En) : Prop where
 sum : e.room + more0 e.wait = 16
 len : e.wait.length ≤ 2 * more0 e.wait + gone e.strs
 four : e.strs.length ≤ 4
theorem Loc.wait {e : En} (h : Loc e) (hr : 0 ≤ e.room) : e.wait.length ≤ 36 := by
 have := h.sum; have := h.len; have := h.four; have := gone_le e.strs; omega
theorem Loc.setSt {e : En} {k : Nat} {s : St} (h : Loc e) (hs : (stAt e k).state = 3 → s.state = 3) : Loc (setSt e k s) :=
 ⟨h.sum, Nat.le_trans h.len (Nat.add_le_add_left (gone_set e.strs k s hs) _), Nat.le_trans (Nat.le_of_eq (List.length_set ..)) h.four⟩
theorem Loc.bad {e : En} (h : Loc e) : Loc (badM e) := ⟨h.sum, h.len, h.four⟩
theorem loc_new (a : Bool) : Loc (newEn a) := ⟨rfl, by simp [newEn], by simp [newEn]⟩
theorem callM_loc {e : En} (h : Loc e) (p t : List UInt8) : Loc (callM e p t).1 := by
 unfold callM
 split
 ·exact h
 ·rename_i hc
  have h2 : ¬ 2 * (e.strs.length : Int) + 1 > 7 := fun q => hc (.inr (.inl q))
  refine ⟨h.sum, ?_, by simp; omega⟩
  have := h.len
  simp only [gone_app]; omega
theorem leaveM_loc {e : En} (h : Loc e) (id : Int) : Loc (leaveM e id).1 := by
 unfold leaveM
 split
 ·exact h
 ·rename_i k hk
  obtain ⟨h1, h2⟩ := atM_some hk
  split
  ·exact h
  ·rename_i hc
   have hs : (stAt e k).state = 1 := by simpa using fun q => hc (.inr q)
   have hg := gone_more e.strs k { stAt e k with state := 3 } h1 (by show (stAt e k).state ≠ 3; rw [hs]; decide) rfl
   have := h.len
   have := h.sum
   refine ⟨?_, ?_, by simpa [setSt] using h.four⟩
   ·show e.room + more0 (if _ then _ else _) = 16
    split
    ·rw [more0_app]; simpa [more0] using h.sum
    ·exact h.sum
   ·show (if _ then _ else _ : List Fr).length ≤ 2 * more0 (if _ then _ else _) + gone (e.strs.set k _)
    rw [hg]
    split
    ·rw [more0_app]; simp [more0]; omega
    ·omega
theorem beginM_keeps (e : En) (s : St) : (beginM e s).1.room = e.room ∧ (beginM e s).1.wait = e.wait ∧ (beginM e s).1.strs = e.strs ∧ (beginM e s).2.1.state = s.state := by unfold beginM; split <;> exact ⟨rfl, rfl, rfl, rfl⟩
theorem pieceM_keeps (e : En) (s : St) : (pieceM e s).1.room = e.room ∧ (pieceM e s).1.wait = e.wait ∧ (pieceM e s).1.strs = e.strs ∧ (pieceM e s).2.1.state = s.state := by unfold pieceM; split <;> exact ⟨rfl, rfl, rfl, rfl⟩
theorem sayM_room (e : En) (k : Nat) : (sayM e k).1.room = e.room ∧ (sayM e k).1.wait = e.wait ∧ (sayM e k).1.strs.length = e.strs.length ∧ gone e.strs ≤ gone (sayM e k).1.strs := by
 unfold sayM
 simp only
 split
 ·exact ⟨rfl, rfl, rfl, Nat.le_refl _⟩
 ·rename_i hc
  have hs : (stAt e k).state = 1 := by simpa using fun q => hc (.inl q)
  obtain ⟨b1, b2, b3, b4⟩ := beginM_keeps e (stAt e k)
  obtain ⟨c1, c2, c3, c4⟩ := pieceM_keeps (beginM e (stAt e k)).1 (beginM e (stAt e k)).2.1
  refine ⟨c1.trans b1, c2.trans b2, by simp [setSt, c3, b3], ?_⟩
  simp only [setSt, c3, b3]
  refine gone_set _ _ _ (fun q => ?_)
  exact absurd (hs.symm.trans q) (by decide)
theorem saysM_room : ∀ (n k : Nat) (e : En), (saysM n k e).1.room = e.room ∧ (saysM n k e).1.wait = e.wait ∧ (saysM n k e).1.strs.length = e.strs.length ∧ gone e.strs ≤ gone (saysM n k e).1.strs
 | 0, k, e => ⟨rfl, rfl, rfl, Nat.le_refl _⟩
 | n + 1, k, e => by
  obtain ⟨a1, a2, a3, a4⟩ := sayM_room e k
  obtain ⟨b1, b2, b3, b4⟩ := saysM_room n (k + 1) (sayM e k).1
  exact ⟨b1.trans a1, b2.trans a2, b3.trans a3, Nat.le_trans a4 b4⟩
theorem roomM_room (e : En) (f : Fr) (h : e.room + more0 [f] ≤ 31) : (roomM e f).room = e.room + more0 [f] ∧ (roomM e f).strs.length = e.strs.length ∧ gone e.strs ≤ gone (roomM e f).strs := by
 unfold roomM
 split
 ·rename_i h8
  refine ⟨?_, rfl, Nat.le_refl _⟩
  simp [more0, h8]
 ·rename_i h8
  have h8 : f.kind = 8 := by simpa using h8
  split
  ·rename_i h0
   refine ⟨?_, rfl, Nat.le_refl _⟩
   simp only [more0, h8, h0, and_self, if_true, Nat.add_zero] at h ⊢
   omega
  ·rename_i h0
   have e0 : more0 [f] = 0 := by simp [more0, h0]
   rw [e0]
   split
   ·exact ⟨by simp, rfl, Nat.le_refl _⟩
   ·rename_i k hk
    exact ⟨by simp [setSt], by simp [setSt], gone_set _ _ _ (fun q => q)⟩
theorem waitM_room : ∀ (l : List Fr) (e : En), e.room + more0 l ≤ 31 → (waitM e l).1.room = e.room + more0 l ∧ (waitM e l).1.strs.length = e.strs.length ∧ gone e.strs ≤ gone (waitM e l).1.strs
 | [], e, h => ⟨by simp [waitM, more0], rfl, Nat.le_refl _⟩
 | f :: l, e, h => by
  have hm : more0 (f :: l) = more0 [f] + more0 l := by simp [more0]
  obtain ⟨a1, a2, a3⟩ := roomM_room e f (by omega)
  obtain ⟨b1, b2, b3⟩ := waitM_room l (roomM e f) (by omega)
  exact ⟨by show (waitM (roomM e f) l).1.room = _; omega, b2.trans a2, Nat.le_trans a3 b3⟩
theorem writeM_loc {e : En} (h : Loc e) : Loc (writeM e).1 ∧ (writeM e).1.wait = [] := by
 obtain ⟨a1, a2, a3⟩ := waitM_room e.wait e (by have := h.sum; omega)
 obtain ⟨b1, b2, b3, b4⟩ := saysM_room e.strs.length 0 { (waitM e e.wait).1 with wait := [] }
 have hw : (writeM e).1 = (saysM e.strs.length 0 { (waitM e e.wait).1 with wait := [] }).1 := rfl
 rw [hw]
 refine ⟨⟨?_, ?_, ?_⟩, b2⟩
 ·rw [b1, b2]; simp only [more0]; have := h.sum; simp only [a1]; omega
 ·rw [b2]; simp [more0]
 ·rw [b3]; simp only [a2]; exact h.four
theorem doneM_state (ans : Bool) (s : St) (h : s.state = 3) : (doneM ans s).state = 3 := by unfold doneM; rw [if_pos (by rw [h]; decide)]; exact h
theorem growM_loc {N : Nat} {e : En} (h : Loc e) (hw : EnW N e) {id : Int} (hid : strmOk id = true) : Loc (growM e id) := by
 have hg := growM_w hw hid
 have h4 := stsOk_len hg.sts
 revert h4
 unfold growM
 split
 ·intro h4
  refine ⟨h.sum, ?_, h4⟩
  have := h.len
  simp only [gone_app]; omega
 ·intro _; exact h
theorem headFM_loc {N : Nat} {e : En} (h : Loc e) (hw : EnW N e) {f : Fr} (hid : strmOk f.stream = true) : Loc (headFM e f) := by
 unfold headFM
 have hg := growM_loc h hw hid
 simp only
 split
 ·rename_i t hd k hr hk
  split
  ·exact hg.bad
  ·have hw : Loc { growM e f.stream with inn := t } := ⟨hg.sum, hg.len, hg.four⟩
   refine hw.setSt (fun q => ?_)
   split
   ·exact doneM_state _ _ q
   ·exact q
 ·exact hg.bad
theorem dataM_loc {N : Nat} {e : En} (h : Loc e) (hw : EnW N e) {f : Fr} : Loc (dataM e f) := by
 unfold dataM
 split
 ·exact h.bad
 ·rename_i k hk
  obtain ⟨h1, h2⟩ := atM_some hk
  simp only
  split
  ·exact h.bad
  ·rename_i hc
   have c1 : ¬ (f.body.length : Int) > e.room := fun q => hc (.inr (.inr (.inl q)))
   have hf := flowOk_iff.1 hw.flow
   have hs := (stOk_iff.1 (hw.st h1)).1
   have hi : (stAt e k).id ≠ 0 := by rcases strmOk_cases hs with q | q | q | q <;> rw [q] <;> decide
   have hb : byteAt [by8 f.body.length] 0 = f.body.length := by8_toNat (by omega)
   have := h.sum
   have := h.len
   have hl : Loc { e with room := e.room - f.body.length, wait := if f.body = [] then e.wait else e.wait ++ [⟨8, false, 0, [by8 f.body.length]⟩, ⟨8, false, (stAt e k).id, [by8 f.body.length]⟩] } := by
    by_cases hne : f.body = []
    ·rw [if_pos hne]; rw [hne]; exact ⟨by simpa using h.sum, h.len, h.four⟩
    ·rw [if_neg hne]
     have hpos := List.length_pos_iff.2 hne
     have hm : more0 (e.wait ++ [⟨8, false, 0, [by8 f.body.length]⟩, ⟨8, false, (stAt e k).id, [by8 f.body.length]⟩]) = more0 e.wait + f.body.length := by
      rw [more0_app]; simp [more0, hi, hb]
     refine ⟨?_, ?_, h.four⟩
     ·simp only [hm]; omega
     ·simp only [hm]; rw [List.length_append]; simp only [List.length_cons, List.length_nil]; omega
   refine hl.setSt (fun q => ?_)
   split
   ·exact doneM_state _ _ q
   ·exact q
theorem moreM_loc {e : En} (h : Loc e) {f : Fr} : Loc (moreM e f) := by
 unfold moreM
 split
 ·exact ⟨h.sum, h.len, h.four⟩
 ·split
  ·exact h.bad
  ·rename_i k hk
   have hw : Loc { e with bad := e.bad || decide ((stAt e k).send + byteAt f.body 0 > 31) } := ⟨h.sum, h.len, h.four⟩
   exact hw.setSt (fun q => q)
theorem frameM_loc {N : Nat} {e : En} (h : Loc e) (hw : EnW N e) {f : Fr} (hf : frameOk f = true) : Loc (frameM e f) := by
 unfold frameM
 split
 ·rename_i h1
  unfold frameOk at hf
  rw [if_pos (.inr h1)] at hf
  simp only [Bool.and_eq_true, decide_eq_true_eq] at hf
  exact headFM_loc h hw hf.1
 ·split
  ·exact dataM_loc h hw
  ·split
   ·exact moreM_loc h
   ·split
    ·exact h.bad
    ·split
     ·exact h.bad
     ·exact h.setSt (fun _ => rfl)
theorem hearsM_loc : ∀ (n N : Nat) (e : En), EnW N e → Loc e → Loc (hearsM n e)
 | 0, N, e, _, h => h
 | n + 1, N, e, hw, h => by
  unfold hearsM
  split
  ·exact h
  ·simp only
   split
   ·exact h.bad
   ·split
    ·exact h
    ·rename_i h1 h2
     obtain ⟨g1, g2, g3, g4⟩ := frR_some (b := e.came) (by omega)
     have hc := hw.withCame (c := e.came.drop (frR e.came).2.1) (by have := hw.came; rw [List.length_drop]; omega)
     have hl : Loc { e with came := e.came.drop (frR e.came).2.1 } := ⟨h.sum, h.len, h.four⟩
     exact hearsM_loc n (N + 2) _ (frameM_w hc g1) (frameM_loc hl hc g1)
theorem hearM_loc {N : Nat} {e : En} (hw : EnW N e) (h : Loc e) {b : List UInt8} (hb : e.came.length + b.length ≤ 600) : Loc (hearM e b) :=
 hearsM_loc _ N _ (hw.withCame (by rw [List.length_append]; omega)) ⟨h.sum, h.len, h.four⟩
theorem hearWM_loc {N : Nat} {e : En} (hw : EnW N e) (h : Loc e) (b : List UInt8) : Loc (hearWM e b) := by
 unfold hearWM
 split
 ·exact h
 ·rename_i hc
  have : ¬ e.came.length + b.length > 300 := fun q => hc (.inr (.inl q))
  exact hearM_loc hw h (by omega)
theorem Loc.w {N : Nat} {e : En} (h : Loc e) (hw : EnW N e) : EnW 36 e := ⟨hw.sts, hw.wait, hw.out, hw.inn, hw.flow, hw.came, h.wait (flowOk_iff.1 hw.flow).2.2.1⟩
structure WoL (w : Wo) : Prop where
 caller : Loc w.caller
 answerer : Loc w.answerer
theorem WoL.w {N : Nat} {w : Wo} (h : WoL w) (hw : WoW N w) : WoW 36 w := ⟨h.caller.w hw.caller, h.answerer.w hw.answerer, hw.calls, hw.answers, hw.up, hw.down⟩
theorem sayWM_loc {w : Wo} (h : WoL w) (side : Int) : WoL (sayWM w side) := by
 unfold sayWM
 split
 ·split
  ·exact ⟨(writeM_loc h.caller).1, h.answerer⟩
  ·exact h
 ·split
  ·split
   ·exact ⟨h.caller, (writeM_loc h.answerer).1⟩
   ·exact h
  ·exact h
theorem passM_loc {N : Nat} {w : Wo} (hw : WoW N w) (h : WoL w) (way n : Int) : WoL (passM w way n) := by
 unfold passM
 split
 ·split
  ·exact ⟨h.caller, hearWM_loc hw.answerer h.answerer _⟩
  ·split
   ·exact ⟨hearWM_loc hw.caller h.caller _, h.answerer⟩
   ·exact h
 ·exact h
theorem doM_loc {N : Nat} {w : Wo} (hw : WoW N w) (h : WoL w) (v : Ev) : WoL (doM w v) := by
 unfold doM
 split
 ·exact ⟨callM_loc h.caller _ _, h.answerer⟩
 ·split
  ·exact ⟨leaveM_loc h.caller _, h.answerer⟩
  ·split
   ·exact sayWM_loc h _
   ·split
    ·exact passM_loc hw h _ _
    ·exact h
theorem doM_all {w : Wo} (hw : WoW 36 w) (h : WoL w) (v : Ev) : WoW 36 (doM w v) ∧ WoL (doM w v) := by
 have h1 := doM_loc hw h v
 exact ⟨h1.w (doM_w (hw.mono (show 36 ≤ 642 by decide)) (Nat.le_refl _) v), h1⟩
theorem play_all : ∀ (l : List Ev) (w : Wo), WoW 36 w → WoL w → WoW 36 (l.foldl doM w) ∧ WoL (l.foldl doM w)
 | [], w, hw, h => ⟨hw, h⟩
 | v :: l, w, hw, h => by
  obtain ⟨a, b⟩ := doM_all hw h v
  exact play_all l (doM w v) a b
theorem playM_all (l : List Ev) : WoW 36 (playM l) ∧ WoL (playM l) := play_all l newWo (newWo_w.mono (by decide)) ⟨loc_new _, loc_new _⟩
theorem WoW.ok {w : Wo} (h : WoW 36 w) : woOk w = true := woOk_iff.2 (h.mono (by decide))
end
section
def Inc (e : En) : Prop := e.bad = true ∨ (frR e.came).2.2 = 0
theorem hearsM_stops : ∀ (n : Nat) (e : En), e.came.length < n → Inc (hearsM n e)
 | 0, e, h => absurd h (Nat.not_lt_zero _)
 | n + 1, e, h => by
  unfold hearsM
  split
  ·rename_i hb; exact .inl hb
  ·simp only
   split
   ·exact .inl rfl
   ·split
    ·rename_i h0; exact .inr h0
    ·rename_i h1 h2
     obtain ⟨g1, g2, g3, g4⟩ := frR_some (b := e.came) (by omega)
     refine hearsM_stops n _ ?_
     rw [frameM_came]
     simp only [List.length_drop]; omega
theorem hearM_inc (e : En) (b : List UInt8) : Inc (hearM e b) := hearsM_stops _ _ (by simp)
theorem hearWM_inc {e : En} (h : Inc e) (b : List UInt8) : Inc (hearWM e b) := by
 unfold hearWM
 split
 ·exact h
 ·exact hearM_inc e b
theorem hearsM_idle {e : En} (h : Inc e) : ∀ n, hearsM n e = e
 | 0 => rfl
 | n + 1 => by
  unfold hearsM
  rcases h with h | h
  ·rw [if_pos h]
  ·split
   ·rfl
   ·simp only
    rw [if_neg (by omega), if_pos h]
theorem hearM_idle {e : En} (h : Inc e) : hearM e [] = e := by
 unfold hearM
 simp only [List.append_nil]
 exact hearsM_idle h _
theorem hearWM_idle {e : En} (h : Inc e) : hearWM e [] = e := by
 unfold hearWM
 split
 ·rfl
 ·exact hearM_idle h
theorem saysM_cb : ∀ (n k : Nat) (e : En), (saysM n k e).1.came = e.came ∧ (saysM n k e).1.bad = e.bad
 | 0, k, e => ⟨rfl, rfl⟩
 | n + 1, k, e => by
  obtain ⟨b1, b2⟩ := saysM_cb n (k + 1) (sayM e k).1
  have a : (sayM e k).1.came = e.came ∧ (sayM e k).1.bad = e.bad := by
   unfold sayM
   simp only
   split
   ·exact ⟨rfl, rfl⟩
   ·have h1 : ∀ x s, (beginM x s).1.came = x.came ∧ (beginM x s).1.bad = x.bad := fun x s => by unfold beginM; split <;> exact ⟨rfl, rfl⟩
    have h2 : ∀ x s, (pieceM x s).1.came = x.came ∧ (pieceM x s).1.bad = x.bad := fun x s => by unfold pieceM; split <;> exact ⟨rfl, rfl⟩
    exact ⟨(h2 _ _).1.trans (h1 _ _).1, (h2 _ _).2.trans (h1 _ _).2⟩
  exact ⟨b1.trans a.1, b2.trans a.2⟩
theorem waitM_cb : ∀ (l : List Fr) (e : En), (waitM e l).1.came = e.came ∧ (waitM e l).1.bad = e.bad
 | [], e => ⟨rfl, rfl⟩
 | f :: l, e => by
  obtain ⟨b1, b2⟩ := waitM_cb l (roomM e f)
  have a : (roomM e f).came = e.came ∧ (roomM e f).bad = e.bad := by
   unfold roomM
   split
   ·exact ⟨rfl, rfl⟩
   ·split
    ·exact ⟨rfl, rfl⟩
    ·split <;> exact ⟨rfl, rfl⟩
  exact ⟨b1.trans a.1, b2.trans a.2⟩
theorem writeM_cb (e : En) : (writeM e).1.came = e.came ∧ (writeM e).1.bad = e.bad := by
 obtain ⟨a1, a2⟩ := waitM_cb e.wait e
 obtain ⟨b1, b2⟩ := saysM_cb e.strs.length 0 { (waitM e e.wait).1 with wait := [] }
 exact ⟨b1.trans a1, b2.trans a2⟩
theorem callM_cb (e : En) (p t : List UInt8) : (callM e p t).1.came = e.came ∧ (callM e p t).1.bad = e.bad := by unfold callM; split <;> exact ⟨rfl, rfl⟩
theorem leaveM_cb (e : En) (id : Int) : (leaveM e id).1.came = e.came ∧ (leaveM e id).1.bad = e.bad := by
 unfold leaveM
 split
 ·exact ⟨rfl, rfl⟩
 ·split <;> exact ⟨rfl, rfl⟩
theorem Inc.of {e x : En} (h : Inc e) (hx : x.came = e.came ∧ x.bad = e.bad) : Inc x := by unfold Inc at *; rw [hx.1, hx.2]; exact h
structure WoI (w : Wo) : Prop where
 caller : Inc w.caller
 answerer : Inc w.answerer
theorem doM_inc {w : Wo} (h : WoI w) (v : Ev) : WoI (doM w v) := by
 unfold doM
 split
 ·exact ⟨h.caller.of (callM_cb _ _ _), h.answerer⟩
 ·split
  ·exact ⟨h.caller.of (leaveM_cb _ _), h.answerer⟩
  ·split
   ·unfold sayWM
    split
    ·split
     ·exact ⟨h.caller.of (writeM_cb _), h.answerer⟩
     ·exact h
    ·split
     ·split
      ·exact ⟨h.caller, h.answerer.of (writeM_cb _)⟩
      ·exact h
     ·exact h
   ·split
    ·unfold passM
     split
     ·split
      ·exact ⟨h.caller, hearWM_inc h.answerer _⟩
      ·split
       ·exact ⟨hearWM_inc h.caller _, h.answerer⟩
       ·exact h
     ·exact h
    ·exact h
theorem newEn_inc (a : Bool) : Inc (newEn a) := .inr rfl
theorem play_inc : ∀ (l : List Ev) (w : Wo), WoI w → WoI (l.foldl doM w)
 | [], w, h => h
 | v :: l, w, h => play_inc l (doM w v) (doM_inc h v)
theorem playM_inc (l : List Ev) : WoI (playM l) := play_inc l newWo ⟨newEn_inc _, newEn_inc _⟩
structure WoP (w : Wo) : Prop where
 loc : WoL w
 inc : WoI w
theorem playM_p (l : List Ev) : WoP (playM l) := ⟨(playM_all l).2, playM_inc l⟩
def WoAll (w : Wo) : Prop := WoW 36 w ∧ WoP w
theorem WoP.all {w : Wo} (h : WoP w) (hok : woOk w = true) : WoAll w := ⟨h.loc.w (woOk_iff.1 hok), h⟩
theorem WoAll.step {w : Wo} (h : WoAll w) (v : Ev) : WoAll (doM w v) := ⟨(doM_all h.1 h.2.loc v).1, (doM_all h.1 h.2.loc v).2, doM_inc h.2.inc v⟩
theorem WoAll.ok {w : Wo} (h : WoAll w) : woOk w = true := h.1.ok
theorem WoAll.idle {w : Wo} (h : WoAll w) : (w.up = [] → passM w 0 90 = w) ∧ (w.down = [] → passM w 1 90 = w) := by
 constructor
 ·intro q
  unfold passM
  rw [if_pos (by decide), if_pos rfl, q]
  simp only [List.take_nil, List.drop_nil, hearWM_idle h.2.inc.answerer]
  rw [← q]
 ·intro q
  unfold passM
  rw [if_pos (by decide), if_neg (by decide), if_pos rfl, q]
  simp only [List.take_nil, List.drop_nil, hearWM_idle h.2.inc.caller]
  rw [← q]
end
section
theorem Drawn.p {w : Wo} (h : Drawn w) : WoP w := by
 obtain ⟨l, _, _, hs⟩ := h
 have h := playM_p l
 generalize playM l = x at *
 cases hs with
 | none => exact h
 | ans => exact ⟨⟨⟨h.loc.caller.sum, h.loc.caller.len, h.loc.caller.four⟩, h.loc.answerer⟩, ⟨h.inc.caller, h.inc.answerer⟩⟩
 | up o ho => exact ⟨⟨h.loc.caller, h.loc.answerer⟩, ⟨h.inc.caller, h.inc.answerer⟩⟩
 | table t m _ _ => exact ⟨⟨h.loc.caller, ⟨h.loc.answerer.sum, h.loc.answerer.len, h.loc.answerer.four⟩⟩, ⟨h.inc.caller, h.inc.answerer⟩⟩
 | id k _ _ _ =>
  have h1 := h.loc.caller.setSt (k := 0) (s := { x.caller.strs.getD 0 st0 with id := k }) (fun q => q)
  exact ⟨⟨⟨h1.sum, h1.len, h1.four⟩, h.loc.answerer⟩, ⟨h.inc.caller, h.inc.answerer⟩⟩
theorem DrawnE.loc {e : En} {wire : List UInt8} (h : DrawnE e wire) : Loc e ∧ Inc e := by
 obtain ⟨w, hw, ⟨rfl, _⟩ | ⟨rfl, _⟩⟩ := h
 ·exact ⟨hw.p.loc.caller, hw.p.inc.caller⟩
 ·exact ⟨hw.p.loc.answerer, hw.p.inc.answerer⟩
theorem woAll_stays : Stays WoAll := ⟨fun w v h => h.step v, fun w h => ⟨(woOk_parts h.ok).1 ▸ endOk_iff.2 (h.1.caller.mono (by decide)), endOk_iff.2 (h.1.answerer.mono (by decide))⟩, fun w h => h.idle⟩
theorem play_ends (l : List Ev) (i : Nat) : endOk (playM (l.take i)).caller = true ∧ endOk (playM (l.take i)).answerer = true :=
 have h := (playM_all (l.take i)).1
 ⟨endOk_iff.2 (h.caller.mono (by decide)), endOk_iff.2 (h.answerer.mono (by decide))⟩
end
section
open Go
theorem lkBegins_self (a t : List UInt8) (h : a.length + t.length ≤ 1000000) (S : List Blk) : VCall Tryz.prog 32 [.str a, .str (a ++ t)] S fun r S' => r = .bool true ∧ S' = S := by
 refine VCall.en hD Tryz.func32 Tryz.ntmps32 Tryz.results32 ?_
 have h1 : (a.length : Int) ≤ (a.length : Int) + (t.length : Int) := by omega
 have h2 : (a ++ t).take a.length = a := by simp
 simp -implicitDefEqProofs (disch := omega) only [push_cast, simprocAttr, h1, h2, List.length_append, Int.natCast_add, decide_true, ↓gd]
 repeat refine And.intro (by omega) ?_
 exact fin0 rfl
end
section
structure StGrow (a b : St) : Prop where
 id : b.id = a.id
 text : ∃ t, b.text = a.text ++ t
 say : b.say = a.say
 sent : a.sent ≤ b.sent
 state : a.state ≠ 1 → b.state = a.state
theorem StGrow.refl (a : St) : StGrow a a := ⟨rfl, ⟨[], (List.append_nil _).symm⟩, rfl, Int.le_refl _, fun _ => rfl⟩
theorem StGrow.trans {a b c : St} (h : StGrow a b) (k : StGrow b c) : StGrow a c := by
 obtain ⟨t, ht⟩ := h.text
 obtain ⟨u, hu⟩ := k.text
 exact ⟨k.id.trans h.id, ⟨t ++ u, by rw [hu, ht, List.append_assoc]⟩, k.say.trans h.say, Int.le_trans h.sent k.sent, fun q => by rw [k.state (by rw [h.state q]; exact q), h.state q]⟩
structure EnGrow (e x : En) : Prop where
 len : e.strs.length ≤ x.strs.length
 at_ : ∀ i, i < e.strs.length → StGrow (stAt e i) (stAt x i)
theorem EnGrow.same {e x : En} (h : x.strs = e.strs) : EnGrow e x := ⟨by rw [h]; exact Nat.le_refl _, fun i _ => by rw [stAt, stAt, h]; exact .refl _⟩
theorem EnGrow.refl (e : En) : EnGrow e e := .same rfl
theorem EnGrow.trans {e x y : En} (h : EnGrow e x) (k : EnGrow x y) : EnGrow e y := ⟨Nat.le_trans h.len k.len, fun i hi => (h.at_ i hi).trans (k.at_ i (Nat.lt_of_lt_of_le hi h.len))⟩
theorem EnGrow.set {e x : En} {k : Nat} {s : St} (h : EnGrow e x) (hk : k < x.strs.length) (hs : StGrow (stAt x k) s) : EnGrow e (setSt x k s) := by
 refine h.trans ⟨by simp [setSt], fun i hi => ?_⟩
 show StGrow (stAt x i) ((x.strs.set k s).getD i st0)
 rw [getD_set st0 s hk]
 split
 ·rename_i q; subst q; exact hs
 ·exact .refl _
theorem EnGrow.app {e x : En} {s : St} (h : EnGrow e x) : EnGrow e { x with strs := x.strs ++ [s] } := by
 refine h.trans ⟨by simp, fun i hi => ?_⟩
 show StGrow (stAt x i) ((x.strs ++ [s]).getD i st0)
 rw [getD_app st0 s, if_pos hi]
 exact .refl _
theorem callM_grow (e : En) (p t : List UInt8) : EnGrow e (callM e p t).1 ∧ (callM e p t).1.strs.length ≤ e.strs.length + 1 := by
 unfold callM
 split
 ·exact ⟨.refl e, by simp⟩
 ·exact ⟨(EnGrow.refl e).app, by simp⟩
theorem leaveM_grow (e : En) (id : Int) : EnGrow e (leaveM e id).1 ∧ (leaveM e id).1.strs.length = e.strs.length := by
 unfold leaveM
 split
 ·exact ⟨.refl e, rfl⟩
 ·rename_i k hk
  obtain ⟨h1, h2⟩ := atM_some hk
  split
  ·exact ⟨.refl e, rfl⟩
  ·rename_i hc
   have hs : (stAt e k).state = 1 := by simpa using fun q => hc (.inr q)
   refine ⟨EnGrow.set (e := e) (x := { e with wait := _ }) (.same rfl) h1 ⟨rfl, ⟨[], (List.append_nil _).symm⟩, rfl, Int.le_refl _, fun q => absurd hs q⟩, by simp [setSt]⟩
theorem sayM_grow {e : En} (ha : e.ans = false) {N : Nat} (hw : EnW N e) {k : Nat} (hk : k < e.strs.length) : EnGrow e (sayM e k).1 := by
 unfold sayM
 simp only
 split
 ·exact .refl e
 ·rename_i hc
  have hs : (stAt e k).state = 1 := by simpa using fun q => hc (.inl q)
  obtain ⟨b1, b2, b3, b4⟩ := beginM_keeps e (stAt e k)
  obtain ⟨c1, c2, c3, c4⟩ := pieceM_keeps (beginM e (stAt e k)).1 (beginM e (stAt e k)).2.1
  have e1 : ∀ x s, (beginM x s).2.1.id = s.id ∧ (beginM x s).2.1.text = s.text ∧ (beginM x s).2.1.say = s.say ∧ (beginM x s).2.1.sent = s.sent := fun x s => by unfold beginM; split <;> exact ⟨rfl, rfl, rfl, rfl⟩
  have e2 : ∀ x s, (pieceM x s).2.1.id = s.id ∧ (pieceM x s).2.1.text = s.text ∧ (pieceM x s).2.1.say = s.say ∧ s.sent ≤ (pieceM x s).2.1.sent := fun x s => by
   unfold pieceM
   split
   ·rename_i h; exact ⟨rfl, rfl, rfl, by simp only; omega⟩
   ·exact ⟨rfl, rfl, rfl, Int.le_refl _⟩
  obtain ⟨d1, d2, d3, d4⟩ := e1 e (stAt e k)
  obtain ⟨f1, f2, f3, f4⟩ := e2 (beginM e (stAt e k)).1 (beginM e (stAt e k)).2.1
  have hst : (pieceM (beginM e (stAt e k)).1 (beginM e (stAt e k)).2.1).1.strs = e.strs := c3.trans b3
  refine EnGrow.set (.same hst) (by rw [hst]; exact hk) ?_
  have hat : stAt (pieceM (beginM e (stAt e k)).1 (beginM e (stAt e k)).2.1).1 k = stAt e k := congrArg (fun l : List St => l.getD k st0) hst
  rw [hat]
  exact ⟨f1.trans d1, ⟨[], by simp only [List.append_nil]; exact f2.trans d2⟩, f3.trans d3, by rw [d4] at f4; exact f4, fun q => absurd hs q⟩
theorem saysM_grow {N : Nat} : ∀ (n k : Nat) (e : En), e.ans = false → EnW N e → k + n ≤ e.strs.length → EnGrow e (saysM n k e).1
 | 0, k, e, _, _, _ => .refl e
 | n + 1, k, e, ha, hw, hk => by
  obtain ⟨r1, r2⟩ := sayM_w hw (k := k) (by omega)
  exact (sayM_grow ha hw (by omega)).trans (saysM_grow n (k + 1) (sayM e k).1 ((sayM_ans e k).trans ha) r1 (by omega))
theorem roomM_grow (e : En) (f : Fr) : EnGrow e (roomM e f) := by
 unfold roomM
 split
 ·exact .refl e
 ·split
  ·exact .same rfl
  ·split
   ·exact .refl e
   ·rename_i k hk
    exact (EnGrow.refl e).set (atM_some hk).1 ⟨rfl, ⟨[], (List.append_nil _).symm⟩, rfl, Int.le_refl _, fun _ => rfl⟩
theorem waitM_grow : ∀ (l : List Fr) (e : En), EnGrow e (waitM e l).1
 | [], e => .refl e
 | f :: l, e => (roomM_grow e f).trans (waitM_grow l (roomM e f))
theorem writeM_grow {N : Nat} {e : En} (ha : e.ans = false) (hw : EnW N e) : EnGrow e (writeM e).1 ∧ (writeM e).1.strs.length = e.strs.length := by
 obtain ⟨r1, r2, _⟩ := waitM_w e.wait e hw
 have h1 := (waitM_grow e.wait e).trans (.same (x := { (waitM e e.wait).1 with wait := [] }) rfl)
 have h2 := saysM_grow (N := 0) e.strs.length 0 { (waitM e e.wait).1 with wait := [] } ((waitM_ans _ _).trans ha) r1.noWait (by simp [r2])
 exact ⟨h1.trans h2, (saysM_w e.strs.length 0 _ r1.noWait (by simp [r2])).2.trans r2⟩
theorem doneM_grow {s : St} : StGrow s (doneM false s) := by
 unfold doneM
 split
 ·exact ⟨rfl, ⟨[], (List.append_nil _).symm⟩, rfl, Int.le_refl _, fun _ => rfl⟩
 ·rename_i h
  exact ⟨rfl, ⟨[], (List.append_nil _).symm⟩, rfl, Int.le_refl _, fun q => absurd (by simpa using h) q⟩
theorem growM_caller {e : En} (ha : e.ans = false) (id : Int) : growM e id = e := by unfold growM; rw [if_neg (by rw [ha]; simp)]
theorem frameM_grow {e : En} (ha : e.ans = false) (f : Fr) : EnGrow e (frameM e f) ∧ (frameM e f).strs.length = e.strs.length := by
 unfold frameM
 split
 ·unfold headFM
  rw [growM_caller ha]
  simp only
  split
  ·rename_i t hd k hr hk
   split
   ·exact ⟨.same rfl, rfl⟩
   ·refine ⟨EnGrow.set (x := { e with inn := t }) (.same rfl) (atM_some hk).1 ?_, by simp [setSt]⟩
    have h0 : StGrow (stAt e k) { stAt e k with got := hd } := ⟨rfl, ⟨[], (List.append_nil _).symm⟩, rfl, Int.le_refl _, fun _ => rfl⟩
    split
    ·rw [ha]; exact h0.trans doneM_grow
    ·exact h0
  ·exact ⟨.same rfl, rfl⟩
 ·split
  ·unfold dataM
   split
   ·exact ⟨.same rfl, rfl⟩
   ·rename_i k hk
    simp only
    split
    ·exact ⟨.same rfl, rfl⟩
    ·refine ⟨EnGrow.set (x := { e with room := _, wait := _ }) (.same rfl) (atM_some hk).1 ?_, by simp [setSt]⟩
     have h0 : StGrow (stAt e k) { stAt e k with text := (stAt e k).text ++ f.body, room := (stAt e k).room - f.body.length } := ⟨rfl, ⟨f.body, rfl⟩, rfl, Int.le_refl _, fun _ => rfl⟩
     by_cases hl : f.last = true
     ·rw [if_pos hl, ha]; exact h0.trans doneM_grow
     ·rw [if_neg hl]; exact h0
  ·split
   ·unfold moreM
    split
    ·exact ⟨.same rfl, rfl⟩
    ·split
     ·exact ⟨.same rfl, rfl⟩
     ·rename_i k hk
      exact ⟨EnGrow.set (x := { e with bad := _ }) (.same rfl) (atM_some hk).1 ⟨rfl, ⟨[], (List.append_nil _).symm⟩, rfl, Int.le_refl _, fun _ => rfl⟩, by simp [setSt]⟩
   ·split
    ·exact ⟨.same rfl, rfl⟩
    ·exact ⟨.same rfl, rfl⟩
theorem hearsM_grow : ∀ (n : Nat) (e : En), e.ans = false → EnGrow e (hearsM n e) ∧ (hearsM n e).strs.length = e.strs.length
 | 0, e, _ => ⟨.refl e, rfl⟩
 | n + 1, e, ha => by
  unfold hearsM
  split
  ·exact ⟨.refl e, rfl⟩
  ·simp only
   split
   ·exact ⟨.same rfl, rfl⟩
   ·split
    ·exact ⟨.refl e, rfl⟩
    ·obtain ⟨a1, a2⟩ := frameM_grow (e := { e with came := e.came.drop (frR e.came).2.1 }) ha (frR e.came).1
     obtain ⟨b1, b2⟩ := hearsM_grow n (frameM { e with came := e.came.drop (frR e.came).2.1 } (frR e.came).1) ((frameM_ans _ _).trans ha)
     have h0 : EnGrow e { e with came := e.came.drop (frR e.came).2.1 } := .same rfl
     exact ⟨(h0.trans a1).trans b1, b2.trans a2⟩
theorem hearWM_grow {e : En} (ha : e.ans = false) (b : List UInt8) : EnGrow e (hearWM e b) ∧ (hearWM e b).strs.length = e.strs.length := by
 unfold hearWM
 split
 ·exact ⟨.refl e, rfl⟩
 ·obtain ⟨a1, a2⟩ := hearsM_grow (e.came.length + b.length + 1) { e with came := e.came ++ b } ha
  have h0 : EnGrow e { e with came := e.came ++ b } := .same rfl
  exact ⟨h0.trans a1, a2⟩
theorem doM_grow {N : Nat} {w : Wo} (h : WoW N w) (v : Ev) : EnGrow w.caller (doM w v).caller ∧ (doM w v).caller.strs.length ≤ w.caller.strs.length + 1 := by
 have ha := h.calls
 unfold doM
 split
 ·exact callM_grow _ _ _
 ·split
  ·obtain ⟨a, b⟩ := leaveM_grow w.caller v.a; exact ⟨a, by rw [b]; omega⟩
  ·split
   ·unfold sayWM
    split
    ·split
     ·obtain ⟨a, b⟩ := writeM_grow ha h.caller; exact ⟨a, by show (writeM w.caller).1.strs.length ≤ _; rw [b]; omega⟩
     ·exact ⟨.refl _, by omega⟩
    ·split
     ·split
      ·exact ⟨.refl _, by simp⟩
      ·exact ⟨.refl _, by omega⟩
     ·exact ⟨.refl _, by omega⟩
   ·split
    ·unfold passM
     split
     ·split
      ·exact ⟨.refl _, by simp⟩
      ·split
       ·obtain ⟨a, b⟩ := hearWM_grow ha (w.down.take v.b.toNat); exact ⟨a, by show (hearWM w.caller _).strs.length ≤ _; rw [b]; omega⟩
       ·exact ⟨.refl _, by omega⟩
     ·exact ⟨.refl _, by omega⟩
    ·exact ⟨.refl _, by omega⟩
end
end Go.Proofs.YtodjmflbakfmjaaGreatDoor
