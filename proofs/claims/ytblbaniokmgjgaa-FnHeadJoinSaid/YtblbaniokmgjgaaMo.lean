/- What the two packages reckon, in plain words: numbers. -/
import Derived.Test.YtblbaniokmgjgaaVlY
namespace Go.Proofs.Ytblbaniokmgjgaa
open Go
set_option linter.unusedVariables false
set_option linter.unusedSimpArgs false

def by8 (n : Nat) : UInt8 := UInt8.ofNat n

def numTail (m : Nat) : List UInt8 := if m < 128 then [by8 m] else by8 (m % 128 + 128) :: numTail (m / 128)
termination_by m

def numW (n bits head : Nat) : List UInt8 :=
  if n < 2 ^ bits - 1 then [by8 (head * 2 ^ bits + n)] else by8 (head * 2 ^ bits + (2 ^ bits - 1)) :: numTail (n - (2 ^ bits - 1))

theorem numTail_lt {m : Nat} (h : m < 128) : numTail m = [by8 m] := by rw [numTail, if_pos h]
theorem numTail_ge {m : Nat} (h : 128 ≤ m) : numTail m = by8 (m % 128 + 128) :: numTail (m / 128) := by rw [numTail, if_neg (by omega)]
theorem numTail_len (m : Nat) : (numTail m).length ≤ m + 1 := by
  induction m using Nat.strongRecOn with
  | _ m ih =>
    rcases Nat.lt_or_ge m 128 with g | g
    · rw [numTail_lt g]; simp
    · rw [numTail_ge g]
      have := ih (m / 128) (by omega)
      simp only [List.length_cons]
      omega

theorem u8_ofNat_mod (n : Nat) : UInt8.ofNat (n % 256) = UInt8.ofNat n := by
  apply UInt8.toNat.inj
  simp
theorem byInt (n : Nat) : UInt8.ofNat (((n : Int) % 256).toNat) = by8 n := by
  have : (((n : Int) % 256).toNat) = n % 256 := by omega
  rw [this, u8_ofNat_mod]; rfl

theorem tmod_nat (m n : Nat) : Int.tmod (m : Int) (n : Int) = ((m % n : Nat) : Int) := by
  rw [Int.tmod_eq_emod_of_nonneg (by omega)]; rfl
theorem tdiv_nat (m n : Nat) : Int.tdiv (m : Int) (n : Int) = ((m / n : Nat) : Int) := by
  rw [Int.tdiv_eq_ediv_of_nonneg (by omega)]; rfl

theorem bv64 {x : Nat} (h : x < 2 ^ 62) : (BitVec.ofInt 64 (x : Int)).toNat = x := by
  rw [BitVec.toNat_ofInt]
  have e : ((2 ^ 64 : Nat) : Int) = 18446744073709551616 := by decide
  rw [e]
  omega
theorem and_nat {x y : Nat} (hx : x < 2 ^ 62) (hy : y < 2 ^ 62) : intBits .and .i64 (x : Int) (y : Int) = ((x &&& y : Nat) : Int) := by
  have h : x &&& y ≤ x := Nat.and_le_left
  simp only [intBits]
  rw [show IntKind.i64.bits = 64 from rfl, BitVec.toNat_and, bv64 hx, bv64 hy]
  exact i64_fit _ (by omega)
theorem or_nat {x y : Nat} (hx : x < 2 ^ 62) (hy : y < 2 ^ 62) : intBits .or .i64 (x : Int) (y : Int) = ((x ||| y : Nat) : Int) := by
  have h : x ||| y < 2 ^ 62 := Nat.or_lt_two_pow hx hy
  simp only [intBits]
  rw [show IntKind.i64.bits = 64 from rfl, BitVec.toNat_or, bv64 hx, bv64 hy]
  exact i64_fit _ (by omega)
theorem fdiv_pow (n k : Nat) : Int.fdiv (n : Int) (2 ^ k) = ((n / 2 ^ k : Nat) : Int) := by
  have e : (2 : Int) ^ k = ((2 ^ k : Nat) : Int) := by simp
  rw [e, Int.fdiv_eq_ediv_of_nonneg _ (Int.natCast_nonneg _)]
  rfl

theorem u8_wrap (n : Nat) : IntKind.u8.wrap (n : Int) = ((by8 n).toNat : Int) := by
  have h : IntKind.u8.wrap (n : Int) = (n : Int) % 256 := by simp [IntKind.wrap, IntKind.signed, IntKind.bits]
  rw [h]; simp [by8]
theorem u8V_of (n : Nat) : V.int .u8 (IntKind.u8.wrap (n : Int)) = u8V (by8 n) := by rw [u8_wrap]; rfl
theorem by8_wrap (n : Nat) : UInt8.ofNat (IntKind.u8.wrap (n : Int)).toNat = by8 n := by rw [u8_wrap]; simp
@[push_cast] theorem all_u8_len (o : List UInt8) : (o.map u8V).all (lenIs 1) = true := by induction o <;> simp_all [lenIs, u8V, V.cells]
@[push_cast] theorem all_u8_is (o : List UInt8) : (o.map u8V).all isU8 = true := by induction o <;> simp_all [isU8, u8V]
@[push_cast] theorem map_u8_by (o : List UInt8) : (o.map u8V).map byteOfV = o := by induction o <;> simp_all [byteOfV, u8V]
@[push_cast] theorem cells_u8 (b : UInt8) : (u8V b).cells = [u8V b] := rfl
@[push_cast] theorem isU8_u8 (b : UInt8) : isU8 (u8V b) = true := rfl
@[push_cast] theorem byteOf_u8 (b : UInt8) : byteOfV (u8V b) = b := by simp [u8V, byteOfV]
@[push_cast] theorem one_u8 (b : UInt8) : (u8V b).one = true := rfl
@[push_cast] theorem erase1_u8 (b : UInt8) : erase1 (u8V b) = u8V b := rfl

/-- The right to append behind a slice that a call made. -/
def Tok (S S' : List Blk) (τ sz : Nat) : Prop := (∃ X, S' = S ++ X) ∧ S.length ≤ τ ∧ S'[τ]? = some (.right sz)
theorem Tok.new (S : List Blk) (sz : Nat) : Tok S (S ++ [.right sz]) S.length sz := ⟨⟨_, rfl⟩, Nat.le_refl _, by simp⟩
theorem Tok.at {S S' : List Blk} {τ sz : Nat} (h : Tok S S' τ sz) : S'[τ]? = some (.right sz) := h.2.2
theorem Tok.step {S S' : List Blk} {τ sz : Nat} (h : Tok S S' τ sz) : Tok S (S'.set τ .dead ++ [.right sz]) S'.length sz := by
  obtain ⟨⟨X, rfl⟩, h2, h3⟩ := h
  refine ⟨⟨X.set (τ - S.length) .dead ++ [.right sz], ?_⟩, by simp, ?_⟩
  · rw [List.set_append_right _ _ h2, List.append_assoc]
  · rw [List.getElem?_append_right (by simp)]; simp
theorem Tok.more {S S' : List Blk} {τ sz : Nat} (h : Tok S S' τ sz) (Y : List Blk) : Tok S (S' ++ Y) τ sz := by
  obtain ⟨⟨X, rfl⟩, h2, h3⟩ := h
  refine ⟨⟨X ++ Y, by rw [List.append_assoc]⟩, h2, ?_⟩
  rw [List.getElem?_append_left, h3]
  rcases Nat.lt_or_ge τ (S ++ X).length with g | g
  · exact g
  · rw [List.getElem?_eq_none g] at h3; cases h3
theorem Tok.step1 {S S' : List Blk} {τ sz : Nat} (h : Tok S S' τ sz) (B : Blk) : Tok S ((S' ++ [B]).set τ .dead ++ [.right sz]) (S'.length + 1) sz := by
  have := (h.more [B]).step
  simpa using this
theorem Tok.fin {S S' : List Blk} {τ sz : Nat} {v x : V} (h : Tok S S' τ sz) (hc : Cl S.length v) (e : v = x) : ∃ r S2, Wk S v S' r S2 ∧ r = x ∧ S2 = S := by
  obtain ⟨⟨X, rfl⟩, _, _⟩ := h
  exact fin1 hc e
theorem Tok.finE {S S' : List Blk} {τ sz : Nat} {v x : V} (h : Tok S S' τ sz) (hc : Cl S.length (eraseT v)) (e : eraseT v = x) : ∃ r S2, Wk S v S' r S2 ∧ r = x ∧ S2 = S := by
  obtain ⟨⟨X, rfl⟩, _, _⟩ := h
  exact Ytblbaniokmgjgaa.finE hc e
theorem or_add {q n p bits : Nat} (hp : p = 2 ^ bits) {h : Nat} (hq : q = h * p) (hn : n < p) : q ||| n = q + n := by
  rw [hq, hp, Nat.mul_comm, ← Nat.two_pow_add_eq_or_of_lt (by omega)]
theorem and127 (x : Nat) (h : x < 2 ^ 62) : intBits .and .i64 (x : Int) 127 = ((x % 128 : Nat) : Int) := by
  rw [show (127 : Int) = ((127 : Nat) : Int) from rfl, and_nat h (by decide), show (127 : Nat) = 2 ^ 7 - 1 from rfl, Nat.and_two_pow_sub_one_eq_mod]
theorem or128 (x : Nat) (h : x < 128) : intBits .or .i64 128 (x : Int) = ((128 + x : Nat) : Int) := by
  rw [show (128 : Int) = ((128 : Nat) : Int) from rfl, or_nat (by decide) (by omega), or_add (q := 128) (p := 128) (bits := 7) (h := 1) rfl rfl h]
theorem shr7 (x : Nat) : Int.fdiv (x : Int) (2 ^ min 7 64) = ((x / 128 : Nat) : Int) := fdiv_pow x 7

end Go.Proofs.Ytblbaniokmgjgaa
