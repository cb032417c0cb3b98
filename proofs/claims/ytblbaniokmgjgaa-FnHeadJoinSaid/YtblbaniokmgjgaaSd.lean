/- The table of types of this seat, for the walk; held against the program by the kernel. -/
import Derived.Test.YtblbaniokmgjgaaProg
import Derived.Test.YtblbaniokmgjgaaVlT
namespace Go.Proofs.Ytblbaniokmgjgaa
open Go
set_option maxRecDepth 100000

def Dl : List TD := [
  ⟨.none, 0, 0, [], false⟩,
  ⟨.none, 0, 0, [], false⟩,
  ⟨.int .i64, 1, 8, [.int .i64 0], false⟩,
  ⟨.int .i64, 1, 8, [.int .i64 0], false⟩,
  ⟨.bool, 1, 1, [.bool false], false⟩,
  ⟨.int .u8, 1, 1, [.int .u8 0], false⟩,
  ⟨.none, 0, 0, [], false⟩,
  ⟨.none, 0, 0, [], false⟩,
  ⟨.none, 0, 0, [], false⟩,
  ⟨.str, 1, 16, [.str []], false⟩,
  ⟨.none, 0, 0, [], false⟩,
  ⟨.none, 0, 0, [], false⟩,
  ⟨.none, 0, 0, [], false⟩,
  ⟨.none, 0, 0, [], false⟩,
  ⟨.none, 0, 0, [], false⟩,
  ⟨.none, 0, 0, [], false⟩,
  ⟨.none, 0, 0, [], false⟩,
  ⟨.none, 0, 0, [], false⟩,
  ⟨.none, 0, 0, [], false⟩,
  ⟨.none, 0, 0, [], false⟩,
  ⟨.none, 0, 0, [], false⟩,
  ⟨.int .i32, 1, 4, [.int .i32 0], false⟩,
  ⟨.slc 71, 1, 24, [.nils], false⟩,
  ⟨.strct [(0, 1, 22), (1, 1, 3)], 2, 32, [.nils, .int .i64 0], false⟩,
  ⟨.strct [(0, 1, 22), (1, 1, 3)], 2, 32, [.nils, .int .i64 0], false⟩,
  ⟨.none, 0, 0, [], false⟩,
  ⟨.slc 50, 1, 24, [.nils], false⟩,
  ⟨.strct [(0, 1, 26), (1, 1, 3)], 2, 32, [.nils, .int .i64 0], false⟩,
  ⟨.strct [(0, 1, 26), (1, 1, 3)], 2, 32, [.nils, .int .i64 0], false⟩,
  ⟨.none, 0, 0, [], false⟩,
  ⟨.none, 0, 0, [], false⟩,
  ⟨.none, 0, 0, [], false⟩,
  ⟨.none, 0, 0, [], false⟩,
  ⟨.none, 0, 0, [], false⟩,
  ⟨.none, 0, 0, [], false⟩,
  ⟨.none, 0, 0, [], false⟩,
  ⟨.none, 0, 0, [], false⟩,
  ⟨.slc 5, 1, 24, [.nils], false⟩,
  ⟨.none, 0, 0, [], false⟩,
  ⟨.none, 0, 0, [], false⟩,
  ⟨.none, 0, 0, [], false⟩,
  ⟨.none, 0, 0, [], false⟩,
  ⟨.none, 0, 0, [], false⟩,
  ⟨.none, 0, 0, [], false⟩,
  ⟨.none, 0, 0, [], false⟩,
  ⟨.none, 0, 0, [], false⟩,
  ⟨.none, 0, 0, [], false⟩,
  ⟨.none, 0, 0, [], false⟩,
  ⟨.none, 0, 0, [], false⟩,
  ⟨.strct [(0, 1, 9), (1, 1, 9), (2, 1, 4)], 3, 40, [.str [], .str [], .bool false], false⟩,
  ⟨.strct [(0, 1, 9), (1, 1, 9), (2, 1, 4)], 3, 40, [.str [], .str [], .bool false], false⟩,
  ⟨.none, 0, 0, [], false⟩,
  ⟨.none, 0, 0, [], false⟩,
  ⟨.none, 0, 0, [], false⟩,
  ⟨.none, 0, 0, [], false⟩,
  ⟨.none, 0, 0, [], false⟩,
  ⟨.none, 0, 0, [], false⟩,
  ⟨.ptr, 1, 8, [.nilp], false⟩,
  ⟨.none, 0, 0, [], false⟩,
  ⟨.none, 0, 0, [], false⟩,
  ⟨.none, 0, 0, [], false⟩,
  ⟨.none, 0, 0, [], false⟩,
  ⟨.none, 0, 0, [], false⟩,
  ⟨.none, 0, 0, [], false⟩,
  ⟨.none, 0, 0, [], false⟩,
  ⟨.none, 0, 0, [], false⟩,
  ⟨.none, 0, 0, [], false⟩,
  ⟨.none, 0, 0, [], false⟩,
  ⟨.none, 0, 0, [], false⟩,
  ⟨.none, 0, 0, [], false⟩,
  ⟨.none, 0, 0, [], false⟩,
  ⟨.strct [(0, 1, 9), (1, 1, 9), (2, 1, 4)], 3, 40, [.str [], .str [], .bool false], false⟩,
  ⟨.none, 0, 0, [], false⟩,
  ⟨.none, 0, 0, [], false⟩,
  ⟨.none, 0, 0, [], false⟩,
  ⟨.none, 0, 0, [], false⟩,
  ⟨.none, 0, 0, [], false⟩,
  ⟨.none, 0, 0, [], false⟩,
  ⟨.none, 0, 0, [], false⟩,
  ⟨.none, 0, 0, [], false⟩,
  ⟨.none, 0, 0, [], false⟩,
  ⟨.none, 0, 0, [], false⟩,
  ⟨.none, 0, 0, [], false⟩,
  ⟨.strct [(0, 1, 37), (1, 1, 3)], 2, 32, [.nils, .int .i64 0], false⟩,
  ⟨.strct [(0, 1, 37), (1, 1, 3)], 2, 32, [.nils, .int .i64 0], false⟩,
  ⟨.slc 3, 1, 24, [.nils], false⟩,
  ⟨.none, 0, 0, [], false⟩,
  ⟨.none, 0, 0, [], false⟩,
  ⟨.none, 0, 0, [], false⟩,
  ⟨.none, 0, 0, [], false⟩,
  ⟨.none, 0, 0, [], false⟩,
  ⟨.none, 0, 0, [], false⟩,
  ⟨.none, 0, 0, [], false⟩,
  ⟨.none, 0, 0, [], false⟩,
  ⟨.none, 0, 0, [], false⟩,
  ⟨.none, 0, 0, [], false⟩,
  ⟨.none, 0, 0, [], false⟩,
  ⟨.none, 0, 0, [], false⟩,
  ⟨.none, 0, 0, [], false⟩,
  ⟨.none, 0, 0, [], false⟩,
  ⟨.none, 0, 0, [], false⟩,
  ⟨.none, 0, 0, [], false⟩,
  ⟨.slc 26, 1, 24, [.nils], false⟩,
  ⟨.none, 0, 0, [], false⟩,
  ⟨.none, 0, 0, [], false⟩,
  ⟨.slc 9, 1, 24, [.nils], false⟩,
  ⟨.none, 0, 0, [], false⟩,
  ⟨.none, 0, 0, [], false⟩,
  ⟨.none, 0, 0, [], false⟩,
  ⟨.none, 0, 0, [], false⟩,
  ⟨.int .u64, 1, 8, [.int .u64 0], false⟩,
  ⟨.none, 0, 0, [], false⟩,
  ⟨.slc 5, 1, 24, [.nils], false⟩,
  ⟨.none, 0, 0, [], false⟩,
  ⟨.none, 0, 0, [], false⟩,
  ⟨.none, 0, 0, [], false⟩,
  ⟨.none, 0, 0, [], false⟩,
  ⟨.none, 0, 0, [], false⟩,
  ⟨.none, 0, 0, [], false⟩,
  ⟨.ptr, 1, 8, [.nilp], false⟩,
  ⟨.none, 0, 0, [], false⟩,
  ⟨.none, 0, 0, [], false⟩,
  ⟨.none, 0, 0, [], false⟩,
  ⟨.none, 0, 0, [], false⟩,
  ⟨.none, 0, 0, [], false⟩,
  ⟨.none, 0, 0, [], false⟩,
  ⟨.int .u32, 1, 4, [.int .u32 0], false⟩,
  ⟨.none, 0, 0, [], false⟩,
  ⟨.none, 0, 0, [], false⟩,
  ⟨.none, 0, 0, [], false⟩,
  ⟨.ptr, 1, 8, [.nilp], false⟩]
def D (t : Nat) : TD := (Dl[t]?).getD ⟨.none, 0, 0, [], false⟩
@[push_cast] theorem D2 : D 2 = ⟨.int .i64, 1, 8, [.int .i64 0], false⟩ := rfl
@[push_cast] theorem D3 : D 3 = ⟨.int .i64, 1, 8, [.int .i64 0], false⟩ := rfl
@[push_cast] theorem D4 : D 4 = ⟨.bool, 1, 1, [.bool false], false⟩ := rfl
@[push_cast] theorem D5 : D 5 = ⟨.int .u8, 1, 1, [.int .u8 0], false⟩ := rfl
@[push_cast] theorem D9 : D 9 = ⟨.str, 1, 16, [.str []], false⟩ := rfl
@[push_cast] theorem D21 : D 21 = ⟨.int .i32, 1, 4, [.int .i32 0], false⟩ := rfl
@[push_cast] theorem D22 : D 22 = ⟨.slc 71, 1, 24, [.nils], false⟩ := rfl
@[push_cast] theorem D23 : D 23 = ⟨.strct [(0, 1, 22), (1, 1, 3)], 2, 32, [.nils, .int .i64 0], false⟩ := rfl
@[push_cast] theorem D24 : D 24 = ⟨.strct [(0, 1, 22), (1, 1, 3)], 2, 32, [.nils, .int .i64 0], false⟩ := rfl
@[push_cast] theorem D26 : D 26 = ⟨.slc 50, 1, 24, [.nils], false⟩ := rfl
@[push_cast] theorem D27 : D 27 = ⟨.strct [(0, 1, 26), (1, 1, 3)], 2, 32, [.nils, .int .i64 0], false⟩ := rfl
@[push_cast] theorem D28 : D 28 = ⟨.strct [(0, 1, 26), (1, 1, 3)], 2, 32, [.nils, .int .i64 0], false⟩ := rfl
@[push_cast] theorem D37 : D 37 = ⟨.slc 5, 1, 24, [.nils], false⟩ := rfl
@[push_cast] theorem D49 : D 49 = ⟨.strct [(0, 1, 9), (1, 1, 9), (2, 1, 4)], 3, 40, [.str [], .str [], .bool false], false⟩ := rfl
@[push_cast] theorem D50 : D 50 = ⟨.strct [(0, 1, 9), (1, 1, 9), (2, 1, 4)], 3, 40, [.str [], .str [], .bool false], false⟩ := rfl
@[push_cast] theorem D57 : D 57 = ⟨.ptr, 1, 8, [.nilp], false⟩ := rfl
@[push_cast] theorem D71 : D 71 = ⟨.strct [(0, 1, 9), (1, 1, 9), (2, 1, 4)], 3, 40, [.str [], .str [], .bool false], false⟩ := rfl
@[push_cast] theorem D83 : D 83 = ⟨.strct [(0, 1, 37), (1, 1, 3)], 2, 32, [.nils, .int .i64 0], false⟩ := rfl
@[push_cast] theorem D84 : D 84 = ⟨.strct [(0, 1, 37), (1, 1, 3)], 2, 32, [.nils, .int .i64 0], false⟩ := rfl
@[push_cast] theorem D85 : D 85 = ⟨.slc 3, 1, 24, [.nils], false⟩ := rfl
@[push_cast] theorem D102 : D 102 = ⟨.slc 26, 1, 24, [.nils], false⟩ := rfl
@[push_cast] theorem D105 : D 105 = ⟨.slc 9, 1, 24, [.nils], false⟩ := rfl
@[push_cast] theorem D110 : D 110 = ⟨.int .u64, 1, 8, [.int .u64 0], false⟩ := rfl
@[push_cast] theorem D112 : D 112 = ⟨.slc 5, 1, 24, [.nils], false⟩ := rfl
@[push_cast] theorem D119 : D 119 = ⟨.ptr, 1, 8, [.nilp], false⟩ := rfl
@[push_cast] theorem D126 : D 126 = ⟨.int .u32, 1, 4, [.int .u32 0], false⟩ := rfl
@[push_cast] theorem D130 : D 130 = ⟨.ptr, 1, 8, [.nilp], false⟩ := rfl
theorem chkD : (List.range Dl.length).all (fun t => tyChk Try.prog t (D t)) = true := by kernel_rfl
theorem hD : TypesOk Try.prog D := typesOk_of Dl D (fun _ => rfl) chkD (by kernel_rfl)
end Go.Proofs.Ytblbaniokmgjgaa
