/- A part of the proof: contracts of functions, or plain facts on which these lean. -/
import Derived.Test.YtldogccmhncnoaaGreatDoorProg
import Derived.Test.YtldogccmhncnoaaGreatDoorMh11
namespace Go.Proofs.YtldogccmhncnoaaGreatDoor
open Go
set_option linter.unusedVariables false
set_option linter.unusedSimpArgs false
set_option maxRecDepth 100000
set_option maxHeartbeats 16000000

section
open Go
def Dl:List TD:=[
 ⟨.none,0,0,[],false,false⟩,
 ⟨.none,0,0,[],false,false⟩,
 ⟨.int .i64,1,8,[.int .i64 0],false,false⟩,
 ⟨.int .i64,1,8,[.int .i64 0],false,false⟩,
 ⟨.bool,1,1,[.bool false],false,false⟩,
 ⟨.int .u8,1,1,[.int .u8 0],false,false⟩,
 ⟨.none,0,0,[],false,false⟩,
 ⟨.none,0,0,[],false,false⟩,
 ⟨.none,0,0,[],false,false⟩,
 ⟨.str,1,16,[.str []],false,false⟩,
 ⟨.none,0,0,[],false,false⟩,
 ⟨.none,0,0,[],false,false⟩,
 ⟨.none,0,0,[],false,false⟩,
 ⟨.none,0,0,[],false,false⟩,
 ⟨.none,0,0,[],false,false⟩,
 ⟨.none,0,0,[],false,false⟩,
 ⟨.none,0,0,[],false,false⟩,
 ⟨.none,0,0,[],false,false⟩,
 ⟨.none,0,0,[],false,false⟩,
 ⟨.none,0,0,[],false,false⟩,
 ⟨.none,0,0,[],false,false⟩,
 ⟨.int .i32,1,4,[.int .i32 0],false,false⟩,
 ⟨.slc 139,1,24,[.nils],false,false⟩,
 ⟨.strct [(0,1,22),(1,1,3)],2,32,[.nils,.int .i64 0],false,false⟩,
 ⟨.strct [(0,1,22),(1,1,3)],2,32,[.nils,.int .i64 0],false,false⟩,
 ⟨.slc 103,1,24,[.nils],false,false⟩,
 ⟨.strct [(0,1,3),(1,1,3)],2,16,[.int .i64 0,.int .i64 0],false,false⟩,
 ⟨.strct [(0,1,3),(1,1,3)],2,16,[.int .i64 0,.int .i64 0],false,false⟩,
 ⟨.slc 105,1,24,[.nils],false,false⟩,
 ⟨.strct [(0,1,4),(1,2,24),(3,2,24),(5,1,9),(6,1,25),(7,2,27),(9,1,28),(10,1,4)],11,160,[.bool false,.nils,.int .i64 0,.nils,.int .i64 0,.str [],.nils,.int .i64 0,.int .i64 0,.nils,.bool false],false,false⟩,
 ⟨.strct [(0,1,4),(1,2,24),(3,2,24),(5,1,9),(6,1,25),(7,2,27),(9,1,28),(10,1,4)],11,160,[.bool false,.nils,.int .i64 0,.nils,.int .i64 0,.str [],.nils,.int .i64 0,.int .i64 0,.nils,.bool false],false,false⟩,
 ⟨.none,0,0,[],false,false⟩,
 ⟨.slc 143,1,24,[.nils],false,false⟩,
 ⟨.strct [(0,1,32),(1,1,3)],2,32,[.nils,.int .i64 0],false,false⟩,
 ⟨.strct [(0,1,32),(1,1,3)],2,32,[.nils,.int .i64 0],false,false⟩,
 ⟨.slc 108,1,24,[.nils],false,false⟩,
 ⟨.strct [(0,1,3),(1,1,3)],2,16,[.int .i64 0,.int .i64 0],false,false⟩,
 ⟨.slc 82,1,24,[.nils],false,false⟩,
 ⟨.strct [(0,1,4),(1,2,34),(3,2,34),(5,1,9),(6,1,35),(7,2,36),(9,1,37),(10,1,4)],11,160,[.bool false,.nils,.int .i64 0,.nils,.int .i64 0,.str [],.nils,.int .i64 0,.int .i64 0,.nils,.bool false],false,false⟩,
 ⟨.strct [(0,1,4),(1,2,34),(3,2,34),(5,1,9),(6,1,35),(7,2,36),(9,1,37),(10,1,4)],11,160,[.bool false,.nils,.int .i64 0,.nils,.int .i64 0,.str [],.nils,.int .i64 0,.int .i64 0,.nils,.bool false],false,false⟩,
 ⟨.none,0,0,[],false,false⟩,
 ⟨.none,0,0,[],false,false⟩,
 ⟨.none,0,0,[],false,false⟩,
 ⟨.none,0,0,[],false,false⟩,
 ⟨.none,0,0,[],false,false⟩,
 ⟨.strct [(0,11,30),(11,11,30),(22,1,9),(23,1,9)],24,352,[.bool false,.nils,.int .i64 0,.nils,.int .i64 0,.str [],.nils,.int .i64 0,.int .i64 0,.nils,.bool false,.bool false,.nils,.int .i64 0,.nils,.int .i64 0,.str [],.nils,.int .i64 0,.int .i64 0,.nils,.bool false,.str [],.str []],false,false⟩,
 ⟨.strct [(0,11,30),(11,11,30),(22,1,9),(23,1,9)],24,352,[.bool false,.nils,.int .i64 0,.nils,.int .i64 0,.str [],.nils,.int .i64 0,.int .i64 0,.nils,.bool false,.bool false,.nils,.int .i64 0,.nils,.int .i64 0,.str [],.nils,.int .i64 0,.int .i64 0,.nils,.bool false,.str [],.str []],false,false⟩,
 ⟨.strct [(0,1,3),(1,1,3),(2,1,3),(3,1,9),(4,1,9)],5,56,[.int .i64 0,.int .i64 0,.int .i64 0,.str [],.str []],false,false⟩,
 ⟨.strct [(0,1,3),(1,1,3),(2,1,3),(3,1,9),(4,1,9)],5,56,[.int .i64 0,.int .i64 0,.int .i64 0,.str [],.str []],false,false⟩,
 ⟨.none,0,0,[],false,false⟩,
 ⟨.none,0,0,[],false,false⟩,
 ⟨.strct [(0,11,39),(11,11,39),(22,1,9),(23,1,9)],24,352,[.bool false,.nils,.int .i64 0,.nils,.int .i64 0,.str [],.nils,.int .i64 0,.int .i64 0,.nils,.bool false,.bool false,.nils,.int .i64 0,.nils,.int .i64 0,.str [],.nils,.int .i64 0,.int .i64 0,.nils,.bool false,.str [],.str []],false,false⟩,
 ⟨.strct [(0,11,39),(11,11,39),(22,1,9),(23,1,9)],24,352,[.bool false,.nils,.int .i64 0,.nils,.int .i64 0,.str [],.nils,.int .i64 0,.int .i64 0,.nils,.bool false,.bool false,.nils,.int .i64 0,.nils,.int .i64 0,.str [],.nils,.int .i64 0,.int .i64 0,.nils,.bool false,.str [],.str []],false,false⟩,
 ⟨.none,0,0,[],false,false⟩,
 ⟨.none,0,0,[],false,false⟩,
 ⟨.strct [(0,1,3),(1,1,3),(2,1,3),(3,1,9),(4,1,9)],5,56,[.int .i64 0,.int .i64 0,.int .i64 0,.str [],.str []],false,false⟩,
 ⟨.none,0,0,[],false,false⟩,
 ⟨.none,0,0,[],false,false⟩,
 ⟨.none,0,0,[],false,false⟩,
 ⟨.none,0,0,[],false,false⟩,
 ⟨.none,0,0,[],false,false⟩,
 ⟨.none,0,0,[],false,false⟩,
 ⟨.slc 48,1,24,[.nils],false,false⟩,
 ⟨.none,0,0,[],false,false⟩,
 ⟨.none,0,0,[],false,false⟩,
 ⟨.none,0,0,[],false,false⟩,
 ⟨.slc 55,1,24,[.nils],false,false⟩,
 ⟨.none,0,0,[],false,false⟩,
 ⟨.none,0,0,[],false,false⟩,
 ⟨.none,0,0,[],false,false⟩,
 ⟨.none,0,0,[],false,false⟩,
 ⟨.none,0,0,[],false,false⟩,
 ⟨.none,0,0,[],false,false⟩,
 ⟨.none,0,0,[],false,false⟩,
 ⟨.none,0,0,[],false,false⟩,
 ⟨.none,0,0,[],false,false⟩,
 ⟨.none,0,0,[],false,false⟩,
 ⟨.none,0,0,[],false,false⟩,
 ⟨.none,0,0,[],false,false⟩,
 ⟨.none,0,0,[],false,false⟩,
 ⟨.none,0,0,[],false,false⟩,
 ⟨.strct [(0,1,3),(1,1,4),(2,1,3),(3,1,9)],4,40,[.int .i64 0,.bool false,.int .i64 0,.str []],false,false⟩,
 ⟨.strct [(0,1,3),(1,1,4),(2,1,3),(3,1,9)],4,40,[.int .i64 0,.bool false,.int .i64 0,.str []],false,false⟩,
 ⟨.none,0,0,[],false,false⟩,
 ⟨.none,0,0,[],false,false⟩,
 ⟨.none,0,0,[],false,false⟩,
 ⟨.none,0,0,[],false,false⟩,
 ⟨.none,0,0,[],false,false⟩,
 ⟨.none,0,0,[],false,false⟩,
 ⟨.none,0,0,[],false,false⟩,
 ⟨.none,0,0,[],false,false⟩,
 ⟨.none,0,0,[],false,false⟩,
 ⟨.none,0,0,[],false,false⟩,
 ⟨.none,0,0,[],false,false⟩,
 ⟨.none,0,0,[],false,false⟩,
 ⟨.none,0,0,[],false,false⟩,
 ⟨.none,0,0,[],false,false⟩,
 ⟨.none,0,0,[],false,false⟩,
 ⟨.none,0,0,[],false,false⟩,
 ⟨.none,0,0,[],false,false⟩,
 ⟨.none,0,0,[],false,false⟩,
 ⟨.none,0,0,[],false,false⟩,
 ⟨.strct [(0,1,3),(1,1,3),(2,1,22),(3,1,9),(4,1,4),(5,1,4),(6,1,3),(7,1,22),(8,1,9),(9,1,4),(10,2,27)],12,136,[.int .i64 0,.int .i64 0,.nils,.str [],.bool false,.bool false,.int .i64 0,.nils,.str [],.bool false,.int .i64 0,.int .i64 0],false,false⟩,
 ⟨.strct [(0,1,3),(1,1,3),(2,1,22),(3,1,9),(4,1,4),(5,1,4),(6,1,3),(7,1,22),(8,1,9),(9,1,4),(10,2,27)],12,136,[.int .i64 0,.int .i64 0,.nils,.str [],.bool false,.bool false,.int .i64 0,.nils,.str [],.bool false,.int .i64 0,.int .i64 0],false,false⟩,
 ⟨.none,0,0,[],false,false⟩,
 ⟨.strct [(0,1,3),(1,1,4),(2,1,3),(3,1,9)],4,40,[.int .i64 0,.bool false,.int .i64 0,.str []],false,false⟩,
 ⟨.none,0,0,[],false,false⟩,
 ⟨.strct [(0,1,3),(1,1,3),(2,1,32),(3,1,9),(4,1,4),(5,1,4),(6,1,3),(7,1,32),(8,1,9),(9,1,4),(10,2,36)],12,136,[.int .i64 0,.int .i64 0,.nils,.str [],.bool false,.bool false,.int .i64 0,.nils,.str [],.bool false,.int .i64 0,.int .i64 0],false,false⟩,
 ⟨.strct [(0,1,3),(1,1,3),(2,1,32),(3,1,9),(4,1,4),(5,1,4),(6,1,3),(7,1,32),(8,1,9),(9,1,4),(10,2,36)],12,136,[.int .i64 0,.int .i64 0,.nils,.str [],.bool false,.bool false,.int .i64 0,.nils,.str [],.bool false,.int .i64 0,.int .i64 0],false,false⟩,
 ⟨.none,0,0,[],false,false⟩,
 ⟨.none,0,0,[],false,false⟩,
 ⟨.none,0,0,[],false,false⟩,
 ⟨.none,0,0,[],false,false⟩,
 ⟨.none,0,0,[],false,false⟩,
 ⟨.none,0,0,[],false,false⟩,
 ⟨.none,0,0,[],false,false⟩,
 ⟨.none,0,0,[],false,false⟩,
 ⟨.none,0,0,[],false,false⟩,
 ⟨.none,0,0,[],false,false⟩,
 ⟨.ptr,1,8,[.nilp],false,false⟩,
 ⟨.ptr,1,8,[.nilp],false,false⟩,
 ⟨.none,0,0,[],false,false⟩,
 ⟨.none,0,0,[],false,false⟩,
 ⟨.none,0,0,[],false,false⟩,
 ⟨.none,0,0,[],false,false⟩,
 ⟨.none,0,0,[],false,false⟩,
 ⟨.none,0,0,[],false,false⟩,
 ⟨.none,0,0,[],false,false⟩,
 ⟨.none,0,0,[],false,false⟩,
 ⟨.none,0,0,[],false,false⟩,
 ⟨.none,0,0,[],false,false⟩,
 ⟨.none,0,0,[],false,false⟩,
 ⟨.none,0,0,[],false,false⟩,
 ⟨.none,0,0,[],false,false⟩,
 ⟨.none,0,0,[],false,false⟩,
 ⟨.none,0,0,[],false,false⟩,
 ⟨.slc 5,1,24,[.nils],false,false⟩,
 ⟨.none,0,0,[],false,false⟩,
 ⟨.strct [(0,1,9),(1,1,9),(2,1,4)],3,40,[.str [],.str [],.bool false],false,false⟩,
 ⟨.strct [(0,1,9),(1,1,9),(2,1,4)],3,40,[.str [],.str [],.bool false],false,false⟩,
 ⟨.none,0,0,[],false,false⟩,
 ⟨.none,0,0,[],false,false⟩,
 ⟨.none,0,0,[],false,false⟩,
 ⟨.strct [(0,1,9),(1,1,9),(2,1,4)],3,40,[.str [],.str [],.bool false],false,false⟩,
 ⟨.none,0,0,[],false,false⟩,
 ⟨.none,0,0,[],false,false⟩,
 ⟨.none,0,0,[],false,false⟩,
 ⟨.none,0,0,[],false,false⟩,
 ⟨.none,0,0,[],false,false⟩,
 ⟨.none,0,0,[],false,false⟩,
 ⟨.none,0,0,[],false,false⟩,
 ⟨.none,0,0,[],false,false⟩,
 ⟨.none,0,0,[],false,false⟩,
 ⟨.ptr,1,8,[.nilp],false,false⟩,
 ⟨.none,0,0,[],false,false⟩,
 ⟨.none,0,0,[],false,false⟩,
 ⟨.none,0,0,[],false,false⟩,
 ⟨.none,0,0,[],false,false⟩,
 ⟨.none,0,0,[],false,false⟩,
 ⟨.none,0,0,[],false,false⟩,
 ⟨.none,0,0,[],false,false⟩,
 ⟨.none,0,0,[],false,false⟩,
 ⟨.none,0,0,[],false,false⟩,
 ⟨.none,0,0,[],false,false⟩,
 ⟨.none,0,0,[],false,false⟩,
 ⟨.none,0,0,[],false,false⟩,
 ⟨.none,0,0,[],false,false⟩,
 ⟨.none,0,0,[],false,false⟩,
 ⟨.none,0,0,[],false,false⟩,
 ⟨.ptr,1,8,[.nilp],false,false⟩,
 ⟨.strct [(0,1,169),(1,1,136)],2,32,[.nilp,.nils],false,false⟩,
 ⟨.strct [(0,1,169),(1,1,136)],2,32,[.nilp,.nils],false,false⟩,
 ⟨.none,0,0,[],false,false⟩,
 ⟨.none,0,0,[],false,false⟩,
 ⟨.none,0,0,[],false,false⟩,
 ⟨.none,0,0,[],false,false⟩,
 ⟨.none,0,0,[],false,false⟩,
 ⟨.none,0,0,[],false,false⟩,
 ⟨.none,0,0,[],false,false⟩,
 ⟨.none,0,0,[],false,false⟩,
 ⟨.none,0,0,[],false,false⟩,
 ⟨.none,0,0,[],false,false⟩,
 ⟨.none,0,0,[],false,false⟩,
 ⟨.none,0,0,[],false,false⟩,
 ⟨.none,0,0,[],false,false⟩,
 ⟨.none,0,0,[],false,false⟩,
 ⟨.none,0,0,[],false,false⟩,
 ⟨.none,0,0,[],false,false⟩,
 ⟨.none,0,0,[],false,false⟩,
 ⟨.none,0,0,[],false,false⟩,
 ⟨.none,0,0,[],false,false⟩,
 ⟨.none,0,0,[],false,false⟩,
 ⟨.none,0,0,[],false,false⟩,
 ⟨.ptr,1,8,[.nilp],false,false⟩,
 ⟨.none,0,0,[],false,false⟩,
 ⟨.none,0,0,[],false,false⟩,
 ⟨.none,0,0,[],false,false⟩,
 ⟨.none,0,0,[],false,false⟩,
 ⟨.none,0,0,[],false,false⟩,
 ⟨.none,0,0,[],false,false⟩,
 ⟨.none,0,0,[],false,false⟩,
 ⟨.none,0,0,[],false,false⟩,
 ⟨.slc 32,1,24,[.nils],false,false⟩,
 ⟨.none,0,0,[],false,false⟩,
 ⟨.none,0,0,[],false,false⟩,
 ⟨.int .u64,1,8,[.int .u64 0],false,false⟩,
 ⟨.none,0,0,[],false,false⟩,
 ⟨.none,0,0,[],false,false⟩,
 ⟨.none,0,0,[],false,false⟩,
 ⟨.none,0,0,[],false,false⟩,
 ⟨.none,0,0,[],false,false⟩,
 ⟨.none,0,0,[],false,false⟩,
 ⟨.none,0,0,[],false,false⟩,
 ⟨.none,0,0,[],false,false⟩,
 ⟨.none,0,0,[],false,false⟩,
 ⟨.none,0,0,[],false,false⟩,
 ⟨.none,0,0,[],false,false⟩,
 ⟨.none,0,0,[],false,false⟩,
 ⟨.none,0,0,[],false,false⟩,
 ⟨.none,0,0,[],false,false⟩,
 ⟨.none,0,0,[],false,false⟩,
 ⟨.int .u64,1,8,[.int .u64 0],false,false⟩,
 ⟨.slc 5,1,24,[.nils],false,false⟩,
 ⟨.none,0,0,[],false,false⟩,
 ⟨.none,0,0,[],false,false⟩,
 ⟨.none,0,0,[],false,false⟩,
 ⟨.none,0,0,[],false,false⟩,
 ⟨.int .u32,1,4,[.int .u32 0],false,false⟩,
 ⟨.none,0,0,[],false,false⟩,
 ⟨.none,0,0,[],false,false⟩,
 ⟨.ptr,1,8,[.nilp],false,false⟩,
 ⟨.none,0,0,[],false,false⟩,
 ⟨.slc 3,1,24,[.nils],false,false⟩]
def D (t:Nat):TD:=(Dl[t]?).getD ⟨.none,0,0,[],false,false⟩
@[push_cast] theorem D2:D 2=⟨.int .i64,1,8,[.int .i64 0],false,false⟩:=rfl
@[push_cast] theorem D3:D 3=⟨.int .i64,1,8,[.int .i64 0],false,false⟩:=rfl
@[push_cast] theorem D4:D 4=⟨.bool,1,1,[.bool false],false,false⟩:=rfl
@[push_cast] theorem D5:D 5=⟨.int .u8,1,1,[.int .u8 0],false,false⟩:=rfl
@[push_cast] theorem D9:D 9=⟨.str,1,16,[.str []],false,false⟩:=rfl
@[push_cast] theorem D21:D 21=⟨.int .i32,1,4,[.int .i32 0],false,false⟩:=rfl
@[push_cast] theorem D22:D 22=⟨.slc 139,1,24,[.nils],false,false⟩:=rfl
@[push_cast] theorem D23:D 23=⟨.strct [(0,1,22),(1,1,3)],2,32,[.nils,.int .i64 0],false,false⟩:=rfl
@[push_cast] theorem D24:D 24=⟨.strct [(0,1,22),(1,1,3)],2,32,[.nils,.int .i64 0],false,false⟩:=rfl
@[push_cast] theorem D25:D 25=⟨.slc 103,1,24,[.nils],false,false⟩:=rfl
@[push_cast] theorem D26:D 26=⟨.strct [(0,1,3),(1,1,3)],2,16,[.int .i64 0,.int .i64 0],false,false⟩:=rfl
@[push_cast] theorem D27:D 27=⟨.strct [(0,1,3),(1,1,3)],2,16,[.int .i64 0,.int .i64 0],false,false⟩:=rfl
@[push_cast] theorem D28:D 28=⟨.slc 105,1,24,[.nils],false,false⟩:=rfl
@[push_cast] theorem D29:D 29=⟨.strct [(0,1,4),(1,2,24),(3,2,24),(5,1,9),(6,1,25),(7,2,27),(9,1,28),(10,1,4)],11,160,[.bool false,.nils,.int .i64 0,.nils,.int .i64 0,.str [],.nils,.int .i64 0,.int .i64 0,.nils,.bool false],false,false⟩:=rfl
@[push_cast] theorem D30:D 30=⟨.strct [(0,1,4),(1,2,24),(3,2,24),(5,1,9),(6,1,25),(7,2,27),(9,1,28),(10,1,4)],11,160,[.bool false,.nils,.int .i64 0,.nils,.int .i64 0,.str [],.nils,.int .i64 0,.int .i64 0,.nils,.bool false],false,false⟩:=rfl
@[push_cast] theorem D32:D 32=⟨.slc 143,1,24,[.nils],false,false⟩:=rfl
@[push_cast] theorem D33:D 33=⟨.strct [(0,1,32),(1,1,3)],2,32,[.nils,.int .i64 0],false,false⟩:=rfl
@[push_cast] theorem D34:D 34=⟨.strct [(0,1,32),(1,1,3)],2,32,[.nils,.int .i64 0],false,false⟩:=rfl
@[push_cast] theorem D35:D 35=⟨.slc 108,1,24,[.nils],false,false⟩:=rfl
@[push_cast] theorem D36:D 36=⟨.strct [(0,1,3),(1,1,3)],2,16,[.int .i64 0,.int .i64 0],false,false⟩:=rfl
@[push_cast] theorem D37:D 37=⟨.slc 82,1,24,[.nils],false,false⟩:=rfl
@[push_cast] theorem D38:D 38=⟨.strct [(0,1,4),(1,2,34),(3,2,34),(5,1,9),(6,1,35),(7,2,36),(9,1,37),(10,1,4)],11,160,[.bool false,.nils,.int .i64 0,.nils,.int .i64 0,.str [],.nils,.int .i64 0,.int .i64 0,.nils,.bool false],false,false⟩:=rfl
@[push_cast] theorem D39:D 39=⟨.strct [(0,1,4),(1,2,34),(3,2,34),(5,1,9),(6,1,35),(7,2,36),(9,1,37),(10,1,4)],11,160,[.bool false,.nils,.int .i64 0,.nils,.int .i64 0,.str [],.nils,.int .i64 0,.int .i64 0,.nils,.bool false],false,false⟩:=rfl
@[push_cast] theorem D45:D 45=⟨.strct [(0,11,30),(11,11,30),(22,1,9),(23,1,9)],24,352,[.bool false,.nils,.int .i64 0,.nils,.int .i64 0,.str [],.nils,.int .i64 0,.int .i64 0,.nils,.bool false,.bool false,.nils,.int .i64 0,.nils,.int .i64 0,.str [],.nils,.int .i64 0,.int .i64 0,.nils,.bool false,.str [],.str []],false,false⟩:=rfl
@[push_cast] theorem D46:D 46=⟨.strct [(0,11,30),(11,11,30),(22,1,9),(23,1,9)],24,352,[.bool false,.nils,.int .i64 0,.nils,.int .i64 0,.str [],.nils,.int .i64 0,.int .i64 0,.nils,.bool false,.bool false,.nils,.int .i64 0,.nils,.int .i64 0,.str [],.nils,.int .i64 0,.int .i64 0,.nils,.bool false,.str [],.str []],false,false⟩:=rfl
@[push_cast] theorem D47:D 47=⟨.strct [(0,1,3),(1,1,3),(2,1,3),(3,1,9),(4,1,9)],5,56,[.int .i64 0,.int .i64 0,.int .i64 0,.str [],.str []],false,false⟩:=rfl
@[push_cast] theorem D48:D 48=⟨.strct [(0,1,3),(1,1,3),(2,1,3),(3,1,9),(4,1,9)],5,56,[.int .i64 0,.int .i64 0,.int .i64 0,.str [],.str []],false,false⟩:=rfl
@[push_cast] theorem D51:D 51=⟨.strct [(0,11,39),(11,11,39),(22,1,9),(23,1,9)],24,352,[.bool false,.nils,.int .i64 0,.nils,.int .i64 0,.str [],.nils,.int .i64 0,.int .i64 0,.nils,.bool false,.bool false,.nils,.int .i64 0,.nils,.int .i64 0,.str [],.nils,.int .i64 0,.int .i64 0,.nils,.bool false,.str [],.str []],false,false⟩:=rfl
@[push_cast] theorem D52:D 52=⟨.strct [(0,11,39),(11,11,39),(22,1,9),(23,1,9)],24,352,[.bool false,.nils,.int .i64 0,.nils,.int .i64 0,.str [],.nils,.int .i64 0,.int .i64 0,.nils,.bool false,.bool false,.nils,.int .i64 0,.nils,.int .i64 0,.str [],.nils,.int .i64 0,.int .i64 0,.nils,.bool false,.str [],.str []],false,false⟩:=rfl
@[push_cast] theorem D55:D 55=⟨.strct [(0,1,3),(1,1,3),(2,1,3),(3,1,9),(4,1,9)],5,56,[.int .i64 0,.int .i64 0,.int .i64 0,.str [],.str []],false,false⟩:=rfl
@[push_cast] theorem D62:D 62=⟨.slc 48,1,24,[.nils],false,false⟩:=rfl
@[push_cast] theorem D66:D 66=⟨.slc 55,1,24,[.nils],false,false⟩:=rfl
@[push_cast] theorem D81:D 81=⟨.strct [(0,1,3),(1,1,4),(2,1,3),(3,1,9)],4,40,[.int .i64 0,.bool false,.int .i64 0,.str []],false,false⟩:=rfl
@[push_cast] theorem D82:D 82=⟨.strct [(0,1,3),(1,1,4),(2,1,3),(3,1,9)],4,40,[.int .i64 0,.bool false,.int .i64 0,.str []],false,false⟩:=rfl
@[push_cast] theorem D102:D 102=⟨.strct [(0,1,3),(1,1,3),(2,1,22),(3,1,9),(4,1,4),(5,1,4),(6,1,3),(7,1,22),(8,1,9),(9,1,4),(10,2,27)],12,136,[.int .i64 0,.int .i64 0,.nils,.str [],.bool false,.bool false,.int .i64 0,.nils,.str [],.bool false,.int .i64 0,.int .i64 0],false,false⟩:=rfl
@[push_cast] theorem D103:D 103=⟨.strct [(0,1,3),(1,1,3),(2,1,22),(3,1,9),(4,1,4),(5,1,4),(6,1,3),(7,1,22),(8,1,9),(9,1,4),(10,2,27)],12,136,[.int .i64 0,.int .i64 0,.nils,.str [],.bool false,.bool false,.int .i64 0,.nils,.str [],.bool false,.int .i64 0,.int .i64 0],false,false⟩:=rfl
@[push_cast] theorem D105:D 105=⟨.strct [(0,1,3),(1,1,4),(2,1,3),(3,1,9)],4,40,[.int .i64 0,.bool false,.int .i64 0,.str []],false,false⟩:=rfl
@[push_cast] theorem D107:D 107=⟨.strct [(0,1,3),(1,1,3),(2,1,32),(3,1,9),(4,1,4),(5,1,4),(6,1,3),(7,1,32),(8,1,9),(9,1,4),(10,2,36)],12,136,[.int .i64 0,.int .i64 0,.nils,.str [],.bool false,.bool false,.int .i64 0,.nils,.str [],.bool false,.int .i64 0,.int .i64 0],false,false⟩:=rfl
@[push_cast] theorem D108:D 108=⟨.strct [(0,1,3),(1,1,3),(2,1,32),(3,1,9),(4,1,4),(5,1,4),(6,1,3),(7,1,32),(8,1,9),(9,1,4),(10,2,36)],12,136,[.int .i64 0,.int .i64 0,.nils,.str [],.bool false,.bool false,.int .i64 0,.nils,.str [],.bool false,.int .i64 0,.int .i64 0],false,false⟩:=rfl
@[push_cast] theorem D119:D 119=⟨.ptr,1,8,[.nilp],false,false⟩:=rfl
@[push_cast] theorem D120:D 120=⟨.ptr,1,8,[.nilp],false,false⟩:=rfl
@[push_cast] theorem D136:D 136=⟨.slc 5,1,24,[.nils],false,false⟩:=rfl
@[push_cast] theorem D138:D 138=⟨.strct [(0,1,9),(1,1,9),(2,1,4)],3,40,[.str [],.str [],.bool false],false,false⟩:=rfl
@[push_cast] theorem D139:D 139=⟨.strct [(0,1,9),(1,1,9),(2,1,4)],3,40,[.str [],.str [],.bool false],false,false⟩:=rfl
@[push_cast] theorem D143:D 143=⟨.strct [(0,1,9),(1,1,9),(2,1,4)],3,40,[.str [],.str [],.bool false],false,false⟩:=rfl
@[push_cast] theorem D153:D 153=⟨.ptr,1,8,[.nilp],false,false⟩:=rfl
@[push_cast] theorem D169:D 169=⟨.ptr,1,8,[.nilp],false,false⟩:=rfl
@[push_cast] theorem D170:D 170=⟨.strct [(0,1,169),(1,1,136)],2,32,[.nilp,.nils],false,false⟩:=rfl
@[push_cast] theorem D171:D 171=⟨.strct [(0,1,169),(1,1,136)],2,32,[.nilp,.nils],false,false⟩:=rfl
@[push_cast] theorem D193:D 193=⟨.ptr,1,8,[.nilp],false,false⟩:=rfl
@[push_cast] theorem D202:D 202=⟨.slc 32,1,24,[.nils],false,false⟩:=rfl
@[push_cast] theorem D205:D 205=⟨.int .u64,1,8,[.int .u64 0],false,false⟩:=rfl
@[push_cast] theorem D221:D 221=⟨.int .u64,1,8,[.int .u64 0],false,false⟩:=rfl
@[push_cast] theorem D222:D 222=⟨.slc 5,1,24,[.nils],false,false⟩:=rfl
@[push_cast] theorem D227:D 227=⟨.int .u32,1,4,[.int .u32 0],false,false⟩:=rfl
@[push_cast] theorem D230:D 230=⟨.ptr,1,8,[.nilp],false,false⟩:=rfl
@[push_cast] theorem D232:D 232=⟨.slc 3,1,24,[.nils],false,false⟩:=rfl
theorem chkD:(List.range Dl.length).all (fun t=>tyChk Tryz.prog t (D t) && decide ((D t).size < 1000000) && !(D t).bld)=true:=by kernel_rfl
theorem hD:TypesOk Tryz.prog D:=typesOk_of Dl D (fun _=>rfl) chkD (by kernel_rfl)
end
section
open Go
def jsOk (pf:Option FuncId→Bool) (J:Nat→List Nat):Code→Bool
 | .region id ops true=>drawOk pf ops.toList (J id)
 | .seq a b=>jsOk pf J a && jsOk pf J b
 | .cond _ a b=>jsOk pf J a && jsOk pf J b
 | .block _ c=>jsOk pf J c
 | _=>true
def evC (P:Program) (D:Nat→TD) (N:Nat) (pf:Option FuncId→Bool) (J:Nat→List Nat):Code→(Exit→(Nat→V)→List Blk→Prop)→(Nat→V)→List Blk→Prop
 | .skip,k,t,S=>k .normal t S
 | .ret,k,t,S=>k .ret t S
 | .exit id,k,t,S=>k (.exit id) t S
 | .region _ ops false,k,t,S=>evOps P D ops.toList ops.toList t S (k .normal)
 | .region id ops true,k,t,S=>evDraw P D pf ops.toList ops.toList 0 (J id) t S [] [] (k .normal)
 | .seq a b,k,t,S=>evC P D N pf J a (thenK (evC P D N pf J b k) k) t S
 | .cond c a b,k,t,S=>condK (evalT t c) (evC P D N pf J a k t S) (evC P D N pf J b k t S)
 | .block id c,k,t,S=>evC P D N pf J c (blockK id k) t S
 | c,k,t,S=>wpV P D N c k t S
section
variable {P:Program} {D:Nat→TD} {N:Nat} {pf:Option FuncId→Bool} {J:Nat→List Nat}
theorem thenK_mono {K K':(Nat→V)→List Blk→Prop} {k:Exit→(Nat→V)→List Blk→Prop} (h:∀t S,K t S→K' t S):∀e t S,thenK K k e t S→thenK K' k e t S:=by
 intro e t S hk
 cases e <;> first | exact h _ _ hk | exact hk
theorem wpV_of_ev (hD:TypesOk P D):∀(c:Code) {k:Exit→(Nat→V)→List Blk→Prop} {t:Nat→V} {S:List Blk},jsOk pf J c=true→evC P D N pf J c k t S→wpV P D N c k t S:=by
 intro c
 induction c with
 | skip=>intro k t S _ h; exact wpV_skip (by simpa [evC] using h)
 | ret=>intro k t S _ h; exact wpV_ret (by simpa [evC] using h)
 | exit id=>intro k t S _ h; exact wpV_exit (by simpa [evC] using h)
 | region id ops d =>
  intro k t S hj h
  cases d with
  | false=>exact wpV_region hD (by simpa [evC] using h)
  | true=>exact wpV_draw hD pf (J id) (by simpa [jsOk] using hj) (by simpa [evC] using h)
 | seq a b iha ihb =>
  intro k t S hj h
  simp only [jsOk,Bool.and_eq_true] at hj
  simp only [evC] at h
  refine wpV_seq (wpV_mono (iha hj.1 h) ?_)
  exact thenK_mono (fun t S hh=>ihb hj.2 hh)
 | cond c a b iha ihb =>
  intro k t S hj h
  simp only [jsOk,Bool.and_eq_true] at hj
  simp only [evC] at h
  refine wpV_cond ?_
  unfold condK at h ⊢
  split at h
  ·rename_i x hx
   exact ⟨fun e=>iha hj.1 (h.1 e),fun e=>ihb hj.2 (h.2 e)⟩
  ·exact h.elim
 | block id c ih =>
  intro k t S hj h
  exact wpV_block (ih (by simpa [jsOk] using hj) (by simpa [evC] using h))
 | _=>intro k t S _ h; exact (by simpa [evC] using h)
theorem wpV_of (hD:TypesOk P D) (pf:Option FuncId→Bool) (J:Nat→List Nat) {c:Code} {k:Exit→(Nat→V)→List Blk→Prop} {t:Nat→V} {S:List Blk} (hj:jsOk pf J c=true) (h:evC P D N pf J c k t S):wpV P D N c k t S :=
 wpV_of_ev hD c hj h
def endK (D:Nat→TD) (rs:List ResultVar) (S:List Blk) (q:V→List Blk→Prop) (e:Exit) (t':Nat→V) (S':List Blk):Prop :=
 (e=.normal∨e=.ret)∧evRes D rs t' S' fun vs=>∃r S2,Wk S (oneOf vs) S' r S2∧q r S2
theorem VCall.of_ev (hD:TypesOk P D) (pf:Option FuncId→Bool) (J:Nat→List Nat) {f:FuncId} {fn:Func} {c:Code} (hf:P.funcs[f]?=some fn) (hb:fn.body=some c) (hname:(fn.name == "runtime.NumGoroutine")=false) {n:Nat} (hn:fn.ntmps=n) (hok:codeOk n c=true) (hj:jsOk pf J c=true)
  {rs:List ResultVar} (hrs:fn.results.toList=rs) {args:List V} (hargs:args.length≤n) {S:List Blk} {q:V→List Blk→Prop}
  (h:evC P D n pf J c (endK D rs S q) (argT args) S):VCall P f args S q :=
 .inl <| VCall.of_body hD hf hb hname hn hok hrs hargs (wpV_of_ev hD c hj h)
theorem VCall.ex (hD:TypesOk P D) (pf:Option FuncId→Bool) (J:Nat→List Nat) {f:FuncId} {fn:Func} {c:Code} {n:Nat} {ra:Array ResultVar} {args:List V} {S:List Blk} {q:V→List Blk→Prop} (hf:P.funcs[f]?=some fn) (hn:fn.ntmps=n) (hrs:fn.results=ra)
  (h:evC P D n pf J c (endK D ra.toList S q) (argT args) S) (hb:fn.body=some c:=by exact rfl) (hname:(fn.name == "runtime.NumGoroutine")=false:=by exact rfl) (hok:codeOk n c=true:=by kernel_rfl) (hj:jsOk pf J c=true:=by kernel_rfl) (hargs:args.length≤n:=by simp):VCall P f args S q :=
 VCall.of_ev hD pf J hf hb hname hn hok hj (congrArg Array.toList hrs) hargs h
theorem VCall.en (hD:TypesOk P D) {f:FuncId} {fn:Func} {c:Code} {n:Nat} {ra:Array ResultVar} {args:List V} {S:List Blk} {q:V→List Blk→Prop} (hf:P.funcs[f]?=some fn) (hn:fn.ntmps=n) (hrs:fn.results=ra)
  (h:evC P D n (fun _=>false) (fun _=>[]) c (endK D ra.toList S q) (argT args) S) (hb:fn.body=some c:=by exact rfl) (hname:(fn.name == "runtime.NumGoroutine")=false:=by exact rfl) (hok:codeOk n c=true:=by kernel_rfl) (hj:jsOk (fun _=>false) (fun _=>[]) c=true:=by kernel_rfl) (hargs:args.length≤n:=by simp):VCall P f args S q :=
 VCall.of_ev hD _ _ hf hb hname hn hok hj (congrArg Array.toList hrs) hargs h
theorem wpV_of0 (hD:TypesOk P D) {c:Code} {k:Exit→(Nat→V)→List Blk→Prop} {t:Nat→V} {S:List Blk} (h:evC P D N (fun _=>false) (fun _=>[]) c k t S) (hj:jsOk (fun _=>false) (fun _=>[]) c=true:=by kernel_rfl):wpV P D N c k t S :=
 wpV_of hD _ _ hj h
theorem VCall.mono {f:FuncId} {args:List V} {S:List Blk} {q k:V→List Blk→Prop} (h:VCall P f args S q) (hk:∀r S',q r S'→k r S'):VCall P f args S k:=by
 rcases h with ⟨he,r,S',hq,hd⟩ | ⟨r,hq,hx⟩
 ·exact .inl ⟨he,r,S',hk r S' hq,hd⟩
 ·exact .inr ⟨r,hk r S hq,hx⟩
theorem VCall.to {f:FuncId} {args:List V} {S:List Blk} {x:V} {S1:List Blk} {k:V→List Blk→Prop} (h:VCall P f args S fun r S'=>r=x∧S'=S1) (hk:k x S1):VCall P f args S k :=
 h.mono (by rintro _ _ ⟨rfl,rfl⟩; exact hk)
section
variable {a a':List Oper} {o o':List Oper} {t t':Nat→V} {S S':List Blk} {k:(Nat→V)→List Blk→Prop}
@[congr] theorem evOps_congr (h1:t=t') (h2:S=S'):evOps P D a o t S k=evOps P D a o t' S' k:=by rw [h1,h2]
@[congr] theorem evC_congr {c:Code} {k:Exit→(Nat→V)→List Blk→Prop} (h1:t=t') (h2:S=S'):evC P D N pf J c k t S=evC P D N pf J c k t' S':=by rw [h1,h2]
@[congr] theorem wpV_congr {c:Code} {k:Exit→(Nat→V)→List Blk→Prop} (h1:t=t') (h2:S=S'):wpV P D N c k t S=wpV P D N c k t' S':=by rw [h1,h2]
@[congr] theorem condK_congr {v v':V} {p q:Prop} (h1:v=v'):condK v p q=condK v' p q:=by rw [h1]
@[congr] theorem VCall_congr {f:FuncId} {args args':List V} {q:V→List Blk→Prop} (h1:args=args') (h2:S=S'):VCall P f args S q=VCall P f args' S' q:=by rw [h1,h2]
@[congr] theorem evOp_congr {x:Op} {ρ:Operand→V} {q:V→List Blk→Prop} (h2:S=S'):evOp P D x ρ S q=evOp P D x ρ S' q:=by rw [h2]
@[congr] theorem evDrawOp_congr {x:Op} {ρ:Operand→V} {j n:Nat} {h:List (List Blk)} {p:List (Nat × Nat)} {q:V→List Blk→List (List Blk)→List (Nat × Nat)→Prop} (h2:S=S'):evDrawOp P D pf x ρ j n S h p q=evDrawOp P D pf x ρ j n S' h p q:=by rw [h2]
@[congr] theorem evDraw_congr {j:Nat} {js:List Nat} {h:List (List Blk)} {p:List (Nat × Nat)} (h1:t=t') (h2:S=S'):evDraw P D pf a o j js t S h p k=evDraw P D pf a o j js t' S' h p k:=by rw [h1,h2]
@[congr] theorem evRes_congr {rs:List ResultVar} {q:List V→Prop} (h1:t=t') (h2:S=S'):evRes D rs t S q=evRes D rs t' S' q:=by rw [h1,h2]
theorem condK_t (p q:Prop):condK (.bool true) p q=p:=by simp [condK]
theorem condK_f (p q:Prop):condK (.bool false) p q=q:=by simp [condK]
theorem gd (p q:Prop):(guardK true true p q=p∧guardK false false p q=p)∧(guardK true false p q=q∧guardK false true p q=q)∧condK (.bool true) p q=p∧condK (.bool false) p q=q :=
 ⟨⟨guardK_tt p q,guardK_ff p q⟩,⟨guardK_tf p q,guardK_ft p q⟩,condK_t p q,condK_f p q⟩
attribute [push_cast] Option.some.injEq
theorem condK_b (b:Bool) (p q:Prop):condK (.bool b) p q=((b=true→p)∧(b=false→q)):=rfl
section
variable {v v' x x' y y':V} {vs vs' ws ws':List V} {q:V→Prop} {q2:V→List Blk→Prop} {S S':List Blk} {t u n m:Nat} {z:Int}
@[congr] theorem evBin_congr {o:BinOp} (h1:x=x') (h2:y=y'):evBin D o t x y q=evBin D o t x' y' q:=by rw [h1,h2]
@[congr] theorem evUn_congr {o:UnOp} (h1:x=x'):evUn o x q=evUn o x' q:=by rw [h1]
@[congr] theorem evConv_congr (h1:x=x'):evConv D t u x q=evConv D t u x' q:=by rw [h1]
@[congr] theorem evConvS_congr (h1:x=x') (h2:S=S'):evConvS P D t u x S q2=evConvS P D t u x' S' q2:=by rw [h1,h2]
@[congr] theorem evData_congr (h1:x=x'):evData x q=evData x' q:=by rw [h1]
@[congr] theorem evUStr_congr (h1:x=x') (h2:y=y') (h3:S=S'):evUStr P t x y S q2=evUStr P t x' y' S' q2:=by rw [h1,h2,h3]
@[congr] theorem appW_congr (h1:x=x') (h2:y=y') (h3:S=S'):appW D t x y S q2=appW D t x' y' S' q2:=by rw [h1,h2,h3]
@[congr] theorem evPart_congr (h1:vs=vs') (h2:n=m):evPart D t vs n q=evPart D t vs' m q:=by rw [h1,h2]
@[congr] theorem evLoad_congr (h1:x=x') (h2:S=S'):evLoad D t x S q=evLoad D t x' S' q:=by rw [h1,h2]
@[congr] theorem evStore_congr {q:List Blk→Prop} (h1:x=x') (h2:y=y') (h3:S=S'):evStore D t x y S q=evStore D t x' y' S' q:=by rw [h1,h2,h3]
@[congr] theorem evFill_congr {fs:List (Nat × Nat × TypeId)} {ps ps':List (Nat × V)} {q:List V→Prop} (h1:ps=ps') (h2:vs=vs'):evFill fs ps vs q=evFill fs ps' vs' q:=by rw [h1,h2]
@[congr] theorem evBuild_congr {ps ps':List (Nat × V)} (h1:ps=ps'):evBuild D t ps q=evBuild D t ps' q:=by rw [h1]
@[congr] theorem evBuildSlice_congr {ps ps':List (Nat × V)} (h1:ps=ps') (h2:S=S'):evBuildSlice D t n ps S q2=evBuildSlice D t n ps' S' q2:=by rw [h1,h2]
@[congr] theorem evFrozen_congr {ps ps':List (Nat × V)} (h1:ps=ps'):evFrozen D t n ps q=evFrozen D t n ps' q:=by rw [h1]
@[congr] theorem evIndexAddr_congr (h1:x=x') (h2:y=y'):evIndexAddr D t x y q=evIndexAddr D t x' y' q:=by rw [h1,h2]
@[congr] theorem evIndex_congr (h1:x=x') (h2:y=y'):evIndex D t x y q=evIndex D t x' y' q:=by rw [h1,h2]
@[congr] theorem evEnd_congr {o o':Option V} {q:Int→Prop} (h1:o=o') (h2:n=m):evEnd o n q=evEnd o' m q:=by rw [h1,h2]
@[congr] theorem evSlice_congr {o o' p p':Option V} (h1:x=x') (h2:o=o') (h3:p=p'):evSlice D t x o p q=evSlice D t x' o' p' q:=by rw [h1,h2,h3]
@[congr] theorem evFieldAddr_congr (h1:x=x'):evFieldAddr D t x n q=evFieldAddr D t x' n q:=by rw [h1]
@[congr] theorem evField_congr (h1:x=x'):evField D t x n q=evField D t x' n q:=by rw [h1]
@[congr] theorem evExtract_congr (h1:x=x'):evExtract x n q=evExtract x' n q:=by rw [h1]
@[congr] theorem evLen_congr (h1:x=x'):evLen D t x q=evLen D t x' q:=by rw [h1]
@[congr] theorem srcCells_congr {q:Nat→List V→Prop} (h1:x=x') (h2:S=S') (h3:n=m):srcCells x n S q=srcCells x' m S' q:=by rw [h1,h2,h3]
@[congr] theorem srcRows_congr {q:List V→Prop} (h1:x=x'):srcRows D t x q=srcRows D t x' q:=by rw [h1]
@[congr] theorem evAppend_congr (h1:x=x') (h2:y=y') (h3:S=S'):evAppend D t u x y S q2=evAppend D t u x' y' S' q2:=by rw [h1,h2,h3]
@[congr] theorem evMin_congr (h1:x=x') (h2:y=y'):evMin x y q=evMin x' y' q:=by rw [h1,h2]
@[congr] theorem evMax_congr (h1:x=x') (h2:y=y'):evMax x y q=evMax x' y' q:=by rw [h1,h2]
@[congr] theorem evFn_congr (h1:x=x') (h2:vs=vs') (h3:S=S'):evFn P x vs S q2=evFn P x' vs' S' q2:=by rw [h1,h2,h3]
@[congr] theorem evPure_congr (h1:x=x') (h2:vs=vs'):evPure P x vs q=evPure P x' vs' q:=by rw [h1,h2]
@[congr] theorem PCall_congr {f:FuncId} (h2:vs=vs'):PCall P f vs q=PCall P f vs' q:=by rw [h2]
@[congr] theorem evBuiltin_congr {b:Builtin} {ts:List TypeId} (h2:vs=vs') (h3:S=S'):evBuiltin P D b ts vs S q2=evBuiltin P D b ts vs' S' q2:=by rw [h2,h3]
@[congr] theorem evMakeFunc_congr {f:Fn} (h1:vs=vs') (h2:ws=ws'):evMakeFunc f vs ws q=evMakeFunc f vs' ws' q:=by rw [h1,h2]
@[congr] theorem evNil_congr (h1:x=x'):evNil x q=evNil x' q:=by rw [h1]
@[congr] theorem evMakeSlice_congr (h1:x=x') (h2:y=y') (h3:S=S'):evMakeSlice D t x y S q2=evMakeSlice D t x' y' S' q2:=by rw [h1,h2,h3]
@[congr] theorem evEqS_congr {q:Bool→Prop} (h1:vs=vs') (h2:ws=ws'):evEqS D t vs ws q=evEqS D t vs' ws' q:=by rw [h1,h2]
end
end
end
section
variable {P:Program} {D:Nat→TD} {N:Nat} {pf:Option FuncId→Bool} {J:Nat→List Nat} (k:Exit→(Nat→V)→List Blk→Prop) (t:Nat→V) (S S0:List Blk) (id:Nat) (ops:Array Oper) (a b:Code) (c:Operand) (rs:List ResultVar) (q:V→List Blk→Prop)
@[push_cast] theorem evC_skip:evC P D N pf J .skip k t S=k .normal t S:=rfl
@[push_cast] theorem evC_ret:evC P D N pf J .ret k t S=k .ret t S:=rfl
@[push_cast] theorem evC_exit:evC P D N pf J (.exit id) k t S=k (.exit id) t S:=rfl
@[push_cast] theorem evC_region:evC P D N pf J (.region id ops false) k t S=evOps P D ops.toList ops.toList t S (k .normal):=rfl
@[push_cast] theorem evC_draw:evC P D N pf J (.region id ops true) k t S=evDraw P D pf ops.toList ops.toList 0 (J id) t S [] [] (k .normal):=rfl
@[push_cast] theorem evC_seq:evC P D N pf J (.seq a b) k t S=evC P D N pf J a (thenK (evC P D N pf J b k) k) t S:=rfl
@[push_cast] theorem evC_cond:evC P D N pf J (.cond c a b) k t S=condK (evalT t c) (evC P D N pf J a k t S) (evC P D N pf J b k t S):=rfl
@[push_cast] theorem evC_block:evC P D N pf J (.block id a) k t S=evC P D N pf J a (blockK id k) t S:=rfl
@[push_cast] theorem evC_loop:evC P D N pf J (.loop a) k t S=wpV P D N (.loop a) k t S:=rfl
@[push_cast] theorem endK_n:endK D rs S0 q .normal t S=evRes D rs t S fun vs=>∃r S2,Wk S0 (oneOf vs) S r S2∧q r S2:=by simp [endK]
@[push_cast] theorem endK_r:endK D rs S0 q .ret t S=evRes D rs t S fun vs=>∃r S2,Wk S0 (oneOf vs) S r S2∧q r S2:=by simp [endK]
end
attribute [push_cast low] condK_b
attribute [push_cast] List.toList_toArray true_or or_true false_or or_false
end
end Go.Proofs.YtldogccmhncnoaaGreatDoor
