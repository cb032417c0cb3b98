/- A part of the proof: contracts of functions, or plain facts on which these lean. -/
import Derived.Test.YtldogccmhncnoaaGreatProg
import Derived.Test.YtldogccmhncnoaaGreatMk11
namespace Go.Proofs.YtldogccmhncnoaaGreat
open Go
set_option linter.unusedVariables false
set_option linter.unusedSimpArgs false
set_option maxRecDepth 100000
set_option maxHeartbeats 16000000

section
open Go
def Dl:List TD:=[
 ⟨.none,0,0,[],false,false⟩,
 ⟨.none,0,0,[],false,false⟩,
 ⟨.int .i64,1,8,[.int .i64 0],false,false⟩,
 ⟨.int .i64,1,8,[.int .i64 0],false,false⟩,
 ⟨.bool,1,1,[.bool false],false,false⟩,
 ⟨.int .u8,1,1,[.int .u8 0],false,false⟩,
 ⟨.none,0,0,[],false,false⟩,
 ⟨.none,0,0,[],false,false⟩,
 ⟨.none,0,0,[],false,false⟩,
 ⟨.str,1,16,[.str []],false,false⟩,
 ⟨.none,0,0,[],false,false⟩,
 ⟨.none,0,0,[],false,false⟩,
 ⟨.none,0,0,[],false,false⟩,
 ⟨.none,0,0,[],false,false⟩,
 ⟨.none,0,0,[],false,false⟩,
 ⟨.none,0,0,[],false,false⟩,
 ⟨.none,0,0,[],false,false⟩,
 ⟨.none,0,0,[],false,false⟩,
 ⟨.none,0,0,[],false,false⟩,
 ⟨.none,0,0,[],false,false⟩,
 ⟨.none,0,0,[],false,false⟩,
 ⟨.int .i32,1,4,[.int .i32 0],false,false⟩,
 ⟨.slc 112,1,24,[.nils],false,false⟩,
 ⟨.strct [(0,1,22),(1,1,3)],2,32,[.nils,.int .i64 0],false,false⟩,
 ⟨.strct [(0,1,22),(1,1,3)],2,32,[.nils,.int .i64 0],false,false⟩,
 ⟨.slc 83,1,24,[.nils],false,false⟩,
 ⟨.strct [(0,1,3),(1,1,3)],2,16,[.int .i64 0,.int .i64 0],false,false⟩,
 ⟨.strct [(0,1,3),(1,1,3)],2,16,[.int .i64 0,.int .i64 0],false,false⟩,
 ⟨.slc 85,1,24,[.nils],false,false⟩,
 ⟨.strct [(0,1,4),(1,2,24),(3,2,24),(5,1,9),(6,1,25),(7,2,27),(9,1,28),(10,1,4)],11,160,[.bool false,.nils,.int .i64 0,.nils,.int .i64 0,.str [],.nils,.int .i64 0,.int .i64 0,.nils,.bool false],false,false⟩,
 ⟨.strct [(0,1,4),(1,2,24),(3,2,24),(5,1,9),(6,1,25),(7,2,27),(9,1,28),(10,1,4)],11,160,[.bool false,.nils,.int .i64 0,.nils,.int .i64 0,.str [],.nils,.int .i64 0,.int .i64 0,.nils,.bool false],false,false⟩,
 ⟨.none,0,0,[],false,false⟩,
 ⟨.slc 117,1,24,[.nils],false,false⟩,
 ⟨.strct [(0,1,32),(1,1,3)],2,32,[.nils,.int .i64 0],false,false⟩,
 ⟨.strct [(0,1,32),(1,1,3)],2,32,[.nils,.int .i64 0],false,false⟩,
 ⟨.slc 70,1,24,[.nils],false,false⟩,
 ⟨.strct [(0,1,3),(1,1,3)],2,16,[.int .i64 0,.int .i64 0],false,false⟩,
 ⟨.slc 61,1,24,[.nils],false,false⟩,
 ⟨.strct [(0,1,4),(1,2,34),(3,2,34),(5,1,9),(6,1,35),(7,2,36),(9,1,37),(10,1,4)],11,160,[.bool false,.nils,.int .i64 0,.nils,.int .i64 0,.str [],.nils,.int .i64 0,.int .i64 0,.nils,.bool false],false,false⟩,
 ⟨.strct [(0,1,4),(1,2,34),(3,2,34),(5,1,9),(6,1,35),(7,2,36),(9,1,37),(10,1,4)],11,160,[.bool false,.nils,.int .i64 0,.nils,.int .i64 0,.str [],.nils,.int .i64 0,.int .i64 0,.nils,.bool false],false,false⟩,
 ⟨.none,0,0,[],false,false⟩,
 ⟨.none,0,0,[],false,false⟩,
 ⟨.none,0,0,[],false,false⟩,
 ⟨.none,0,0,[],false,false⟩,
 ⟨.none,0,0,[],false,false⟩,
 ⟨.none,0,0,[],false,false⟩,
 ⟨.none,0,0,[],false,false⟩,
 ⟨.none,0,0,[],false,false⟩,
 ⟨.none,0,0,[],false,false⟩,
 ⟨.none,0,0,[],false,false⟩,
 ⟨.none,0,0,[],false,false⟩,
 ⟨.none,0,0,[],false,false⟩,
 ⟨.none,0,0,[],false,false⟩,
 ⟨.none,0,0,[],false,false⟩,
 ⟨.none,0,0,[],false,false⟩,
 ⟨.none,0,0,[],false,false⟩,
 ⟨.ptr,1,8,[.nilp],false,false⟩,
 ⟨.slc 5,1,24,[.nils],false,false⟩,
 ⟨.strct [(0,1,56),(1,1,57)],2,32,[.nilp,.nils],false,false⟩,
 ⟨.strct [(0,1,56),(1,1,57)],2,32,[.nilp,.nils],false,false⟩,
 ⟨.strct [(0,1,3),(1,1,4),(2,1,3),(3,1,9)],4,40,[.int .i64 0,.bool false,.int .i64 0,.str []],false,false⟩,
 ⟨.strct [(0,1,3),(1,1,4),(2,1,3),(3,1,9)],4,40,[.int .i64 0,.bool false,.int .i64 0,.str []],false,false⟩,
 ⟨.none,0,0,[],false,false⟩,
 ⟨.none,0,0,[],false,false⟩,
 ⟨.none,0,0,[],false,false⟩,
 ⟨.none,0,0,[],false,false⟩,
 ⟨.none,0,0,[],false,false⟩,
 ⟨.none,0,0,[],false,false⟩,
 ⟨.ptr,1,8,[.nilp],false,false⟩,
 ⟨.strct [(0,1,3),(1,1,3),(2,1,32),(3,1,9),(4,1,4),(5,1,4),(6,1,3),(7,1,32),(8,1,9),(9,1,4),(10,2,36)],12,136,[.int .i64 0,.int .i64 0,.nils,.str [],.bool false,.bool false,.int .i64 0,.nils,.str [],.bool false,.int .i64 0,.int .i64 0],false,false⟩,
 ⟨.strct [(0,1,3),(1,1,3),(2,1,32),(3,1,9),(4,1,4),(5,1,4),(6,1,3),(7,1,32),(8,1,9),(9,1,4),(10,2,36)],12,136,[.int .i64 0,.int .i64 0,.nils,.str [],.bool false,.bool false,.int .i64 0,.nils,.str [],.bool false,.int .i64 0,.int .i64 0],false,false⟩,
 ⟨.none,0,0,[],false,false⟩,
 ⟨.none,0,0,[],false,false⟩,
 ⟨.none,0,0,[],false,false⟩,
 ⟨.none,0,0,[],false,false⟩,
 ⟨.none,0,0,[],false,false⟩,
 ⟨.none,0,0,[],false,false⟩,
 ⟨.none,0,0,[],false,false⟩,
 ⟨.none,0,0,[],false,false⟩,
 ⟨.none,0,0,[],false,false⟩,
 ⟨.none,0,0,[],false,false⟩,
 ⟨.none,0,0,[],false,false⟩,
 ⟨.strct [(0,1,3),(1,1,3),(2,1,22),(3,1,9),(4,1,4),(5,1,4),(6,1,3),(7,1,22),(8,1,9),(9,1,4),(10,2,27)],12,136,[.int .i64 0,.int .i64 0,.nils,.str [],.bool false,.bool false,.int .i64 0,.nils,.str [],.bool false,.int .i64 0,.int .i64 0],false,false⟩,
 ⟨.strct [(0,1,3),(1,1,3),(2,1,22),(3,1,9),(4,1,4),(5,1,4),(6,1,3),(7,1,22),(8,1,9),(9,1,4),(10,2,27)],12,136,[.int .i64 0,.int .i64 0,.nils,.str [],.bool false,.bool false,.int .i64 0,.nils,.str [],.bool false,.int .i64 0,.int .i64 0],false,false⟩,
 ⟨.none,0,0,[],false,false⟩,
 ⟨.strct [(0,1,3),(1,1,4),(2,1,3),(3,1,9)],4,40,[.int .i64 0,.bool false,.int .i64 0,.str []],false,false⟩,
 ⟨.none,0,0,[],false,false⟩,
 ⟨.none,0,0,[],false,false⟩,
 ⟨.none,0,0,[],false,false⟩,
 ⟨.none,0,0,[],false,false⟩,
 ⟨.none,0,0,[],false,false⟩,
 ⟨.none,0,0,[],false,false⟩,
 ⟨.none,0,0,[],false,false⟩,
 ⟨.none,0,0,[],false,false⟩,
 ⟨.none,0,0,[],false,false⟩,
 ⟨.none,0,0,[],false,false⟩,
 ⟨.none,0,0,[],false,false⟩,
 ⟨.none,0,0,[],false,false⟩,
 ⟨.none,0,0,[],false,false⟩,
 ⟨.ptr,1,8,[.nilp],false,false⟩,
 ⟨.ptr,1,8,[.nilp],false,false⟩,
 ⟨.none,0,0,[],false,false⟩,
 ⟨.none,0,0,[],false,false⟩,
 ⟨.none,0,0,[],false,false⟩,
 ⟨.ptr,1,8,[.nilp],false,false⟩,
 ⟨.none,0,0,[],false,false⟩,
 ⟨.none,0,0,[],false,false⟩,
 ⟨.none,0,0,[],false,false⟩,
 ⟨.none,0,0,[],false,false⟩,
 ⟨.none,0,0,[],false,false⟩,
 ⟨.none,0,0,[],false,false⟩,
 ⟨.strct [(0,1,9),(1,1,9),(2,1,4)],3,40,[.str [],.str [],.bool false],false,false⟩,
 ⟨.strct [(0,1,9),(1,1,9),(2,1,4)],3,40,[.str [],.str [],.bool false],false,false⟩,
 ⟨.none,0,0,[],false,false⟩,
 ⟨.none,0,0,[],false,false⟩,
 ⟨.none,0,0,[],false,false⟩,
 ⟨.none,0,0,[],false,false⟩,
 ⟨.strct [(0,1,9),(1,1,9),(2,1,4)],3,40,[.str [],.str [],.bool false],false,false⟩,
 ⟨.none,0,0,[],false,false⟩,
 ⟨.none,0,0,[],false,false⟩,
 ⟨.none,0,0,[],false,false⟩,
 ⟨.none,0,0,[],false,false⟩,
 ⟨.none,0,0,[],false,false⟩,
 ⟨.none,0,0,[],false,false⟩,
 ⟨.none,0,0,[],false,false⟩,
 ⟨.none,0,0,[],false,false⟩,
 ⟨.none,0,0,[],false,false⟩,
 ⟨.none,0,0,[],false,false⟩,
 ⟨.none,0,0,[],false,false⟩,
 ⟨.none,0,0,[],false,false⟩,
 ⟨.none,0,0,[],false,false⟩,
 ⟨.none,0,0,[],false,false⟩,
 ⟨.none,0,0,[],false,false⟩,
 ⟨.none,0,0,[],false,false⟩,
 ⟨.none,0,0,[],false,false⟩,
 ⟨.none,0,0,[],false,false⟩,
 ⟨.none,0,0,[],false,false⟩,
 ⟨.none,0,0,[],false,false⟩,
 ⟨.none,0,0,[],false,false⟩,
 ⟨.int .u64,1,8,[.int .u64 0],false,false⟩,
 ⟨.none,0,0,[],false,false⟩,
 ⟨.none,0,0,[],false,false⟩,
 ⟨.none,0,0,[],false,false⟩,
 ⟨.none,0,0,[],false,false⟩,
 ⟨.slc 32,1,24,[.nils],false,false⟩,
 ⟨.none,0,0,[],false,false⟩,
 ⟨.none,0,0,[],false,false⟩,
 ⟨.none,0,0,[],false,false⟩,
 ⟨.none,0,0,[],false,false⟩,
 ⟨.slc 5,1,24,[.nils],false,false⟩,
 ⟨.none,0,0,[],false,false⟩,
 ⟨.none,0,0,[],false,false⟩,
 ⟨.slc 3,1,24,[.nils],false,false⟩,
 ⟨.none,0,0,[],false,false⟩,
 ⟨.none,0,0,[],false,false⟩,
 ⟨.ptr,1,8,[.nilp],false,false⟩,
 ⟨.none,0,0,[],false,false⟩,
 ⟨.none,0,0,[],false,false⟩,
 ⟨.none,0,0,[],false,false⟩,
 ⟨.none,0,0,[],false,false⟩,
 ⟨.none,0,0,[],false,false⟩,
 ⟨.int .u32,1,4,[.int .u32 0],false,false⟩]
def D (t:Nat):TD:=(Dl[t]?).getD ⟨.none,0,0,[],false,false⟩
@[push_cast] theorem D2:D 2=⟨.int .i64,1,8,[.int .i64 0],false,false⟩:=rfl
@[push_cast] theorem D3:D 3=⟨.int .i64,1,8,[.int .i64 0],false,false⟩:=rfl
@[push_cast] theorem D4:D 4=⟨.bool,1,1,[.bool false],false,false⟩:=rfl
@[push_cast] theorem D5:D 5=⟨.int .u8,1,1,[.int .u8 0],false,false⟩:=rfl
@[push_cast] theorem D9:D 9=⟨.str,1,16,[.str []],false,false⟩:=rfl
@[push_cast] theorem D21:D 21=⟨.int .i32,1,4,[.int .i32 0],false,false⟩:=rfl
@[push_cast] theorem D22:D 22=⟨.slc 112,1,24,[.nils],false,false⟩:=rfl
@[push_cast] theorem D23:D 23=⟨.strct [(0,1,22),(1,1,3)],2,32,[.nils,.int .i64 0],false,false⟩:=rfl
@[push_cast] theorem D24:D 24=⟨.strct [(0,1,22),(1,1,3)],2,32,[.nils,.int .i64 0],false,false⟩:=rfl
@[push_cast] theorem D25:D 25=⟨.slc 83,1,24,[.nils],false,false⟩:=rfl
@[push_cast] theorem D26:D 26=⟨.strct [(0,1,3),(1,1,3)],2,16,[.int .i64 0,.int .i64 0],false,false⟩:=rfl
@[push_cast] theorem D27:D 27=⟨.strct [(0,1,3),(1,1,3)],2,16,[.int .i64 0,.int .i64 0],false,false⟩:=rfl
@[push_cast] theorem D28:D 28=⟨.slc 85,1,24,[.nils],false,false⟩:=rfl
@[push_cast] theorem D29:D 29=⟨.strct [(0,1,4),(1,2,24),(3,2,24),(5,1,9),(6,1,25),(7,2,27),(9,1,28),(10,1,4)],11,160,[.bool false,.nils,.int .i64 0,.nils,.int .i64 0,.str [],.nils,.int .i64 0,.int .i64 0,.nils,.bool false],false,false⟩:=rfl
@[push_cast] theorem D30:D 30=⟨.strct [(0,1,4),(1,2,24),(3,2,24),(5,1,9),(6,1,25),(7,2,27),(9,1,28),(10,1,4)],11,160,[.bool false,.nils,.int .i64 0,.nils,.int .i64 0,.str [],.nils,.int .i64 0,.int .i64 0,.nils,.bool false],false,false⟩:=rfl
@[push_cast] theorem D32:D 32=⟨.slc 117,1,24,[.nils],false,false⟩:=rfl
@[push_cast] theorem D33:D 33=⟨.strct [(0,1,32),(1,1,3)],2,32,[.nils,.int .i64 0],false,false⟩:=rfl
@[push_cast] theorem D34:D 34=⟨.strct [(0,1,32),(1,1,3)],2,32,[.nils,.int .i64 0],false,false⟩:=rfl
@[push_cast] theorem D35:D 35=⟨.slc 70,1,24,[.nils],false,false⟩:=rfl
@[push_cast] theorem D36:D 36=⟨.strct [(0,1,3),(1,1,3)],2,16,[.int .i64 0,.int .i64 0],false,false⟩:=rfl
@[push_cast] theorem D37:D 37=⟨.slc 61,1,24,[.nils],false,false⟩:=rfl
@[push_cast] theorem D38:D 38=⟨.strct [(0,1,4),(1,2,34),(3,2,34),(5,1,9),(6,1,35),(7,2,36),(9,1,37),(10,1,4)],11,160,[.bool false,.nils,.int .i64 0,.nils,.int .i64 0,.str [],.nils,.int .i64 0,.int .i64 0,.nils,.bool false],false,false⟩:=rfl
@[push_cast] theorem D39:D 39=⟨.strct [(0,1,4),(1,2,34),(3,2,34),(5,1,9),(6,1,35),(7,2,36),(9,1,37),(10,1,4)],11,160,[.bool false,.nils,.int .i64 0,.nils,.int .i64 0,.str [],.nils,.int .i64 0,.int .i64 0,.nils,.bool false],false,false⟩:=rfl
@[push_cast] theorem D56:D 56=⟨.ptr,1,8,[.nilp],false,false⟩:=rfl
@[push_cast] theorem D57:D 57=⟨.slc 5,1,24,[.nils],false,false⟩:=rfl
@[push_cast] theorem D58:D 58=⟨.strct [(0,1,56),(1,1,57)],2,32,[.nilp,.nils],false,false⟩:=rfl
@[push_cast] theorem D59:D 59=⟨.strct [(0,1,56),(1,1,57)],2,32,[.nilp,.nils],false,false⟩:=rfl
@[push_cast] theorem D60:D 60=⟨.strct [(0,1,3),(1,1,4),(2,1,3),(3,1,9)],4,40,[.int .i64 0,.bool false,.int .i64 0,.str []],false,false⟩:=rfl
@[push_cast] theorem D61:D 61=⟨.strct [(0,1,3),(1,1,4),(2,1,3),(3,1,9)],4,40,[.int .i64 0,.bool false,.int .i64 0,.str []],false,false⟩:=rfl
@[push_cast] theorem D68:D 68=⟨.ptr,1,8,[.nilp],false,false⟩:=rfl
@[push_cast] theorem D69:D 69=⟨.strct [(0,1,3),(1,1,3),(2,1,32),(3,1,9),(4,1,4),(5,1,4),(6,1,3),(7,1,32),(8,1,9),(9,1,4),(10,2,36)],12,136,[.int .i64 0,.int .i64 0,.nils,.str [],.bool false,.bool false,.int .i64 0,.nils,.str [],.bool false,.int .i64 0,.int .i64 0],false,false⟩:=rfl
@[push_cast] theorem D70:D 70=⟨.strct [(0,1,3),(1,1,3),(2,1,32),(3,1,9),(4,1,4),(5,1,4),(6,1,3),(7,1,32),(8,1,9),(9,1,4),(10,2,36)],12,136,[.int .i64 0,.int .i64 0,.nils,.str [],.bool false,.bool false,.int .i64 0,.nils,.str [],.bool false,.int .i64 0,.int .i64 0],false,false⟩:=rfl
@[push_cast] theorem D82:D 82=⟨.strct [(0,1,3),(1,1,3),(2,1,22),(3,1,9),(4,1,4),(5,1,4),(6,1,3),(7,1,22),(8,1,9),(9,1,4),(10,2,27)],12,136,[.int .i64 0,.int .i64 0,.nils,.str [],.bool false,.bool false,.int .i64 0,.nils,.str [],.bool false,.int .i64 0,.int .i64 0],false,false⟩:=rfl
@[push_cast] theorem D83:D 83=⟨.strct [(0,1,3),(1,1,3),(2,1,22),(3,1,9),(4,1,4),(5,1,4),(6,1,3),(7,1,22),(8,1,9),(9,1,4),(10,2,27)],12,136,[.int .i64 0,.int .i64 0,.nils,.str [],.bool false,.bool false,.int .i64 0,.nils,.str [],.bool false,.int .i64 0,.int .i64 0],false,false⟩:=rfl
@[push_cast] theorem D85:D 85=⟨.strct [(0,1,3),(1,1,4),(2,1,3),(3,1,9)],4,40,[.int .i64 0,.bool false,.int .i64 0,.str []],false,false⟩:=rfl
@[push_cast] theorem D99:D 99=⟨.ptr,1,8,[.nilp],false,false⟩:=rfl
@[push_cast] theorem D100:D 100=⟨.ptr,1,8,[.nilp],false,false⟩:=rfl
@[push_cast] theorem D104:D 104=⟨.ptr,1,8,[.nilp],false,false⟩:=rfl
@[push_cast] theorem D111:D 111=⟨.strct [(0,1,9),(1,1,9),(2,1,4)],3,40,[.str [],.str [],.bool false],false,false⟩:=rfl
@[push_cast] theorem D112:D 112=⟨.strct [(0,1,9),(1,1,9),(2,1,4)],3,40,[.str [],.str [],.bool false],false,false⟩:=rfl
@[push_cast] theorem D117:D 117=⟨.strct [(0,1,9),(1,1,9),(2,1,4)],3,40,[.str [],.str [],.bool false],false,false⟩:=rfl
@[push_cast] theorem D139:D 139=⟨.int .u64,1,8,[.int .u64 0],false,false⟩:=rfl
@[push_cast] theorem D144:D 144=⟨.slc 32,1,24,[.nils],false,false⟩:=rfl
@[push_cast] theorem D149:D 149=⟨.slc 5,1,24,[.nils],false,false⟩:=rfl
@[push_cast] theorem D152:D 152=⟨.slc 3,1,24,[.nils],false,false⟩:=rfl
@[push_cast] theorem D155:D 155=⟨.ptr,1,8,[.nilp],false,false⟩:=rfl
@[push_cast] theorem D161:D 161=⟨.int .u32,1,4,[.int .u32 0],false,false⟩:=rfl
theorem chkD:(List.range Dl.length).all (fun t=>tyChk Tryz.prog t (D t) && decide ((D t).size < 1000000) && !(D t).bld)=true:=by kernel_rfl
theorem hD:TypesOk Tryz.prog D:=typesOk_of Dl D (fun _=>rfl) chkD (by kernel_rfl)
end
section
open Go
def jsOk (pf:Option FuncId→Bool) (J:Nat→List Nat):Code→Bool
 | .region id ops true=>drawOk pf ops.toList (J id)
 | .seq a b=>jsOk pf J a && jsOk pf J b
 | .cond _ a b=>jsOk pf J a && jsOk pf J b
 | .block _ c=>jsOk pf J c
 | _=>true
def evC (P:Program) (D:Nat→TD) (N:Nat) (pf:Option FuncId→Bool) (J:Nat→List Nat):Code→(Exit→(Nat→V)→List Blk→Prop)→(Nat→V)→List Blk→Prop
 | .skip,k,t,S=>k .normal t S
 | .ret,k,t,S=>k .ret t S
 | .exit id,k,t,S=>k (.exit id) t S
 | .region _ ops false,k,t,S=>evOps P D ops.toList ops.toList t S (k .normal)
 | .region id ops true,k,t,S=>evDraw P D pf ops.toList ops.toList 0 (J id) t S [] [] (k .normal)
 | .seq a b,k,t,S=>evC P D N pf J a (thenK (evC P D N pf J b k) k) t S
 | .cond c a b,k,t,S=>condK (evalT t c) (evC P D N pf J a k t S) (evC P D N pf J b k t S)
 | .block id c,k,t,S=>evC P D N pf J c (blockK id k) t S
 | c,k,t,S=>wpV P D N c k t S
section
variable {P:Program} {D:Nat→TD} {N:Nat} {pf:Option FuncId→Bool} {J:Nat→List Nat}
theorem thenK_mono {K K':(Nat→V)→List Blk→Prop} {k:Exit→(Nat→V)→List Blk→Prop} (h:∀t S,K t S→K' t S):∀e t S,thenK K k e t S→thenK K' k e t S:=by
 intro e t S hk
 cases e <;> first | exact h _ _ hk | exact hk
theorem wpV_of_ev (hD:TypesOk P D):∀(c:Code) {k:Exit→(Nat→V)→List Blk→Prop} {t:Nat→V} {S:List Blk},jsOk pf J c=true→evC P D N pf J c k t S→wpV P D N c k t S:=by
 intro c
 induction c with
 | skip=>intro k t S _ h; exact wpV_skip (by simpa [evC] using h)
 | ret=>intro k t S _ h; exact wpV_ret (by simpa [evC] using h)
 | exit id=>intro k t S _ h; exact wpV_exit (by simpa [evC] using h)
 | region id ops d =>
  intro k t S hj h
  cases d with
  | false=>exact wpV_region hD (by simpa [evC] using h)
  | true=>exact wpV_draw hD pf (J id) (by simpa [jsOk] using hj) (by simpa [evC] using h)
 | seq a b iha ihb =>
  intro k t S hj h
  simp only [jsOk,Bool.and_eq_true] at hj
  simp only [evC] at h
  refine wpV_seq (wpV_mono (iha hj.1 h) ?_)
  exact thenK_mono (fun t S hh=>ihb hj.2 hh)
 | cond c a b iha ihb =>
  intro k t S hj h
  simp only [jsOk,Bool.and_eq_true] at hj
  simp only [evC] at h
  refine wpV_cond ?_
  unfold condK at h ⊢
  split at h
  ·rename_i x hx
   exact ⟨fun e=>iha hj.1 (h.1 e),fun e=>ihb hj.2 (h.2 e)⟩
  ·exact h.elim
 | block id c ih =>
  intro k t S hj h
  exact wpV_block (ih (by simpa [jsOk] using hj) (by simpa [evC] using h))
 | _=>intro k t S _ h; exact (by simpa [evC] using h)
theorem wpV_of (hD:TypesOk P D) (pf:Option FuncId→Bool) (J:Nat→List Nat) {c:Code} {k:Exit→(Nat→V)→List Blk→Prop} {t:Nat→V} {S:List Blk} (hj:jsOk pf J c=true) (h:evC P D N pf J c k t S):wpV P D N c k t S :=
 wpV_of_ev hD c hj h
def endK (D:Nat→TD) (rs:List ResultVar) (S:List Blk) (q:V→List Blk→Prop) (e:Exit) (t':Nat→V) (S':List Blk):Prop :=
 (e=.normal∨e=.ret)∧evRes D rs t' S' fun vs=>∃r S2,Wk S (oneOf vs) S' r S2∧q r S2
theorem VCall.of_ev (hD:TypesOk P D) (pf:Option FuncId→Bool) (J:Nat→List Nat) {f:FuncId} {fn:Func} {c:Code} (hf:P.funcs[f]?=some fn) (hb:fn.body=some c) (hname:(fn.name == "runtime.NumGoroutine")=false) {n:Nat} (hn:fn.ntmps=n) (hok:codeOk n c=true) (hj:jsOk pf J c=true)
  {rs:List ResultVar} (hrs:fn.results.toList=rs) {args:List V} (hargs:args.length≤n) {S:List Blk} {q:V→List Blk→Prop}
  (h:evC P D n pf J c (endK D rs S q) (argT args) S):VCall P f args S q :=
 .inl <| VCall.of_body hD hf hb hname hn hok hrs hargs (wpV_of_ev hD c hj h)
theorem VCall.ex (hD:TypesOk P D) (pf:Option FuncId→Bool) (J:Nat→List Nat) {f:FuncId} {fn:Func} {c:Code} {n:Nat} {ra:Array ResultVar} {args:List V} {S:List Blk} {q:V→List Blk→Prop} (hf:P.funcs[f]?=some fn) (hn:fn.ntmps=n) (hrs:fn.results=ra)
  (h:evC P D n pf J c (endK D ra.toList S q) (argT args) S) (hb:fn.body=some c:=by exact rfl) (hname:(fn.name == "runtime.NumGoroutine")=false:=by exact rfl) (hok:codeOk n c=true:=by kernel_rfl) (hj:jsOk pf J c=true:=by kernel_rfl) (hargs:args.length≤n:=by simp):VCall P f args S q :=
 VCall.of_ev hD pf J hf hb hname hn hok hj (congrArg Array.toList hrs) hargs h
theorem VCall.en (hD:TypesOk P D) {f:FuncId} {fn:Func} {c:Code} {n:Nat} {ra:Array ResultVar} {args:List V} {S:List Blk} {q:V→List Blk→Prop} (hf:P.funcs[f]?=some fn) (hn:fn.ntmps=n) (hrs:fn.results=ra)
  (h:evC P D n (fun _=>false) (fun _=>[]) c (endK D ra.toList S q) (argT args) S) (hb:fn.body=some c:=by exact rfl) (hname:(fn.name == "runtime.NumGoroutine")=false:=by exact rfl) (hok:codeOk n c=true:=by kernel_rfl) (hj:jsOk (fun _=>false) (fun _=>[]) c=true:=by kernel_rfl) (hargs:args.length≤n:=by simp):VCall P f args S q :=
 VCall.of_ev hD _ _ hf hb hname hn hok hj (congrArg Array.toList hrs) hargs h
theorem wpV_of0 (hD:TypesOk P D) {c:Code} {k:Exit→(Nat→V)→List Blk→Prop} {t:Nat→V} {S:List Blk} (h:evC P D N (fun _=>false) (fun _=>[]) c k t S) (hj:jsOk (fun _=>false) (fun _=>[]) c=true:=by kernel_rfl):wpV P D N c k t S :=
 wpV_of hD _ _ hj h
theorem VCall.mono {f:FuncId} {args:List V} {S:List Blk} {q k:V→List Blk→Prop} (h:VCall P f args S q) (hk:∀r S',q r S'→k r S'):VCall P f args S k:=by
 rcases h with ⟨he,r,S',hq,hd⟩ | ⟨r,hq,hx⟩
 ·exact .inl ⟨he,r,S',hk r S' hq,hd⟩
 ·exact .inr ⟨r,hk r S hq,hx⟩
theorem VCall.to {f:FuncId} {args:List V} {S:List Blk} {x:V} {S1:List Blk} {k:V→List Blk→Prop} (h:VCall P f args S fun r S'=>r=x∧S'=S1) (hk:k x S1):VCall P f args S k :=
 h.mono (by rintro _ _ ⟨rfl,rfl⟩; exact hk)
section
variable {a a':List Oper} {o o':List Oper} {t t':Nat→V} {S S':List Blk} {k:(Nat→V)→List Blk→Prop}
@[congr] theorem evOps_congr (h1:t=t') (h2:S=S'):evOps P D a o t S k=evOps P D a o t' S' k:=by rw [h1,h2]
@[congr] theorem evC_congr {c:Code} {k:Exit→(Nat→V)→List Blk→Prop} (h1:t=t') (h2:S=S'):evC P D N pf J c k t S=evC P D N pf J c k t' S':=by rw [h1,h2]
@[congr] theorem wpV_congr {c:Code} {k:Exit→(Nat→V)→List Blk→Prop} (h1:t=t') (h2:S=S'):wpV P D N c k t S=wpV P D N c k t' S':=by rw [h1,h2]
@[congr] theorem condK_congr {v v':V} {p q:Prop} (h1:v=v'):condK v p q=condK v' p q:=by rw [h1]
@[congr] theorem VCall_congr {f:FuncId} {args args':List V} {q:V→List Blk→Prop} (h1:args=args') (h2:S=S'):VCall P f args S q=VCall P f args' S' q:=by rw [h1,h2]
@[congr] theorem evOp_congr {x:Op} {ρ:Operand→V} {q:V→List Blk→Prop} (h2:S=S'):evOp P D x ρ S q=evOp P D x ρ S' q:=by rw [h2]
@[congr] theorem evDrawOp_congr {x:Op} {ρ:Operand→V} {j n:Nat} {h:List (List Blk)} {p:List (Nat × Nat)} {q:V→List Blk→List (List Blk)→List (Nat × Nat)→Prop} (h2:S=S'):evDrawOp P D pf x ρ j n S h p q=evDrawOp P D pf x ρ j n S' h p q:=by rw [h2]
@[congr] theorem evDraw_congr {j:Nat} {js:List Nat} {h:List (List Blk)} {p:List (Nat × Nat)} (h1:t=t') (h2:S=S'):evDraw P D pf a o j js t S h p k=evDraw P D pf a o j js t' S' h p k:=by rw [h1,h2]
@[congr] theorem evRes_congr {rs:List ResultVar} {q:List V→Prop} (h1:t=t') (h2:S=S'):evRes D rs t S q=evRes D rs t' S' q:=by rw [h1,h2]
theorem condK_t (p q:Prop):condK (.bool true) p q=p:=by simp [condK]
theorem condK_f (p q:Prop):condK (.bool false) p q=q:=by simp [condK]
theorem gd (p q:Prop):(guardK true true p q=p∧guardK false false p q=p)∧(guardK true false p q=q∧guardK false true p q=q)∧condK (.bool true) p q=p∧condK (.bool false) p q=q :=
 ⟨⟨guardK_tt p q,guardK_ff p q⟩,⟨guardK_tf p q,guardK_ft p q⟩,condK_t p q,condK_f p q⟩
attribute [push_cast] Option.some.injEq
theorem condK_b (b:Bool) (p q:Prop):condK (.bool b) p q=((b=true→p)∧(b=false→q)):=rfl
section
variable {v v' x x' y y':V} {vs vs' ws ws':List V} {q:V→Prop} {q2:V→List Blk→Prop} {S S':List Blk} {t u n m:Nat} {z:Int}
@[congr] theorem evBin_congr {o:BinOp} (h1:x=x') (h2:y=y'):evBin D o t x y q=evBin D o t x' y' q:=by rw [h1,h2]
@[congr] theorem evUn_congr {o:UnOp} (h1:x=x'):evUn o x q=evUn o x' q:=by rw [h1]
@[congr] theorem evConv_congr (h1:x=x'):evConv D t u x q=evConv D t u x' q:=by rw [h1]
@[congr] theorem evConvS_congr (h1:x=x') (h2:S=S'):evConvS P D t u x S q2=evConvS P D t u x' S' q2:=by rw [h1,h2]
@[congr] theorem evData_congr (h1:x=x'):evData x q=evData x' q:=by rw [h1]
@[congr] theorem evUStr_congr (h1:x=x') (h2:y=y') (h3:S=S'):evUStr P t x y S q2=evUStr P t x' y' S' q2:=by rw [h1,h2,h3]
@[congr] theorem appW_congr (h1:x=x') (h2:y=y') (h3:S=S'):appW D t x y S q2=appW D t x' y' S' q2:=by rw [h1,h2,h3]
@[congr] theorem evPart_congr (h1:vs=vs') (h2:n=m):evPart D t vs n q=evPart D t vs' m q:=by rw [h1,h2]
@[congr] theorem evLoad_congr (h1:x=x') (h2:S=S'):evLoad D t x S q=evLoad D t x' S' q:=by rw [h1,h2]
@[congr] theorem evStore_congr {q:List Blk→Prop} (h1:x=x') (h2:y=y') (h3:S=S'):evStore D t x y S q=evStore D t x' y' S' q:=by rw [h1,h2,h3]
@[congr] theorem evFill_congr {fs:List (Nat × Nat × TypeId)} {ps ps':List (Nat × V)} {q:List V→Prop} (h1:ps=ps') (h2:vs=vs'):evFill fs ps vs q=evFill fs ps' vs' q:=by rw [h1,h2]
@[congr] theorem evBuild_congr {ps ps':List (Nat × V)} (h1:ps=ps'):evBuild D t ps q=evBuild D t ps' q:=by rw [h1]
@[congr] theorem evBuildSlice_congr {ps ps':List (Nat × V)} (h1:ps=ps') (h2:S=S'):evBuildSlice D t n ps S q2=evBuildSlice D t n ps' S' q2:=by rw [h1,h2]
@[congr] theorem evFrozen_congr {ps ps':List (Nat × V)} (h1:ps=ps'):evFrozen D t n ps q=evFrozen D t n ps' q:=by rw [h1]
@[congr] theorem evIndexAddr_congr (h1:x=x') (h2:y=y'):evIndexAddr D t x y q=evIndexAddr D t x' y' q:=by rw [h1,h2]
@[congr] theorem evIndex_congr (h1:x=x') (h2:y=y'):evIndex D t x y q=evIndex D t x' y' q:=by rw [h1,h2]
@[congr] theorem evEnd_congr {o o':Option V} {q:Int→Prop} (h1:o=o') (h2:n=m):evEnd o n q=evEnd o' m q:=by rw [h1,h2]
@[congr] theorem evSlice_congr {o o' p p':Option V} (h1:x=x') (h2:o=o') (h3:p=p'):evSlice D t x o p q=evSlice D t x' o' p' q:=by rw [h1,h2,h3]
@[congr] theorem evFieldAddr_congr (h1:x=x'):evFieldAddr D t x n q=evFieldAddr D t x' n q:=by rw [h1]
@[congr] theorem evField_congr (h1:x=x'):evField D t x n q=evField D t x' n q:=by rw [h1]
@[congr] theorem evExtract_congr (h1:x=x'):evExtract x n q=evExtract x' n q:=by rw [h1]
@[congr] theorem evLen_congr (h1:x=x'):evLen D t x q=evLen D t x' q:=by rw [h1]
@[congr] theorem srcCells_congr {q:Nat→List V→Prop} (h1:x=x') (h2:S=S') (h3:n=m):srcCells x n S q=srcCells x' m S' q:=by rw [h1,h2,h3]
@[congr] theorem srcRows_congr {q:List V→Prop} (h1:x=x'):srcRows D t x q=srcRows D t x' q:=by rw [h1]
@[congr] theorem evAppend_congr (h1:x=x') (h2:y=y') (h3:S=S'):evAppend D t u x y S q2=evAppend D t u x' y' S' q2:=by rw [h1,h2,h3]
@[congr] theorem evMin_congr (h1:x=x') (h2:y=y'):evMin x y q=evMin x' y' q:=by rw [h1,h2]
@[congr] theorem evMax_congr (h1:x=x') (h2:y=y'):evMax x y q=evMax x' y' q:=by rw [h1,h2]
@[congr] theorem evFn_congr (h1:x=x') (h2:vs=vs') (h3:S=S'):evFn P x vs S q2=evFn P x' vs' S' q2:=by rw [h1,h2,h3]
@[congr] theorem evPure_congr (h1:x=x') (h2:vs=vs'):evPure P x vs q=evPure P x' vs' q:=by rw [h1,h2]
@[congr] theorem PCall_congr {f:FuncId} (h2:vs=vs'):PCall P f vs q=PCall P f vs' q:=by rw [h2]
@[congr] theorem evBuiltin_congr {b:Builtin} {ts:List TypeId} (h2:vs=vs') (h3:S=S'):evBuiltin P D b ts vs S q2=evBuiltin P D b ts vs' S' q2:=by rw [h2,h3]
@[congr] theorem evMakeFunc_congr {f:Fn} (h1:vs=vs') (h2:ws=ws'):evMakeFunc f vs ws q=evMakeFunc f vs' ws' q:=by rw [h1,h2]
@[congr] theorem evNil_congr (h1:x=x'):evNil x q=evNil x' q:=by rw [h1]
@[congr] theorem evMakeSlice_congr (h1:x=x') (h2:y=y') (h3:S=S'):evMakeSlice D t x y S q2=evMakeSlice D t x' y' S' q2:=by rw [h1,h2,h3]
@[congr] theorem evEqS_congr {q:Bool→Prop} (h1:vs=vs') (h2:ws=ws'):evEqS D t vs ws q=evEqS D t vs' ws' q:=by rw [h1,h2]
end
end
end
section
variable {P:Program} {D:Nat→TD} {N:Nat} {pf:Option FuncId→Bool} {J:Nat→List Nat} (k:Exit→(Nat→V)→List Blk→Prop) (t:Nat→V) (S S0:List Blk) (id:Nat) (ops:Array Oper) (a b:Code) (c:Operand) (rs:List ResultVar) (q:V→List Blk→Prop)
@[push_cast] theorem evC_skip:evC P D N pf J .skip k t S=k .normal t S:=rfl
@[push_cast] theorem evC_ret:evC P D N pf J .ret k t S=k .ret t S:=rfl
@[push_cast] theorem evC_exit:evC P D N pf J (.exit id) k t S=k (.exit id) t S:=rfl
@[push_cast] theorem evC_region:evC P D N pf J (.region id ops false) k t S=evOps P D ops.toList ops.toList t S (k .normal):=rfl
@[push_cast] theorem evC_draw:evC P D N pf J (.region id ops true) k t S=evDraw P D pf ops.toList ops.toList 0 (J id) t S [] [] (k .normal):=rfl
@[push_cast] theorem evC_seq:evC P D N pf J (.seq a b) k t S=evC P D N pf J a (thenK (evC P D N pf J b k) k) t S:=rfl
@[push_cast] theorem evC_cond:evC P D N pf J (.cond c a b) k t S=condK (evalT t c) (evC P D N pf J a k t S) (evC P D N pf J b k t S):=rfl
@[push_cast] theorem evC_block:evC P D N pf J (.block id a) k t S=evC P D N pf J a (blockK id k) t S:=rfl
@[push_cast] theorem evC_loop:evC P D N pf J (.loop a) k t S=wpV P D N (.loop a) k t S:=rfl
@[push_cast] theorem endK_n:endK D rs S0 q .normal t S=evRes D rs t S fun vs=>∃r S2,Wk S0 (oneOf vs) S r S2∧q r S2:=by simp [endK]
@[push_cast] theorem endK_r:endK D rs S0 q .ret t S=evRes D rs t S fun vs=>∃r S2,Wk S0 (oneOf vs) S r S2∧q r S2:=by simp [endK]
end
attribute [push_cast low] condK_b
attribute [push_cast] List.toList_toArray true_or or_true false_or or_false
end
section
open Go
def renC (ρ:Nat→Nat):V→V
 | .rows (some τ) xs=>.rows (some (ρ τ)) xs
 | .heap b n=>.heap (ρ b) n
 | .ptr b o=>.ptr (ρ b) o
 | v=>v
def ren1 (ρ:Nat→Nat):V→V
 | .agg cs=>.agg (cs.map (renC ρ))
 | v=>renC ρ v
def renT (ρ:Nat→Nat):V→V
 | .tup vs=>.tup (vs.map (ren1 ρ))
 | v=>ren1 ρ v
inductive Sh (m n:Nat):V→Prop where
 | rows {tok:Option Nat} {xs:List V}:(∀τ,tok=some τ→τ < n)→(∀v ∈ xs.flatMap V.cells,Cl m v)→Sh m n (.rows tok xs)
 | heap {b l:Nat}:b < n→Sh m n (.heap b l)
 | ptr {b o:Nat}:b < n→Sh m n (.ptr b o)
 | cl {v:V}:Cl m v→Sh m n v
def Sh1 (m n:Nat) (v:V):Prop:=∀u ∈ v.cells,Sh m n u
def ShT (m n:Nat):V→Prop
 | .tup vs=>∀v ∈ vs,Sh1 m n v
 | v=>Sh1 m n v
theorem renC_cl {ρ:Nat→Nat} {m:Nat} (hρ:∀j,j < m→ρ j=j) {v:V} (h:Cl m v):renC ρ v=v:=by
 cases h with
 | @rows tok xs ht _ =>
  cases tok with
  | none=>rfl
  | some τ=>simp only [renC,hρ τ (ht τ rfl)]
 | heap hb=>simp only [renC,hρ _ hb]
 | ptr hb=>simp only [renC,hρ _ hb]
 | _=>rfl
def Gh.ren (G:Gh) (ρ:Nat→Nat) (n:Nat):Gh :=
 { n:=n,ok:=fun j=>G.ok (ρ j),blk:=fun j=>G.blk (ρ j),fin:=fun j=>G.fin (ρ j),lim:=fun j=>G.lim (ρ j),sz:=fun j=>G.sz (ρ j),p:=G.p }
section
variable {G:Gh} {w:World} {ρ:Nat→Nat} {m n:Nat}
theorem VR.renCl (hρ:∀j,j < m→ρ j=j) (hmn:m≤n) {v:V} {c:Value} (h:VR G w v c) (hc:Cl m v):VR (G.ren ρ n) w v c:=by
 have h1:VR (G.cut m) w v c:=h.cut (fun j _=>⟨rfl,rfl,rfl,rfl,rfl⟩) rfl hc
 have he:Ext (G.cut m) w (G.ren ρ n) w:=by
  refine ⟨hmn,fun j hj=>?_,fun b=>Nat.le_refl _,fun _ _ _=>rfl⟩
  have e:=hρ j hj
  simp [Gh.ren,Gh.cut,e]
 exact VR.ext he h1
theorem VR.renC (hρ:∀j,j < m→ρ j=j) (hmn:m≤n) {v:V} {c:Value} (h:VR G w (renC ρ v) c) (hs:Sh m n v):VR (G.ren ρ n) w v c:=by
 cases hs with
 | cl hc=>rw [renC_cl hρ hc] at h; exact h.renCl hρ hmn hc
 | heap hb =>
  cases h with
  | heapNil _=>exact .heapNil hb
  | heap h1 h2 h3 h4=>exact .heap (G:=G.ren ρ n) hb h2 h3 h4
 | ptr hb =>
  cases h with
  | ptr h1 h2=>exact .ptr (G:=G.ren ρ n) hb h2
 | rows ht hx =>
  rename_i tok xs
  cases tok with
  | none =>
   cases h with
   | rowsNil _=>exact .rowsNil ht
   | rowsE=>exact .rowsE
   | rows vs a1 a2 a3 a4 a5 a6 a7=>exact .rows vs a1 (fun i v u hv hu=>(a2 i v u hv hu).renCl hρ hmn (hx v (List.mem_of_getElem? hv))) a3 a4 a5 a6 (fun τ hτ=>by cases hτ)
  | some τ =>
   cases h with
   | rowsNil _=>exact .rowsNil ht
   | rows vs a1 a2 a3 a4 a5 a6 a7 =>
    refine .rows vs a1 (fun i v u hv hu=>(a2 i v u hv hu).renCl hρ hmn (hx v (List.mem_of_getElem? hv))) a3 a4 a5 a6 (fun τ' hτ=>?_)
    cases hτ
    obtain ⟨b1,b2,b3,b4,b5,b6⟩:=a7 (ρ τ) rfl
    exact ⟨ht τ rfl,b2,b3,b4,b5,b6⟩
theorem cells_not_agg {v:V} (h:∀cs,v≠.agg cs):v.cells=[v]:=by
 cases v <;> first | rfl | exact absurd rfl (h _)
theorem VR.ren1 (hρ:∀j,j < m→ρ j=j) (hmn:m≤n) {v:V} {c:Value} (h:VR G w (ren1 ρ v) c) (hs:Sh1 m n v):VR (G.ren ρ n) w v c:=by
 by_cases ha:∃cs,v=.agg cs
 ·obtain ⟨cs,rfl⟩:=ha
  cases h with
  | agg hl hr ho =>
   refine .agg (by simpa using hl) (fun i v u hv hu=>?_) ho
   exact (hr i _ u (by rw [List.getElem?_map,hv]; rfl) hu).renC hρ hmn (hs v (List.mem_of_getElem? hv))
 ·have hc:v.cells=[v]:=cells_not_agg (fun cs e=>ha ⟨cs,e⟩)
  have e:YtldogccmhncnoaaGreat.ren1 ρ v=YtldogccmhncnoaaGreat.renC ρ v:=by
   cases v <;> first | rfl | exact absurd ⟨_,rfl⟩ ha
  rw [e] at h
  exact h.renC hρ hmn (hs v (by rw [hc]; exact List.mem_singleton.2 rfl))
theorem VR.renT (hρ:∀j,j < m→ρ j=j) (hmn:m≤n) {v:V} {c:Value} (h:VR G w (renT ρ v) c) (hs:ShT m n v):VR (G.ren ρ n) w v c:=by
 by_cases ha:∃cs,v=.tup cs
 ·obtain ⟨cs,rfl⟩:=ha
  cases h with
  | tup hl hr =>
   refine .tup (by simpa using hl) (fun i v u hv hu=>?_)
   exact (hr i _ u (by rw [List.getElem?_map,hv]; rfl) hu).ren1 hρ hmn (hs v (List.mem_of_getElem? hv))
 ·have e:YtldogccmhncnoaaGreat.renT ρ v=YtldogccmhncnoaaGreat.ren1 ρ v:=by
   cases v <;> first | rfl | exact absurd ⟨_,rfl⟩ ha
  have e2:ShT m n v=Sh1 m n v:=by
   cases v <;> first | rfl | exact absurd ⟨_,rfl⟩ ha
  rw [e] at h
  rw [e2] at hs
  exact h.ren1 hρ hmn hs
theorem VR.cl' {v:V} {c:Value} (h:VR G w v c) (hn:G.n≤m):Cl m v:=by
 have mono:∀{a b:Nat} {v:V},a≤b→Cl a v→Cl b v:=by
  intro a b v hab h
  induction h with
  | int k m=>exact .int k m
  | bool b=>exact .bool b
  | str s=>exact .str s
  | agg _ ih=>exact .agg ih
  | tup _ ih=>exact .tup ih
  | nils=>exact .nils
  | rows ht _ ih=>exact .rows (fun τ hτ=>Nat.lt_of_lt_of_le (ht τ hτ) hab) ih
  | heap hb=>exact .heap (Nat.lt_of_lt_of_le hb hab)
  | ptr hb=>exact .ptr (Nat.lt_of_lt_of_le hb hab)
  | eptr _ ih=>exact .eptr ih
  | nilp=>exact .nilp
  | fn _ ih=>exact .fn ih
  | junk=>exact .junk
 exact mono hn h.cl
end
inductive BlkRen (ρ:Nat→Nat) (m n:Nat):Blk→Blk→Prop where
 | dead {B:Blk}:BlkRen ρ m n B .dead
 | right {sz:Nat}:BlkRen ρ m n (.right sz) (.right sz)
 | cells {sz:Nat} {cs ds:List V}:ds=cs.map (renC ρ)→(∀v ∈ cs,Sh m n v)→BlkRen ρ m n (.cells sz ds) (.cells sz cs)
theorem Wk.keep {S0 S S':List Blk} {r r':V} (ρ:Nat→Nat) (h0:S0.length≤S'.length) (hρ:∀j,j < S0.length→ρ j=j) (hinj:∀i j,i < S'.length→j < S'.length→ρ i=ρ j→i=j)
  (hr:r=renT ρ r') (hsr:ShT S0.length S'.length r')
  (hS:∀j B',S'[j]?=some B'→(j < S0.length∧S0[j]?=some B'∧S[j]?=some B')∨∃B,S[ρ j]?=some B∧BlkRen ρ S0.length S'.length B B'):Wk S0 r S r' S':=by
 subst hr
 intro G0 w0 G w c hR0 hE hv hR
 have hlt:∀{j:Nat} {B:Blk},S'[j]?=some B→j < S'.length:=by
  intro j B hj
  rcases Nat.lt_or_ge j S'.length with g | g
  ·exact g
  ·rw [List.getElem?_eq_none g] at hj; cases hj
 have hold:∀(j:Nat) (B':Blk),S'[j]?=some B'→B'.live=true→∃B,S[ρ j]?=some B∧B.live=true:=by
  intro j B' hj hl
  rcases hS j B' hj with ⟨g1,g2,g3⟩ | ⟨B,g1,g2⟩
  ·exact ⟨B',by rw [hρ j g1]; exact g3,hl⟩
  ·cases g2 with
   | dead=>cases hl
   | right=>exact ⟨_,g1,rfl⟩
   | cells=>exact ⟨_,g1,rfl⟩
 have hn0:G0.n=S0.length:=hR0.n
 have hext:Ext G0 w0 (G.ren ρ S'.length) w:=by
  refine ⟨by rw [hn0]; exact h0,fun j hj=>?_,hE.ext.p,hE.ext.cell⟩
  have e:=hρ j (by omega)
  simp only [Gh.ren,e]
  exact hE.ext.same j hj
 refine ⟨G.ren ρ S'.length,hv.renT hρ h0 hsr,⟨rfl,hR.fresh,?_,?_,?_,?_⟩,⟨hext,hE.size,hE.os,hE.tape,hE.output,hE.other,?_,hE.pk⟩⟩
 ·intro j B hj hl hk
  obtain ⟨B0,g1,g2⟩:=hold j B hj hl
  exact hR.lt _ _ g1 g2 hk
 ·intro j B hj hl hk
  rcases hS j B hj with ⟨g1,g2,g3⟩ | ⟨B1,g1,g2⟩
  ·have e:=hρ j g1
   have hk':G.ok j=true:=by simpa [Gh.ren,e] using hk
   have hk0:G0.ok j=true:=by rw [←(hE.ext.same j (by omega)).1]; exact hk'
   have hb:=hR.live j B g3 hl hk'
   cases B with
   | dead=>trivial
   | right sz=>simpa [BlkOk,Gh.ren,e] using hb
   | cells sz cs =>
    obtain ⟨arr,ty,q1,q2,q3,q4,q5,q6⟩:=hb
    obtain ⟨arr0,ty0,f1,f2,f3,f4,f5,f6⟩:=hR0.live j _ g2 rfl hk0
    refine ⟨arr,ty,by simpa [Gh.ren,e] using q1,by simpa [Gh.ren,e] using q2,by simpa [Gh.ren,e] using q3,q4,by simpa [Gh.ren,e] using q5,fun i v u hv' hu=>⟨(q6 i v u hv' hu).1.renCl hρ h0 ?_,(q6 i v u hv' hu).2⟩⟩
    have hi:i < cs.length:=by
     rcases Nat.lt_or_ge i cs.length with g | g
     ·exact g
     ·rw [List.getElem?_eq_none g] at hv'; cases hv'
    exact (f6 i v arr0[i] hv' (Array.getElem?_eq_getElem (by omega))).1.cl' (by omega)
  ·cases g2 with
   | dead=>trivial
   | right=>exact hR.live _ _ g1 rfl hk
   | cells hds hsh =>
    rename_i sz cs ds
    subst hds
    obtain ⟨arr,ty,q1,q2,q3,q4,q5,q6⟩:=hR.live _ _ g1 rfl hk
    refine ⟨arr,ty,q1,q2,q3,by simpa using q4,q5,fun i v u hv' hu=>?_⟩
    have:=q6 i (renC ρ v) u (by rw [List.getElem?_map,hv']; rfl) hu
    exact ⟨this.1.renC hρ h0 (hsh v (List.mem_of_getElem? hv')),this.2⟩
 ·intro j sz cs hj hk
  rcases hS j _ hj with ⟨g1,g2,g3⟩ | ⟨B1,g1,g2⟩
  ·exact hR.vac j sz cs g3 (by simpa [Gh.ren,hρ j g1] using hk)
  ·cases g2 with
   | cells hds hsh =>
    rename_i ds
    have:=hR.vac _ sz _ g1 hk
    rw [hds] at this
    simpa using this
 ·intro i j B C hi hj hlB hlC hki hkj he
  obtain ⟨B1,b1,b2⟩:=hold i B hi hlB
  obtain ⟨C1,c1,c2⟩:=hold j C hj hlC
  exact hinj i j (hlt hi) (hlt hj) (hR.inj _ _ B1 C1 b1 c1 b2 c2 hki hkj he)
 ·rintro b hb ⟨j,B,hj,hl,hk,rfl⟩
  obtain ⟨B1,b1,b2⟩:=hold j B hj hl
  exact hE.own _ hb ⟨ρ j,B1,b1,b2,hk,rfl⟩
theorem freeze_ok {G:Gh} {w:World} {S:List Blk} {b m sz:Nat} {cs xs:List V} (hsz:sz < 1000000) (hR:Rel G w S) (hS:S[b]?=some (.cells sz cs)) (hm:m * sz≤cs.length) (hxl:xs.length=m) (hxs:xs.flatMap V.cells=cs.take (m * sz)) :
  ∃G',(∀c,VR G w (.heap b m) c→VR G' w (.rows (some S.length) xs) c)∧Rel G' w (S.set b .dead++[.right sz])∧Evol G w S G' w (S.set b .dead++[.right sz]):=by
 cases hk:G.ok b with
 | false =>
  have hcs:=hR.vac b sz cs hS hk
  subst hcs
  have hm0:m * sz=0:=by simpa using hm
  obtain ⟨h1,h2⟩:=hR.kill b
  obtain ⟨h3,h4⟩:=h1.pushNil sz (.right sz) (fun z cs e=>by cases e)
  refine ⟨_,fun c hv=>?_,h3,h2.trans h4⟩
  cases hv with
  | heap h1 h2=>rw [hk] at h2; cases h2
  | heapNil hb =>
   have hx:xs=[]:=List.length_eq_zero_iff.1 hxl
   subst hx
   refine .rowsNil (fun τ hτ=>?_)
   cases hτ
   simp [Gh.pushNil,hR.n]
 | true =>
  obtain ⟨arr,tf,q1,q2,q3,q4,q50,q6⟩:=hR.live b _ hS rfl hk
  obtain ⟨ty,fr⟩:=tf
  have hfr:=q50.z hsz
  simp only at hfr
  subst hfr
  simp only at q1
  have q5:G.sz b=sz:=by rw [q50.eq]; omega
  have hw:But w w (G.blk b):=⟨rfl,rfl,rfl,rfl,fun _ _=>rfl⟩
  obtain ⟨h1,h2⟩:=hR.move hS rfl hk hw (m * sz) (G.lim b) sz (m * sz) (by rw [q2]; exact Nat.zero_le _) (fun _ _=>rfl) (B':=.right sz) rfl (fun hext=>⟨arr,ty,by simpa [Gh.push] using q1,by simp [Gh.push],by simpa [Gh.push] using q3,by simp [Gh.push]⟩)
  refine ⟨_,fun c hv=>?_,h1,h2⟩
  have hn:=hR.n
  cases hv with
  | heapNil hb =>
   have hx:xs=[]:=List.length_eq_zero_iff.1 hxl
   subst hx
   exact .rowsNil (fun τ hτ=>by cases hτ; simp [Gh.push,hn])
  | @heap _ _ cap g1 g2 g3 g4 =>
   have hlen:(arr.toList.take (m * sz)).length=m * sz:=by simp; omega
   have hrow:VR (G.push (G.blk b) (m * sz) (G.lim b) sz (m * sz)) w (.rows (some S.length) xs) (.slice (some ⟨G.blk b,0,none⟩) xs.length cap):=by
    refine .rows (arr.toList.take (m * sz)) (by rw [hxs]; simp; omega) (fun i v u hv hu=>?_) (fun u hu=>?_) (fun i u hu=>?_) ?_ (by rw [hxl]; exact g3) (fun τ hτ=>?_)
    ·rw [hxs,List.getElem?_take] at hv
     rw [List.getElem?_take] at hu
     split at hv
     ·rename_i hi
      rw [if_pos hi] at hu
      exact (q6 i v u hv (by simpa using hu)).1.ext h2.ext
     ·cases hv
    ·obtain ⟨i,hi,rfl⟩:=List.getElem_of_mem hu
     have hi':i < m * sz:=by omega
     simp only [List.getElem_take]
     have:=(q6 i cs[i] arr[i] (List.getElem?_eq_getElem (by omega)) (Array.getElem?_eq_getElem (by omega))).2
     simpa using this
    ·rw [List.getElem?_take] at hu
     split at hu
     ·rw [cell_blk q1,Nat.zero_add]; simpa using hu
     ·cases hu
    ·rw [hlen]; simp [Gh.push]
    ·cases hτ
     refine ⟨by simp [Gh.push,hn],by simp [Gh.push,hn],by simp [Gh.push,hn],?_,?_,?_⟩
     ·rw [hlen]; simp [Gh.push,hn]
     ·rw [hlen,hxl]; simp [Gh.push,hn]
     ·simp only [Gh.push,hn,if_true,Nat.zero_add]; rw [←q5]; exact g4
   rw [hxl] at hrow
   exact hrow
def frC (b m:Nat) (v':V):V→V
 | .heap b' m'=>if b'=b∧m'=m then v' else .heap b' m'
 | v=>v
def fr1 (b m:Nat) (v':V):V→V
 | .agg cs=>.agg (cs.map (frC b m v'))
 | v=>frC b m v' v
theorem Wk.freeze {S0 S:List Blk} {r:V} {b m sz:Nat} {cs:List V} (xs:List V) (hsz:sz < 1000000) (hS:S[b]?=some (.cells sz cs)) (hm:m * sz≤cs.length) (hxl:xs.length=m) (hxs:xs.flatMap V.cells=cs.take (m * sz)) :
  Wk S0 r S (fr1 b m (.rows (some S.length) xs) r) (S.set b .dead++[.right sz]):=by
 intro G0 w0 G w c hR0 hE hv hR
 obtain ⟨G',hu0,hR',hE'⟩:=freeze_ok hsz hR hS hm hxl hxs
 refine ⟨G',?_,hR',hE.trans hE'⟩
 have cell:∀v u,VR G w v u→VR G' w (frC b m (.rows (some S.length) xs) v) u:=by
  intro v u hvu
  cases v with
  | heap b' m' =>
   simp only [frC]
   split
   ·rename_i e
    obtain ⟨rfl,rfl⟩:=e
    exact hu0 u hvu
   ·exact hvu.ext hE'.ext
  | _=>exact hvu.ext hE'.ext
 by_cases ha:∃cs,r=.agg cs
 ·obtain ⟨cs,rfl⟩:=ha
  cases hv with
  | agg hl hr' ho =>
   refine .agg (by simpa using hl) (fun i v u hv hu=>?_) ho
   rw [List.getElem?_map] at hv
   cases hq:cs[i]? with
   | none=>rw [hq] at hv; cases hv
   | some v0=>rw [hq] at hv; cases hv; exact cell _ _ (hr' i v0 u hq hu)
 ·have e:fr1 b m (.rows (some S.length) xs) r=frC b m (.rows (some S.length) xs) r:=by
   cases r <;> first | rfl | exact absurd ⟨_,rfl⟩ ha
  rw [e]
  exact cell _ _ hv
attribute [push_cast] renC ren1 renT frC fr1 ShT
end
end Go.Proofs.YtldogccmhncnoaaGreat
