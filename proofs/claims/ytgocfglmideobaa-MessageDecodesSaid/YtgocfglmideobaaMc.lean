/- Texts put together: The types of this seat's functions, as far as they matter. No condition. -/
import Derived.Test.YtgocfglmideobaaProg
import Derived.Test.YtgocfglmideobaaMb
import Derived.ProofKit
import Derived.Below
import Derived.OpenShut
import Derived.Deep.Slices
import Derived.RangeFuncSeq
import Derived.RangeFuncCalls
import Derived.RangeFuncRecord
import Derived.RangeFuncLeaves
import Derived.Sort.Row
import Derived.Sort.Grow
import Derived.Sort.EveryDepth
set_option linter.all false
set_option maxRecDepth 40000
namespace Go.Proofs.Ytgocfglmideobaa
open Go Go.Sx
def e2:Ent:=⟨.int .i64,1,8,(.int .i64 0),[.int .i64 0]⟩
def e3:Ent:=⟨.int .i64,1,8,(.int .i64 0),[.int .i64 0]⟩
def e4:Ent:=⟨.bool,1,1,(.bool false),[.bool false]⟩
def e5:Ent:=⟨.int .u8,1,1,(.int .u8 0),[.int .u8 0]⟩
def e9:Ent:=⟨.str,1,16,(.str ByteArray.empty),[.str ByteArray.empty]⟩
def e23:Ent:=⟨.arr 32 5,32,32,(.fam 32 1 fun _=>.int .u8 0),(List.replicate 32 (.int .u8 0))⟩
def e24:Ent:=⟨.slice 5,1,24,(.v (.slice none 0 0)),[.v (.slice none 0 0)]⟩
def e25:Ent:=⟨.slice 24,1,24,(.v (.slice none 0 0)),[.v (.slice none 0 0)]⟩
def e26:Ent:=⟨.slice 31,1,24,(.v (.slice none 0 0)),[.v (.slice none 0 0)]⟩
def e27:Ent:=⟨.slice 45,1,24,(.v (.slice none 0 0)),[.v (.slice none 0 0)]⟩
def e29:Ent:=⟨.struct [(0,3),(1,23)],33,40,(.agg [.int .i64 0,.fam 32 1 fun _=>.int .u8 0]),[.int .i64 0,.fam 32 1 fun _=>.int .u8 0]⟩
def e31:Ent:=⟨.struct [(0,3),(1,3),(2,2),(3,2),(4,23),(36,24),(37,25),(38,26),(39,27),(40,29)],73,200,(.agg [.int .i64 0,.int .i64 0,.int .i64 0,.int .i64 0,.fam 32 1 fun _=>.int .u8 0,.v (.slice none 0 0),.v (.slice none 0 0),.v (.slice none 0 0),.v (.slice none 0 0),.int .i64 0,.fam 32 1 fun _=>.int .u8 0]),[.int .i64 0,.int .i64 0,.int .i64 0,.int .i64 0,.fam 32 1 fun _=>.int .u8 0,.v (.slice none 0 0),.v (.slice none 0 0),.v (.slice none 0 0),.v (.slice none 0 0),.int .i64 0,.fam 32 1 fun _=>.int .u8 0]⟩
def e34:Ent:=⟨.int .i64,1,8,(.int .i64 0),[.int .i64 0]⟩
def e39:Ent:=⟨.slice 52,1,24,(.v (.slice none 0 0)),[.v (.slice none 0 0)]⟩
def e40:Ent:=⟨.int .u64,1,8,(.int .u64 0),[.int .u64 0]⟩
def e45:Ent:=⟨.struct [(0,31),(73,26)],74,224,(.agg [.int .i64 0,.int .i64 0,.int .i64 0,.int .i64 0,.fam 32 1 fun _=>.int .u8 0,.v (.slice none 0 0),.v (.slice none 0 0),.v (.slice none 0 0),.v (.slice none 0 0),.int .i64 0,.fam 32 1 fun _=>.int .u8 0,.v (.slice none 0 0)]),[.int .i64 0,.int .i64 0,.int .i64 0,.int .i64 0,.fam 32 1 fun _=>.int .u8 0,.v (.slice none 0 0),.v (.slice none 0 0),.v (.slice none 0 0),.v (.slice none 0 0),.int .i64 0,.fam 32 1 fun _=>.int .u8 0,.v (.slice none 0 0)]⟩
def e48:Ent:=⟨.slice 3,1,24,(.v (.slice none 0 0)),[.v (.slice none 0 0)]⟩
def e50:Ent:=⟨.slice 2,1,24,(.v (.slice none 0 0)),[.v (.slice none 0 0)]⟩
def e52:Ent:=⟨.struct [(0,3),(1,2),(2,50),(3,50),(4,24),(5,3)],6,96,(.agg [.int .i64 0,.int .i64 0,.v (.slice none 0 0),.v (.slice none 0 0),.v (.slice none 0 0),.int .i64 0]),[.int .i64 0,.int .i64 0,.v (.slice none 0 0),.v (.slice none 0 0),.v (.slice none 0 0),.int .i64 0]⟩
def e57:Ent:=⟨.slice 62,1,24,(.v (.slice none 0 0)),[.v (.slice none 0 0)]⟩
def e58:Ent:=⟨.ptr 110,1,8,(.v (.pointer none)),[.v (.pointer none)]⟩
def e60:Ent:=⟨.arr 4 3,4,32,(.agg [.int .i64 0,.int .i64 0,.int .i64 0,.int .i64 0]),[.int .i64 0,.int .i64 0,.int .i64 0,.int .i64 0]⟩
def e62:Ent:=⟨.struct [(0,3),(1,3),(2,2),(3,2),(4,5),(5,4)],6,40,(.agg [.int .i64 0,.int .i64 0,.int .i64 0,.int .i64 0,.int .u8 0,.bool false]),[.int .i64 0,.int .i64 0,.int .i64 0,.int .i64 0,.int .u8 0,.bool false]⟩
def e67:Ent:=⟨.func,1,8,(.v .nilFunc),[.v .nilFunc]⟩
def e77:Ent:=⟨.ptr 3,1,8,(.v (.pointer none)),[.v (.pointer none)]⟩
def e79:Ent:=⟨.struct [(0,4),(1,4),(2,4),(3,4),(4,4),(5,4),(6,4),(7,4),(8,3)],9,16,(.agg [.bool false,.bool false,.bool false,.bool false,.bool false,.bool false,.bool false,.bool false,.int .i64 0]),[.bool false,.bool false,.bool false,.bool false,.bool false,.bool false,.bool false,.bool false,.int .i64 0]⟩
def e85:Ent:=⟨.arr 7 4,7,7,(.agg [.bool false,.bool false,.bool false,.bool false,.bool false,.bool false,.bool false]),[.bool false,.bool false,.bool false,.bool false,.bool false,.bool false,.bool false]⟩
def e96:Ent:=⟨.ptr 31,1,8,(.v (.pointer none)),[.v (.pointer none)]⟩
def e97:Ent:=⟨.arr 9 96,9,72,(.agg [.v (.pointer none),.v (.pointer none),.v (.pointer none),.v (.pointer none),.v (.pointer none),.v (.pointer none),.v (.pointer none),.v (.pointer none),.v (.pointer none)]),[.v (.pointer none),.v (.pointer none),.v (.pointer none),.v (.pointer none),.v (.pointer none),.v (.pointer none),.v (.pointer none),.v (.pointer none),.v (.pointer none)]⟩
def e101:Ent:=⟨.ptr 144,1,8,(.v (.pointer none)),[.v (.pointer none)]⟩
def e103:Ent:=⟨.map 3 31,1,8,(.v (.map none)),[.v (.map none)]⟩
def e105:Ent:=⟨.struct [(0,103)],1,8,(.agg [.v (.map none)]),[.v (.map none)]⟩
def e106:Ent:=⟨.map 3 3,1,8,(.v (.map none)),[.v (.map none)]⟩
def e108:Ent:=⟨.struct [(0,106)],1,8,(.agg [.v (.map none)]),[.v (.map none)]⟩
def e110:Ent:=⟨.struct [(0,3),(1,2),(2,2),(3,96),(4,9),(5,105),(6,101),(7,108),(8,101)],9,80,(.agg [.int .i64 0,.int .i64 0,.int .i64 0,.v (.pointer none),.str ByteArray.empty,.v (.map none),.v (.pointer none),.v (.map none),.v (.pointer none)]),[.int .i64 0,.int .i64 0,.int .i64 0,.v (.pointer none),.str ByteArray.empty,.v (.map none),.v (.pointer none),.v (.map none),.v (.pointer none)]⟩
def e122:Ent:=⟨.func,1,8,(.v .nilFunc),[.v .nilFunc]⟩
def e124:Ent:=⟨.func,1,8,(.v .nilFunc),[.v .nilFunc]⟩
def e132:Ent:=⟨.func,1,8,(.v .nilFunc),[.v .nilFunc]⟩
def e135:Ent:=⟨.func,1,8,(.v .nilFunc),[.v .nilFunc]⟩
def e137:Ent:=⟨.func,1,8,(.v .nilFunc),[.v .nilFunc]⟩
def e139:Ent:=⟨.func,1,8,(.v .nilFunc),[.v .nilFunc]⟩
def e140:Ent:=⟨.map 9 147,1,8,(.v (.map none)),[.v (.map none)]⟩
def e142:Ent:=⟨.struct [(0,140)],1,8,(.agg [.v (.map none)]),[.v (.map none)]⟩
def e144:Ent:=⟨.struct [(0,3),(1,142)],2,16,(.agg [.int .i64 0,.v (.map none)]),[.int .i64 0,.v (.map none)]⟩
def e145:Ent:=⟨.int .u64,1,8,(.int .u64 0),[.int .u64 0]⟩
def e146:Ent:=⟨.ptr 105,1,8,(.v (.pointer none)),[.v (.pointer none)]⟩
def e147:Ent:=⟨.ptr 108,1,8,(.v (.pointer none)),[.v (.pointer none)]⟩
def e153:Ent:=⟨.ptr 155,1,8,(.v (.pointer none)),[.v (.pointer none)]⟩
def e155:Ent:=⟨.struct [(0,24),(1,3),(2,34)],3,40,(.agg [.v (.slice none 0 0),.int .i64 0,.int .i64 0]),[.v (.slice none 0 0),.int .i64 0,.int .i64 0]⟩
def e159:Ent:=⟨.func,1,8,(.v .nilFunc),[.v .nilFunc]⟩
def e163:Ent:=⟨.func,1,8,(.v .nilFunc),[.v .nilFunc]⟩
def e165:Ent:=⟨.func,1,8,(.v .nilFunc),[.v .nilFunc]⟩
def e166:Ent:=⟨.ptr 168,1,8,(.v (.pointer none)),[.v (.pointer none)]⟩
def e168:Ent:=⟨.struct [(0,24),(1,34)],2,32,(.agg [.v (.slice none 0 0),.int .i64 0]),[.v (.slice none 0 0),.int .i64 0]⟩
def e175:Ent:=⟨.ptr 203,1,8,(.v (.pointer none)),[.v (.pointer none)]⟩
def e178:Ent:=⟨.int .u32,1,4,(.int .u32 0),[.int .u32 0]⟩
def e179:Ent:=⟨.arr 64 178,64,256,(.fam 64 1 fun _=>.int .u32 0),(List.replicate 64 (.int .u32 0))⟩
def e180:Ent:=⟨.arr 64 40,64,512,(.fam 64 1 fun _=>.int .u64 0),(List.replicate 64 (.int .u64 0))⟩
def e183:Ent:=⟨.arr 8 178,8,32,(.agg [.int .u32 0,.int .u32 0,.int .u32 0,.int .u32 0,.int .u32 0,.int .u32 0,.int .u32 0,.int .u32 0]),[.int .u32 0,.int .u32 0,.int .u32 0,.int .u32 0,.int .u32 0,.int .u32 0,.int .u32 0,.int .u32 0]⟩
def e185:Ent:=⟨.ptr 179,1,8,(.v (.pointer none)),[.v (.pointer none)]⟩
def e186:Ent:=⟨.ptr 142,1,8,(.v (.pointer none)),[.v (.pointer none)]⟩
def e200:Ent:=⟨.arr 8 178,8,32,(.agg [.int .u32 0,.int .u32 0,.int .u32 0,.int .u32 0,.int .u32 0,.int .u32 0,.int .u32 0,.int .u32 0]),[.int .u32 0,.int .u32 0,.int .u32 0,.int .u32 0,.int .u32 0,.int .u32 0,.int .u32 0,.int .u32 0]⟩
def e203:Ent:=⟨.struct [(0,200),(8,24),(9,2)],10,64,(.agg [.int .u32 0,.int .u32 0,.int .u32 0,.int .u32 0,.int .u32 0,.int .u32 0,.int .u32 0,.int .u32 0,.v (.slice none 0 0),.int .i64 0]),[.int .u32 0,.int .u32 0,.int .u32 0,.int .u32 0,.int .u32 0,.int .u32 0,.int .u32 0,.int .u32 0,.v (.slice none 0 0),.int .i64 0]⟩
def e204:Ent:=⟨.slice 40,1,24,(.v (.slice none 0 0)),[.v (.slice none 0 0)]⟩
def tab:Tab
 | 2=>some e2
 | 3=>some e3
 | 4=>some e4
 | 5=>some e5
 | 9=>some e9
 | 23=>some e23
 | 24=>some e24
 | 25=>some e25
 | 26=>some e26
 | 27=>some e27
 | 29=>some e29
 | 31=>some e31
 | 34=>some e34
 | 39=>some e39
 | 40=>some e40
 | 45=>some e45
 | 48=>some e48
 | 50=>some e50
 | 52=>some e52
 | 57=>some e57
 | 58=>some e58
 | 60=>some e60
 | 62=>some e62
 | 67=>some e67
 | 77=>some e77
 | 79=>some e79
 | 85=>some e85
 | 96=>some e96
 | 97=>some e97
 | 101=>some e101
 | 103=>some e103
 | 105=>some e105
 | 106=>some e106
 | 108=>some e108
 | 110=>some e110
 | 122=>some e122
 | 124=>some e124
 | 132=>some e132
 | 135=>some e135
 | 137=>some e137
 | 139=>some e139
 | 140=>some e140
 | 142=>some e142
 | 144=>some e144
 | 145=>some e145
 | 146=>some e146
 | 147=>some e147
 | 153=>some e153
 | 155=>some e155
 | 159=>some e159
 | 163=>some e163
 | 165=>some e165
 | 166=>some e166
 | 168=>some e168
 | 175=>some e175
 | 178=>some e178
 | 179=>some e179
 | 180=>some e180
 | 183=>some e183
 | 185=>some e185
 | 186=>some e186
 | 200=>some e200
 | 203=>some e203
 | 204=>some e204
 | _=>none
theorem fit2:e2.Fits Try.prog 2 where
 desc:=⟨_,Try.underlying2,rfl⟩
 info:=⟨Try.t2,by kernel_rfl,rfl,rfl,fun ρ=>by kernel_rfl⟩
 zok:=by simp [e2,ok,okL,sz]
 zstor:=by simp [e2,stor,storL,Value.oneCell']
 zsz:=by kernel_rfl
 zlok:=⟨by simp [e2,ok,okL,sz,List.replicate],by simp [e2,stor,storL,Value.oneCell',List.replicate],fun ρ=>by kernel_rfl⟩
 fld:=fun l h=>by cases h
 eqs:=fun l h=>by cases h
 eld:=fun n el h=>by cases h
theorem fit3:e3.Fits Try.prog 3 where
 desc:=⟨_,Try.underlying3,rfl⟩
 info:=⟨Try.t3,by kernel_rfl,rfl,rfl,fun ρ=>by kernel_rfl⟩
 zok:=by simp [e3,ok,okL,sz]
 zstor:=by simp [e3,stor,storL,Value.oneCell']
 zsz:=by kernel_rfl
 zlok:=⟨by simp [e3,ok,okL,sz,List.replicate],by simp [e3,stor,storL,Value.oneCell',List.replicate],fun ρ=>by kernel_rfl⟩
 fld:=fun l h=>by cases h
 eqs:=fun l h=>by cases h
 eld:=fun n el h=>by cases h
theorem fit4:e4.Fits Try.prog 4 where
 desc:=⟨_,Try.underlying4,rfl⟩
 info:=⟨Try.t4,by kernel_rfl,rfl,rfl,fun ρ=>by kernel_rfl⟩
 zok:=by simp [e4,ok,okL,sz]
 zstor:=by simp [e4,stor,storL,Value.oneCell']
 zsz:=by kernel_rfl
 zlok:=⟨by simp [e4,ok,okL,sz,List.replicate],by simp [e4,stor,storL,Value.oneCell',List.replicate],fun ρ=>by kernel_rfl⟩
 fld:=fun l h=>by cases h
 eqs:=fun l h=>by cases h
 eld:=fun n el h=>by cases h
theorem fit5:e5.Fits Try.prog 5 where
 desc:=⟨_,Try.underlying5,rfl⟩
 info:=⟨Try.t5,by kernel_rfl,rfl,rfl,fun ρ=>by kernel_rfl⟩
 zok:=by simp [e5,ok,okL,sz]
 zstor:=by simp [e5,stor,storL,Value.oneCell']
 zsz:=by kernel_rfl
 zlok:=⟨by simp [e5,ok,okL,sz,List.replicate],by simp [e5,stor,storL,Value.oneCell',List.replicate],fun ρ=>by kernel_rfl⟩
 fld:=fun l h=>by cases h
 eqs:=fun l h=>by cases h
 eld:=fun n el h=>by cases h
theorem fit9:e9.Fits Try.prog 9 where
 desc:=⟨_,Try.underlying9,rfl⟩
 info:=⟨Try.t9,by kernel_rfl,rfl,rfl,fun ρ=>by kernel_rfl⟩
 zok:=by simp [e9,ok,okL,sz]
 zstor:=by simp [e9,stor,storL,Value.oneCell']
 zsz:=by kernel_rfl
 zlok:=⟨by simp [e9,ok,okL,sz,List.replicate],by simp [e9,stor,storL,Value.oneCell',List.replicate],fun ρ=>by kernel_rfl⟩
 fld:=fun l h=>by cases h
 eqs:=fun l h=>by cases h
 eld:=fun n el h=>by cases h
theorem fit23:e23.Fits Try.prog 23 where
 desc:=⟨_,Try.underlying23,rfl⟩
 info:=⟨Try.t23,by kernel_rfl,rfl,rfl,fun ρ=>by kernel_rfl⟩
 zok:=by simp [e23,ok,okL,sz]
 zstor:=by simp [e23,stor,storL,Value.oneCell']
 zsz:=by kernel_rfl
 zlok:=⟨by simp [e23,ok,okL,sz,List.replicate],by simp [e23,stor,storL,Value.oneCell',List.replicate],fun ρ=>by kernel_rfl⟩
 fld:=fun l h=>by cases h
 eqs:=fun l h=>by cases h
 eld:=by
  intro n el h
  cases h
  kernel_rfl
theorem fit24:e24.Fits Try.prog 24 where
 desc:=⟨_,Try.underlying24,rfl⟩
 info:=⟨Try.t24,by kernel_rfl,rfl,rfl,fun ρ=>by kernel_rfl⟩
 zok:=by simp [e24,ok,okL,sz]
 zstor:=by simp [e24,stor,storL,Value.oneCell']
 zsz:=by kernel_rfl
 zlok:=⟨by simp [e24,ok,okL,sz,List.replicate],by simp [e24,stor,storL,Value.oneCell',List.replicate],fun ρ=>by kernel_rfl⟩
 fld:=fun l h=>by cases h
 eqs:=fun l h=>by cases h
 eld:=fun n el h=>by cases h
theorem fit25:e25.Fits Try.prog 25 where
 desc:=⟨_,Try.underlying25,rfl⟩
 info:=⟨Try.t25,by kernel_rfl,rfl,rfl,fun ρ=>by kernel_rfl⟩
 zok:=by simp [e25,ok,okL,sz]
 zstor:=by simp [e25,stor,storL,Value.oneCell']
 zsz:=by kernel_rfl
 zlok:=⟨by simp [e25,ok,okL,sz,List.replicate],by simp [e25,stor,storL,Value.oneCell',List.replicate],fun ρ=>by kernel_rfl⟩
 fld:=fun l h=>by cases h
 eqs:=fun l h=>by cases h
 eld:=fun n el h=>by cases h
theorem fit26:e26.Fits Try.prog 26 where
 desc:=⟨_,Try.underlying26,rfl⟩
 info:=⟨Try.t26,by kernel_rfl,rfl,rfl,fun ρ=>by kernel_rfl⟩
 zok:=by simp [e26,ok,okL,sz]
 zstor:=by simp [e26,stor,storL,Value.oneCell']
 zsz:=by kernel_rfl
 zlok:=⟨by simp [e26,ok,okL,sz,List.replicate],by simp [e26,stor,storL,Value.oneCell',List.replicate],fun ρ=>by kernel_rfl⟩
 fld:=fun l h=>by cases h
 eqs:=fun l h=>by cases h
 eld:=fun n el h=>by cases h
theorem fit27:e27.Fits Try.prog 27 where
 desc:=⟨_,Try.underlying27,rfl⟩
 info:=⟨Try.t27,by kernel_rfl,rfl,rfl,fun ρ=>by kernel_rfl⟩
 zok:=by simp [e27,ok,okL,sz]
 zstor:=by simp [e27,stor,storL,Value.oneCell']
 zsz:=by kernel_rfl
 zlok:=⟨by simp [e27,ok,okL,sz,List.replicate],by simp [e27,stor,storL,Value.oneCell',List.replicate],fun ρ=>by kernel_rfl⟩
 fld:=fun l h=>by cases h
 eqs:=fun l h=>by cases h
 eld:=fun n el h=>by cases h
theorem fit29:e29.Fits Try.prog 29 where
 desc:=⟨_,Try.underlying29,_,rfl,rfl⟩
 info:=⟨Try.t29,by kernel_rfl,rfl,rfl,fun ρ=>by kernel_rfl⟩
 zok:=by simp [e29,ok,okL,sz]
 zstor:=by simp [e29,stor,storL,Value.oneCell']
 zsz:=by kernel_rfl
 zlok:=⟨by simp [e29,ok,okL,sz,List.replicate],by simp [e29,stor,storL,Value.oneCell',List.replicate],fun ρ=>by kernel_rfl⟩
 fld:=by
  intro l hl
  cases hl
  intro p hp
  simp only [List.mem_cons,List.not_mem_nil,or_false] at hp
  rcases hp with rfl | rfl <;> kernel_rfl
 eqs:=fun l _=>⟨fun fs h=>by rw [Try.underlying29] at h; cases h; simp,by kernel_rfl,by kernel_rfl⟩
 eld:=fun n el h=>by cases h
theorem fit31:e31.Fits Try.prog 31 where
 desc:=⟨_,Try.underlying31,_,rfl,rfl⟩
 info:=⟨Try.t31,by kernel_rfl,rfl,rfl,fun ρ=>by kernel_rfl⟩
 zok:=by simp [e31,ok,okL,sz]
 zstor:=by simp [e31,stor,storL,Value.oneCell']
 zsz:=by kernel_rfl
 zlok:=⟨by simp [e31,ok,okL,sz,List.replicate],by simp [e31,stor,storL,Value.oneCell',List.replicate],fun ρ=>by kernel_rfl⟩
 fld:=by
  intro l hl
  cases hl
  intro p hp
  simp only [List.mem_cons,List.not_mem_nil,or_false] at hp
  rcases hp with rfl | rfl | rfl | rfl | rfl | rfl | rfl | rfl | rfl | rfl <;> kernel_rfl
 eqs:=fun l _=>⟨fun fs h=>by rw [Try.underlying31] at h; cases h; simp,by kernel_rfl,by kernel_rfl⟩
 eld:=fun n el h=>by cases h
theorem fit34:e34.Fits Try.prog 34 where
 desc:=⟨_,Try.underlying34,rfl⟩
 info:=⟨Try.t34,by kernel_rfl,rfl,rfl,fun ρ=>by kernel_rfl⟩
 zok:=by simp [e34,ok,okL,sz]
 zstor:=by simp [e34,stor,storL,Value.oneCell']
 zsz:=by kernel_rfl
 zlok:=⟨by simp [e34,ok,okL,sz,List.replicate],by simp [e34,stor,storL,Value.oneCell',List.replicate],fun ρ=>by kernel_rfl⟩
 fld:=fun l h=>by cases h
 eqs:=fun l h=>by cases h
 eld:=fun n el h=>by cases h
theorem fit39:e39.Fits Try.prog 39 where
 desc:=⟨_,Try.underlying39,rfl⟩
 info:=⟨Try.t39,by kernel_rfl,rfl,rfl,fun ρ=>by kernel_rfl⟩
 zok:=by simp [e39,ok,okL,sz]
 zstor:=by simp [e39,stor,storL,Value.oneCell']
 zsz:=by kernel_rfl
 zlok:=⟨by simp [e39,ok,okL,sz,List.replicate],by simp [e39,stor,storL,Value.oneCell',List.replicate],fun ρ=>by kernel_rfl⟩
 fld:=fun l h=>by cases h
 eqs:=fun l h=>by cases h
 eld:=fun n el h=>by cases h
theorem fit40:e40.Fits Try.prog 40 where
 desc:=⟨_,Try.underlying40,rfl⟩
 info:=⟨Try.t40,by kernel_rfl,rfl,rfl,fun ρ=>by kernel_rfl⟩
 zok:=by simp [e40,ok,okL,sz]
 zstor:=by simp [e40,stor,storL,Value.oneCell']
 zsz:=by kernel_rfl
 zlok:=⟨by simp [e40,ok,okL,sz,List.replicate],by simp [e40,stor,storL,Value.oneCell',List.replicate],fun ρ=>by kernel_rfl⟩
 fld:=fun l h=>by cases h
 eqs:=fun l h=>by cases h
 eld:=fun n el h=>by cases h
theorem fit45:e45.Fits Try.prog 45 where
 desc:=⟨_,Try.underlying45,_,rfl,rfl⟩
 info:=⟨Try.t45,by kernel_rfl,rfl,rfl,fun ρ=>by kernel_rfl⟩
 zok:=by simp [e45,ok,okL,sz]
 zstor:=by simp [e45,stor,storL,Value.oneCell']
 zsz:=by kernel_rfl
 zlok:=⟨by simp [e45,ok,okL,sz,List.replicate],by simp [e45,stor,storL,Value.oneCell',List.replicate],fun ρ=>by kernel_rfl⟩
 fld:=by
  intro l hl
  cases hl
  intro p hp
  simp only [List.mem_cons,List.not_mem_nil,or_false] at hp
  rcases hp with rfl | rfl <;> kernel_rfl
 eqs:=fun l _=>⟨fun fs h=>by rw [Try.underlying45] at h; cases h; simp,by kernel_rfl,by kernel_rfl⟩
 eld:=fun n el h=>by cases h
theorem fit48:e48.Fits Try.prog 48 where
 desc:=⟨_,Try.underlying48,rfl⟩
 info:=⟨Try.t48,by kernel_rfl,rfl,rfl,fun ρ=>by kernel_rfl⟩
 zok:=by simp [e48,ok,okL,sz]
 zstor:=by simp [e48,stor,storL,Value.oneCell']
 zsz:=by kernel_rfl
 zlok:=⟨by simp [e48,ok,okL,sz,List.replicate],by simp [e48,stor,storL,Value.oneCell',List.replicate],fun ρ=>by kernel_rfl⟩
 fld:=fun l h=>by cases h
 eqs:=fun l h=>by cases h
 eld:=fun n el h=>by cases h
theorem fit50:e50.Fits Try.prog 50 where
 desc:=⟨_,Try.underlying50,rfl⟩
 info:=⟨Try.t50,by kernel_rfl,rfl,rfl,fun ρ=>by kernel_rfl⟩
 zok:=by simp [e50,ok,okL,sz]
 zstor:=by simp [e50,stor,storL,Value.oneCell']
 zsz:=by kernel_rfl
 zlok:=⟨by simp [e50,ok,okL,sz,List.replicate],by simp [e50,stor,storL,Value.oneCell',List.replicate],fun ρ=>by kernel_rfl⟩
 fld:=fun l h=>by cases h
 eqs:=fun l h=>by cases h
 eld:=fun n el h=>by cases h
theorem fit52:e52.Fits Try.prog 52 where
 desc:=⟨_,Try.underlying52,_,rfl,rfl⟩
 info:=⟨Try.t52,by kernel_rfl,rfl,rfl,fun ρ=>by kernel_rfl⟩
 zok:=by simp [e52,ok,okL,sz]
 zstor:=by simp [e52,stor,storL,Value.oneCell']
 zsz:=by kernel_rfl
 zlok:=⟨by simp [e52,ok,okL,sz,List.replicate],by simp [e52,stor,storL,Value.oneCell',List.replicate],fun ρ=>by kernel_rfl⟩
 fld:=by
  intro l hl
  cases hl
  intro p hp
  simp only [List.mem_cons,List.not_mem_nil,or_false] at hp
  rcases hp with rfl | rfl | rfl | rfl | rfl | rfl <;> kernel_rfl
 eqs:=fun l _=>⟨fun fs h=>by rw [Try.underlying52] at h; cases h; simp,by kernel_rfl,by kernel_rfl⟩
 eld:=fun n el h=>by cases h
theorem fit57:e57.Fits Try.prog 57 where
 desc:=⟨_,Try.underlying57,rfl⟩
 info:=⟨Try.t57,by kernel_rfl,rfl,rfl,fun ρ=>by kernel_rfl⟩
 zok:=by simp [e57,ok,okL,sz]
 zstor:=by simp [e57,stor,storL,Value.oneCell']
 zsz:=by kernel_rfl
 zlok:=⟨by simp [e57,ok,okL,sz,List.replicate],by simp [e57,stor,storL,Value.oneCell',List.replicate],fun ρ=>by kernel_rfl⟩
 fld:=fun l h=>by cases h
 eqs:=fun l h=>by cases h
 eld:=fun n el h=>by cases h
theorem fit58:e58.Fits Try.prog 58 where
 desc:=⟨_,Try.underlying58,rfl⟩
 info:=⟨Try.t58,by kernel_rfl,rfl,rfl,fun ρ=>by kernel_rfl⟩
 zok:=by simp [e58,ok,okL,sz]
 zstor:=by simp [e58,stor,storL,Value.oneCell']
 zsz:=by kernel_rfl
 zlok:=⟨by simp [e58,ok,okL,sz,List.replicate],by simp [e58,stor,storL,Value.oneCell',List.replicate],fun ρ=>by kernel_rfl⟩
 fld:=fun l h=>by cases h
 eqs:=fun l h=>by cases h
 eld:=fun n el h=>by cases h
theorem fit60:e60.Fits Try.prog 60 where
 desc:=⟨_,Try.underlying60,rfl⟩
 info:=⟨Try.t60,by kernel_rfl,rfl,rfl,fun ρ=>by kernel_rfl⟩
 zok:=by simp [e60,ok,okL,sz]
 zstor:=by simp [e60,stor,storL,Value.oneCell']
 zsz:=by kernel_rfl
 zlok:=⟨by simp [e60,ok,okL,sz,List.replicate],by simp [e60,stor,storL,Value.oneCell',List.replicate],fun ρ=>by kernel_rfl⟩
 fld:=fun l h=>by cases h
 eqs:=fun l h=>by cases h
 eld:=by
  intro n el h
  cases h
  kernel_rfl
theorem fit62:e62.Fits Try.prog 62 where
 desc:=⟨_,Try.underlying62,_,rfl,rfl⟩
 info:=⟨Try.t62,by kernel_rfl,rfl,rfl,fun ρ=>by kernel_rfl⟩
 zok:=by simp [e62,ok,okL,sz]
 zstor:=by simp [e62,stor,storL,Value.oneCell']
 zsz:=by kernel_rfl
 zlok:=⟨by simp [e62,ok,okL,sz,List.replicate],by simp [e62,stor,storL,Value.oneCell',List.replicate],fun ρ=>by kernel_rfl⟩
 fld:=by
  intro l hl
  cases hl
  intro p hp
  simp only [List.mem_cons,List.not_mem_nil,or_false] at hp
  rcases hp with rfl | rfl | rfl | rfl | rfl | rfl <;> kernel_rfl
 eqs:=fun l _=>⟨fun fs h=>by rw [Try.underlying62] at h; cases h; simp,by kernel_rfl,by kernel_rfl⟩
 eld:=fun n el h=>by cases h
theorem fit67:e67.Fits Try.prog 67 where
 desc:=⟨_,Try.underlying67,_,_,_,rfl⟩
 info:=⟨Try.t67,by kernel_rfl,rfl,rfl,fun ρ=>by kernel_rfl⟩
 zok:=by simp [e67,ok,okL,sz]
 zstor:=by simp [e67,stor,storL,Value.oneCell']
 zsz:=by kernel_rfl
 zlok:=⟨by simp [e67,ok,okL,sz,List.replicate],by simp [e67,stor,storL,Value.oneCell',List.replicate],fun ρ=>by kernel_rfl⟩
 fld:=fun l h=>by cases h
 eqs:=fun l h=>by cases h
 eld:=fun n el h=>by cases h
theorem fit77:e77.Fits Try.prog 77 where
 desc:=⟨_,Try.underlying77,rfl⟩
 info:=⟨Try.t77,by kernel_rfl,rfl,rfl,fun ρ=>by kernel_rfl⟩
 zok:=by simp [e77,ok,okL,sz]
 zstor:=by simp [e77,stor,storL,Value.oneCell']
 zsz:=by kernel_rfl
 zlok:=⟨by simp [e77,ok,okL,sz,List.replicate],by simp [e77,stor,storL,Value.oneCell',List.replicate],fun ρ=>by kernel_rfl⟩
 fld:=fun l h=>by cases h
 eqs:=fun l h=>by cases h
 eld:=fun n el h=>by cases h
theorem fit79:e79.Fits Try.prog 79 where
 desc:=⟨_,Try.underlying79,_,rfl,rfl⟩
 info:=⟨Try.t79,by kernel_rfl,rfl,rfl,fun ρ=>by kernel_rfl⟩
 zok:=by simp [e79,ok,okL,sz]
 zstor:=by simp [e79,stor,storL,Value.oneCell']
 zsz:=by kernel_rfl
 zlok:=⟨by simp [e79,ok,okL,sz,List.replicate],by simp [e79,stor,storL,Value.oneCell',List.replicate],fun ρ=>by kernel_rfl⟩
 fld:=by
  intro l hl
  cases hl
  intro p hp
  simp only [List.mem_cons,List.not_mem_nil,or_false] at hp
  rcases hp with rfl | rfl | rfl | rfl | rfl | rfl | rfl | rfl | rfl <;> kernel_rfl
 eqs:=fun l _=>⟨fun fs h=>by rw [Try.underlying79] at h; cases h; simp,by kernel_rfl,by kernel_rfl⟩
 eld:=fun n el h=>by cases h
theorem fit85:e85.Fits Try.prog 85 where
 desc:=⟨_,Try.underlying85,rfl⟩
 info:=⟨Try.t85,by kernel_rfl,rfl,rfl,fun ρ=>by kernel_rfl⟩
 zok:=by simp [e85,ok,okL,sz]
 zstor:=by simp [e85,stor,storL,Value.oneCell']
 zsz:=by kernel_rfl
 zlok:=⟨by simp [e85,ok,okL,sz,List.replicate],by simp [e85,stor,storL,Value.oneCell',List.replicate],fun ρ=>by kernel_rfl⟩
 fld:=fun l h=>by cases h
 eqs:=fun l h=>by cases h
 eld:=by
  intro n el h
  cases h
  kernel_rfl
theorem fit96:e96.Fits Try.prog 96 where
 desc:=⟨_,Try.underlying96,rfl⟩
 info:=⟨Try.t96,by kernel_rfl,rfl,rfl,fun ρ=>by kernel_rfl⟩
 zok:=by simp [e96,ok,okL,sz]
 zstor:=by simp [e96,stor,storL,Value.oneCell']
 zsz:=by kernel_rfl
 zlok:=⟨by simp [e96,ok,okL,sz,List.replicate],by simp [e96,stor,storL,Value.oneCell',List.replicate],fun ρ=>by kernel_rfl⟩
 fld:=fun l h=>by cases h
 eqs:=fun l h=>by cases h
 eld:=fun n el h=>by cases h
theorem fit97:e97.Fits Try.prog 97 where
 desc:=⟨_,Try.underlying97,rfl⟩
 info:=⟨Try.t97,by kernel_rfl,rfl,rfl,fun ρ=>by kernel_rfl⟩
 zok:=by simp [e97,ok,okL,sz]
 zstor:=by simp [e97,stor,storL,Value.oneCell']
 zsz:=by kernel_rfl
 zlok:=⟨by simp [e97,ok,okL,sz,List.replicate],by simp [e97,stor,storL,Value.oneCell',List.replicate],fun ρ=>by kernel_rfl⟩
 fld:=fun l h=>by cases h
 eqs:=fun l h=>by cases h
 eld:=by
  intro n el h
  cases h
  kernel_rfl
theorem fit101:e101.Fits Try.prog 101 where
 desc:=⟨_,Try.underlying101,rfl⟩
 info:=⟨Try.t101,by kernel_rfl,rfl,rfl,fun ρ=>by kernel_rfl⟩
 zok:=by simp [e101,ok,okL,sz]
 zstor:=by simp [e101,stor,storL,Value.oneCell']
 zsz:=by kernel_rfl
 zlok:=⟨by simp [e101,ok,okL,sz,List.replicate],by simp [e101,stor,storL,Value.oneCell',List.replicate],fun ρ=>by kernel_rfl⟩
 fld:=fun l h=>by cases h
 eqs:=fun l h=>by cases h
 eld:=fun n el h=>by cases h
theorem fit103:e103.Fits Try.prog 103 where
 desc:=⟨_,Try.underlying103,rfl⟩
 info:=⟨Try.t103,by kernel_rfl,rfl,rfl,fun ρ=>by kernel_rfl⟩
 zok:=by simp [e103,ok,okL,sz]
 zstor:=by simp [e103,stor,storL,Value.oneCell']
 zsz:=by kernel_rfl
 zlok:=⟨by simp [e103,ok,okL,sz,List.replicate],by simp [e103,stor,storL,Value.oneCell',List.replicate],fun ρ=>by kernel_rfl⟩
 fld:=fun l h=>by cases h
 eqs:=fun l h=>by cases h
 eld:=fun n el h=>by cases h
theorem fit105:e105.Fits Try.prog 105 where
 desc:=⟨_,Try.underlying105,_,rfl,rfl⟩
 info:=⟨Try.t105,by kernel_rfl,rfl,rfl,fun ρ=>by kernel_rfl⟩
 zok:=by simp [e105,ok,okL,sz]
 zstor:=by simp [e105,stor,storL,Value.oneCell']
 zsz:=by kernel_rfl
 zlok:=⟨by simp [e105,ok,okL,sz,List.replicate],by simp [e105,stor,storL,Value.oneCell',List.replicate],fun ρ=>by kernel_rfl⟩
 fld:=by
  intro l hl
  cases hl
  intro p hp
  simp only [List.mem_cons,List.not_mem_nil,or_false] at hp
  rcases hp with rfl <;> kernel_rfl
 eqs:=fun l _=>⟨fun fs h=>by rw [Try.underlying105] at h; cases h; simp,by kernel_rfl,by kernel_rfl⟩
 eld:=fun n el h=>by cases h
theorem fit106:e106.Fits Try.prog 106 where
 desc:=⟨_,Try.underlying106,rfl⟩
 info:=⟨Try.t106,by kernel_rfl,rfl,rfl,fun ρ=>by kernel_rfl⟩
 zok:=by simp [e106,ok,okL,sz]
 zstor:=by simp [e106,stor,storL,Value.oneCell']
 zsz:=by kernel_rfl
 zlok:=⟨by simp [e106,ok,okL,sz,List.replicate],by simp [e106,stor,storL,Value.oneCell',List.replicate],fun ρ=>by kernel_rfl⟩
 fld:=fun l h=>by cases h
 eqs:=fun l h=>by cases h
 eld:=fun n el h=>by cases h
theorem fit108:e108.Fits Try.prog 108 where
 desc:=⟨_,Try.underlying108,_,rfl,rfl⟩
 info:=⟨Try.t108,by kernel_rfl,rfl,rfl,fun ρ=>by kernel_rfl⟩
 zok:=by simp [e108,ok,okL,sz]
 zstor:=by simp [e108,stor,storL,Value.oneCell']
 zsz:=by kernel_rfl
 zlok:=⟨by simp [e108,ok,okL,sz,List.replicate],by simp [e108,stor,storL,Value.oneCell',List.replicate],fun ρ=>by kernel_rfl⟩
 fld:=by
  intro l hl
  cases hl
  intro p hp
  simp only [List.mem_cons,List.not_mem_nil,or_false] at hp
  rcases hp with rfl <;> kernel_rfl
 eqs:=fun l _=>⟨fun fs h=>by rw [Try.underlying108] at h; cases h; simp,by kernel_rfl,by kernel_rfl⟩
 eld:=fun n el h=>by cases h
theorem fit110:e110.Fits Try.prog 110 where
 desc:=⟨_,Try.underlying110,_,rfl,rfl⟩
 info:=⟨Try.t110,by kernel_rfl,rfl,rfl,fun ρ=>by kernel_rfl⟩
 zok:=by simp [e110,ok,okL,sz]
 zstor:=by simp [e110,stor,storL,Value.oneCell']
 zsz:=by kernel_rfl
 zlok:=⟨by simp [e110,ok,okL,sz,List.replicate],by simp [e110,stor,storL,Value.oneCell',List.replicate],fun ρ=>by kernel_rfl⟩
 fld:=by
  intro l hl
  cases hl
  intro p hp
  simp only [List.mem_cons,List.not_mem_nil,or_false] at hp
  rcases hp with rfl | rfl | rfl | rfl | rfl | rfl | rfl | rfl | rfl <;> kernel_rfl
 eqs:=fun l _=>⟨fun fs h=>by rw [Try.underlying110] at h; cases h; simp,by kernel_rfl,by kernel_rfl⟩
 eld:=fun n el h=>by cases h
theorem fit122:e122.Fits Try.prog 122 where
 desc:=⟨_,Try.underlying122,_,_,_,rfl⟩
 info:=⟨Try.t122,by kernel_rfl,rfl,rfl,fun ρ=>by kernel_rfl⟩
 zok:=by simp [e122,ok,okL,sz]
 zstor:=by simp [e122,stor,storL,Value.oneCell']
 zsz:=by kernel_rfl
 zlok:=⟨by simp [e122,ok,okL,sz,List.replicate],by simp [e122,stor,storL,Value.oneCell',List.replicate],fun ρ=>by kernel_rfl⟩
 fld:=fun l h=>by cases h
 eqs:=fun l h=>by cases h
 eld:=fun n el h=>by cases h
theorem fit124:e124.Fits Try.prog 124 where
 desc:=⟨_,Try.underlying124,_,_,_,rfl⟩
 info:=⟨Try.t124,by kernel_rfl,rfl,rfl,fun ρ=>by kernel_rfl⟩
 zok:=by simp [e124,ok,okL,sz]
 zstor:=by simp [e124,stor,storL,Value.oneCell']
 zsz:=by kernel_rfl
 zlok:=⟨by simp [e124,ok,okL,sz,List.replicate],by simp [e124,stor,storL,Value.oneCell',List.replicate],fun ρ=>by kernel_rfl⟩
 fld:=fun l h=>by cases h
 eqs:=fun l h=>by cases h
 eld:=fun n el h=>by cases h
theorem fit132:e132.Fits Try.prog 132 where
 desc:=⟨_,Try.underlying132,_,_,_,rfl⟩
 info:=⟨Try.t132,by kernel_rfl,rfl,rfl,fun ρ=>by kernel_rfl⟩
 zok:=by simp [e132,ok,okL,sz]
 zstor:=by simp [e132,stor,storL,Value.oneCell']
 zsz:=by kernel_rfl
 zlok:=⟨by simp [e132,ok,okL,sz,List.replicate],by simp [e132,stor,storL,Value.oneCell',List.replicate],fun ρ=>by kernel_rfl⟩
 fld:=fun l h=>by cases h
 eqs:=fun l h=>by cases h
 eld:=fun n el h=>by cases h
theorem fit135:e135.Fits Try.prog 135 where
 desc:=⟨_,Try.underlying135,_,_,_,rfl⟩
 info:=⟨Try.t135,by kernel_rfl,rfl,rfl,fun ρ=>by kernel_rfl⟩
 zok:=by simp [e135,ok,okL,sz]
 zstor:=by simp [e135,stor,storL,Value.oneCell']
 zsz:=by kernel_rfl
 zlok:=⟨by simp [e135,ok,okL,sz,List.replicate],by simp [e135,stor,storL,Value.oneCell',List.replicate],fun ρ=>by kernel_rfl⟩
 fld:=fun l h=>by cases h
 eqs:=fun l h=>by cases h
 eld:=fun n el h=>by cases h
theorem fit137:e137.Fits Try.prog 137 where
 desc:=⟨_,Try.underlying137,_,_,_,rfl⟩
 info:=⟨Try.t137,by kernel_rfl,rfl,rfl,fun ρ=>by kernel_rfl⟩
 zok:=by simp [e137,ok,okL,sz]
 zstor:=by simp [e137,stor,storL,Value.oneCell']
 zsz:=by kernel_rfl
 zlok:=⟨by simp [e137,ok,okL,sz,List.replicate],by simp [e137,stor,storL,Value.oneCell',List.replicate],fun ρ=>by kernel_rfl⟩
 fld:=fun l h=>by cases h
 eqs:=fun l h=>by cases h
 eld:=fun n el h=>by cases h
theorem fit139:e139.Fits Try.prog 139 where
 desc:=⟨_,Try.underlying139,_,_,_,rfl⟩
 info:=⟨Try.t139,by kernel_rfl,rfl,rfl,fun ρ=>by kernel_rfl⟩
 zok:=by simp [e139,ok,okL,sz]
 zstor:=by simp [e139,stor,storL,Value.oneCell']
 zsz:=by kernel_rfl
 zlok:=⟨by simp [e139,ok,okL,sz,List.replicate],by simp [e139,stor,storL,Value.oneCell',List.replicate],fun ρ=>by kernel_rfl⟩
 fld:=fun l h=>by cases h
 eqs:=fun l h=>by cases h
 eld:=fun n el h=>by cases h
theorem fit140:e140.Fits Try.prog 140 where
 desc:=⟨_,Try.underlying140,rfl⟩
 info:=⟨Try.t140,by kernel_rfl,rfl,rfl,fun ρ=>by kernel_rfl⟩
 zok:=by simp [e140,ok,okL,sz]
 zstor:=by simp [e140,stor,storL,Value.oneCell']
 zsz:=by kernel_rfl
 zlok:=⟨by simp [e140,ok,okL,sz,List.replicate],by simp [e140,stor,storL,Value.oneCell',List.replicate],fun ρ=>by kernel_rfl⟩
 fld:=fun l h=>by cases h
 eqs:=fun l h=>by cases h
 eld:=fun n el h=>by cases h
theorem fit142:e142.Fits Try.prog 142 where
 desc:=⟨_,Try.underlying142,_,rfl,rfl⟩
 info:=⟨Try.t142,by kernel_rfl,rfl,rfl,fun ρ=>by kernel_rfl⟩
 zok:=by simp [e142,ok,okL,sz]
 zstor:=by simp [e142,stor,storL,Value.oneCell']
 zsz:=by kernel_rfl
 zlok:=⟨by simp [e142,ok,okL,sz,List.replicate],by simp [e142,stor,storL,Value.oneCell',List.replicate],fun ρ=>by kernel_rfl⟩
 fld:=by
  intro l hl
  cases hl
  intro p hp
  simp only [List.mem_cons,List.not_mem_nil,or_false] at hp
  rcases hp with rfl <;> kernel_rfl
 eqs:=fun l _=>⟨fun fs h=>by rw [Try.underlying142] at h; cases h; simp,by kernel_rfl,by kernel_rfl⟩
 eld:=fun n el h=>by cases h
theorem fit144:e144.Fits Try.prog 144 where
 desc:=⟨_,Try.underlying144,_,rfl,rfl⟩
 info:=⟨Try.t144,by kernel_rfl,rfl,rfl,fun ρ=>by kernel_rfl⟩
 zok:=by simp [e144,ok,okL,sz]
 zstor:=by simp [e144,stor,storL,Value.oneCell']
 zsz:=by kernel_rfl
 zlok:=⟨by simp [e144,ok,okL,sz,List.replicate],by simp [e144,stor,storL,Value.oneCell',List.replicate],fun ρ=>by kernel_rfl⟩
 fld:=by
  intro l hl
  cases hl
  intro p hp
  simp only [List.mem_cons,List.not_mem_nil,or_false] at hp
  rcases hp with rfl | rfl <;> kernel_rfl
 eqs:=fun l _=>⟨fun fs h=>by rw [Try.underlying144] at h; cases h; simp,by kernel_rfl,by kernel_rfl⟩
 eld:=fun n el h=>by cases h
theorem fit145:e145.Fits Try.prog 145 where
 desc:=⟨_,Try.underlying145,rfl⟩
 info:=⟨Try.t145,by kernel_rfl,rfl,rfl,fun ρ=>by kernel_rfl⟩
 zok:=by simp [e145,ok,okL,sz]
 zstor:=by simp [e145,stor,storL,Value.oneCell']
 zsz:=by kernel_rfl
 zlok:=⟨by simp [e145,ok,okL,sz,List.replicate],by simp [e145,stor,storL,Value.oneCell',List.replicate],fun ρ=>by kernel_rfl⟩
 fld:=fun l h=>by cases h
 eqs:=fun l h=>by cases h
 eld:=fun n el h=>by cases h
theorem fit146:e146.Fits Try.prog 146 where
 desc:=⟨_,Try.underlying146,rfl⟩
 info:=⟨Try.t146,by kernel_rfl,rfl,rfl,fun ρ=>by kernel_rfl⟩
 zok:=by simp [e146,ok,okL,sz]
 zstor:=by simp [e146,stor,storL,Value.oneCell']
 zsz:=by kernel_rfl
 zlok:=⟨by simp [e146,ok,okL,sz,List.replicate],by simp [e146,stor,storL,Value.oneCell',List.replicate],fun ρ=>by kernel_rfl⟩
 fld:=fun l h=>by cases h
 eqs:=fun l h=>by cases h
 eld:=fun n el h=>by cases h
theorem fit147:e147.Fits Try.prog 147 where
 desc:=⟨_,Try.underlying147,rfl⟩
 info:=⟨Try.t147,by kernel_rfl,rfl,rfl,fun ρ=>by kernel_rfl⟩
 zok:=by simp [e147,ok,okL,sz]
 zstor:=by simp [e147,stor,storL,Value.oneCell']
 zsz:=by kernel_rfl
 zlok:=⟨by simp [e147,ok,okL,sz,List.replicate],by simp [e147,stor,storL,Value.oneCell',List.replicate],fun ρ=>by kernel_rfl⟩
 fld:=fun l h=>by cases h
 eqs:=fun l h=>by cases h
 eld:=fun n el h=>by cases h
theorem fit153:e153.Fits Try.prog 153 where
 desc:=⟨_,Try.underlying153,rfl⟩
 info:=⟨Try.t153,by kernel_rfl,rfl,rfl,fun ρ=>by kernel_rfl⟩
 zok:=by simp [e153,ok,okL,sz]
 zstor:=by simp [e153,stor,storL,Value.oneCell']
 zsz:=by kernel_rfl
 zlok:=⟨by simp [e153,ok,okL,sz,List.replicate],by simp [e153,stor,storL,Value.oneCell',List.replicate],fun ρ=>by kernel_rfl⟩
 fld:=fun l h=>by cases h
 eqs:=fun l h=>by cases h
 eld:=fun n el h=>by cases h
theorem fit155:e155.Fits Try.prog 155 where
 desc:=⟨_,Try.underlying155,_,rfl,rfl⟩
 info:=⟨Try.t155,by kernel_rfl,rfl,rfl,fun ρ=>by kernel_rfl⟩
 zok:=by simp [e155,ok,okL,sz]
 zstor:=by simp [e155,stor,storL,Value.oneCell']
 zsz:=by kernel_rfl
 zlok:=⟨by simp [e155,ok,okL,sz,List.replicate],by simp [e155,stor,storL,Value.oneCell',List.replicate],fun ρ=>by kernel_rfl⟩
 fld:=by
  intro l hl
  cases hl
  intro p hp
  simp only [List.mem_cons,List.not_mem_nil,or_false] at hp
  rcases hp with rfl | rfl | rfl <;> kernel_rfl
 eqs:=fun l _=>⟨fun fs h=>by rw [Try.underlying155] at h; cases h; simp,by kernel_rfl,by kernel_rfl⟩
 eld:=fun n el h=>by cases h
theorem fit159:e159.Fits Try.prog 159 where
 desc:=⟨_,Try.underlying159,_,_,_,rfl⟩
 info:=⟨Try.t159,by kernel_rfl,rfl,rfl,fun ρ=>by kernel_rfl⟩
 zok:=by simp [e159,ok,okL,sz]
 zstor:=by simp [e159,stor,storL,Value.oneCell']
 zsz:=by kernel_rfl
 zlok:=⟨by simp [e159,ok,okL,sz,List.replicate],by simp [e159,stor,storL,Value.oneCell',List.replicate],fun ρ=>by kernel_rfl⟩
 fld:=fun l h=>by cases h
 eqs:=fun l h=>by cases h
 eld:=fun n el h=>by cases h
theorem fit163:e163.Fits Try.prog 163 where
 desc:=⟨_,Try.underlying163,_,_,_,rfl⟩
 info:=⟨Try.t163,by kernel_rfl,rfl,rfl,fun ρ=>by kernel_rfl⟩
 zok:=by simp [e163,ok,okL,sz]
 zstor:=by simp [e163,stor,storL,Value.oneCell']
 zsz:=by kernel_rfl
 zlok:=⟨by simp [e163,ok,okL,sz,List.replicate],by simp [e163,stor,storL,Value.oneCell',List.replicate],fun ρ=>by kernel_rfl⟩
 fld:=fun l h=>by cases h
 eqs:=fun l h=>by cases h
 eld:=fun n el h=>by cases h
theorem fit165:e165.Fits Try.prog 165 where
 desc:=⟨_,Try.underlying165,_,_,_,rfl⟩
 info:=⟨Try.t165,by kernel_rfl,rfl,rfl,fun ρ=>by kernel_rfl⟩
 zok:=by simp [e165,ok,okL,sz]
 zstor:=by simp [e165,stor,storL,Value.oneCell']
 zsz:=by kernel_rfl
 zlok:=⟨by simp [e165,ok,okL,sz,List.replicate],by simp [e165,stor,storL,Value.oneCell',List.replicate],fun ρ=>by kernel_rfl⟩
 fld:=fun l h=>by cases h
 eqs:=fun l h=>by cases h
 eld:=fun n el h=>by cases h
theorem fit166:e166.Fits Try.prog 166 where
 desc:=⟨_,Try.underlying166,rfl⟩
 info:=⟨Try.t166,by kernel_rfl,rfl,rfl,fun ρ=>by kernel_rfl⟩
 zok:=by simp [e166,ok,okL,sz]
 zstor:=by simp [e166,stor,storL,Value.oneCell']
 zsz:=by kernel_rfl
 zlok:=⟨by simp [e166,ok,okL,sz,List.replicate],by simp [e166,stor,storL,Value.oneCell',List.replicate],fun ρ=>by kernel_rfl⟩
 fld:=fun l h=>by cases h
 eqs:=fun l h=>by cases h
 eld:=fun n el h=>by cases h
theorem fit168:e168.Fits Try.prog 168 where
 desc:=⟨_,Try.underlying168,_,rfl,rfl⟩
 info:=⟨Try.t168,by kernel_rfl,rfl,rfl,fun ρ=>by kernel_rfl⟩
 zok:=by simp [e168,ok,okL,sz]
 zstor:=by simp [e168,stor,storL,Value.oneCell']
 zsz:=by kernel_rfl
 zlok:=⟨by simp [e168,ok,okL,sz,List.replicate],by simp [e168,stor,storL,Value.oneCell',List.replicate],fun ρ=>by kernel_rfl⟩
 fld:=by
  intro l hl
  cases hl
  intro p hp
  simp only [List.mem_cons,List.not_mem_nil,or_false] at hp
  rcases hp with rfl | rfl <;> kernel_rfl
 eqs:=fun l _=>⟨fun fs h=>by rw [Try.underlying168] at h; cases h; simp,by kernel_rfl,by kernel_rfl⟩
 eld:=fun n el h=>by cases h
theorem fit175:e175.Fits Try.prog 175 where
 desc:=⟨_,Try.underlying175,rfl⟩
 info:=⟨Try.t175,by kernel_rfl,rfl,rfl,fun ρ=>by kernel_rfl⟩
 zok:=by simp [e175,ok,okL,sz]
 zstor:=by simp [e175,stor,storL,Value.oneCell']
 zsz:=by kernel_rfl
 zlok:=⟨by simp [e175,ok,okL,sz,List.replicate],by simp [e175,stor,storL,Value.oneCell',List.replicate],fun ρ=>by kernel_rfl⟩
 fld:=fun l h=>by cases h
 eqs:=fun l h=>by cases h
 eld:=fun n el h=>by cases h
theorem fit178:e178.Fits Try.prog 178 where
 desc:=⟨_,Try.underlying178,rfl⟩
 info:=⟨Try.t178,by kernel_rfl,rfl,rfl,fun ρ=>by kernel_rfl⟩
 zok:=by simp [e178,ok,okL,sz]
 zstor:=by simp [e178,stor,storL,Value.oneCell']
 zsz:=by kernel_rfl
 zlok:=⟨by simp [e178,ok,okL,sz,List.replicate],by simp [e178,stor,storL,Value.oneCell',List.replicate],fun ρ=>by kernel_rfl⟩
 fld:=fun l h=>by cases h
 eqs:=fun l h=>by cases h
 eld:=fun n el h=>by cases h
theorem fit179:e179.Fits Try.prog 179 where
 desc:=⟨_,Try.underlying179,rfl⟩
 info:=⟨Try.t179,by kernel_rfl,rfl,rfl,fun ρ=>by kernel_rfl⟩
 zok:=by simp [e179,ok,okL,sz]
 zstor:=by simp [e179,stor,storL,Value.oneCell']
 zsz:=by kernel_rfl
 zlok:=⟨by simp [e179,ok,okL,sz,List.replicate],by simp [e179,stor,storL,Value.oneCell',List.replicate],fun ρ=>by kernel_rfl⟩
 fld:=fun l h=>by cases h
 eqs:=fun l h=>by cases h
 eld:=by
  intro n el h
  cases h
  kernel_rfl
theorem fit180:e180.Fits Try.prog 180 where
 desc:=⟨_,Try.underlying180,rfl⟩
 info:=⟨Try.t180,by kernel_rfl,rfl,rfl,fun ρ=>by kernel_rfl⟩
 zok:=by simp [e180,ok,okL,sz]
 zstor:=by simp [e180,stor,storL,Value.oneCell']
 zsz:=by kernel_rfl
 zlok:=⟨by simp [e180,ok,okL,sz,List.replicate],by simp [e180,stor,storL,Value.oneCell',List.replicate],fun ρ=>by kernel_rfl⟩
 fld:=fun l h=>by cases h
 eqs:=fun l h=>by cases h
 eld:=by
  intro n el h
  cases h
  kernel_rfl
theorem fit183:e183.Fits Try.prog 183 where
 desc:=⟨_,Try.underlying183,rfl⟩
 info:=⟨Try.t183,by kernel_rfl,rfl,rfl,fun ρ=>by kernel_rfl⟩
 zok:=by simp [e183,ok,okL,sz]
 zstor:=by simp [e183,stor,storL,Value.oneCell']
 zsz:=by kernel_rfl
 zlok:=⟨by simp [e183,ok,okL,sz,List.replicate],by simp [e183,stor,storL,Value.oneCell',List.replicate],fun ρ=>by kernel_rfl⟩
 fld:=fun l h=>by cases h
 eqs:=fun l h=>by cases h
 eld:=by
  intro n el h
  cases h
  kernel_rfl
theorem fit185:e185.Fits Try.prog 185 where
 desc:=⟨_,Try.underlying185,rfl⟩
 info:=⟨Try.t185,by kernel_rfl,rfl,rfl,fun ρ=>by kernel_rfl⟩
 zok:=by simp [e185,ok,okL,sz]
 zstor:=by simp [e185,stor,storL,Value.oneCell']
 zsz:=by kernel_rfl
 zlok:=⟨by simp [e185,ok,okL,sz,List.replicate],by simp [e185,stor,storL,Value.oneCell',List.replicate],fun ρ=>by kernel_rfl⟩
 fld:=fun l h=>by cases h
 eqs:=fun l h=>by cases h
 eld:=fun n el h=>by cases h
theorem fit186:e186.Fits Try.prog 186 where
 desc:=⟨_,Try.underlying186,rfl⟩
 info:=⟨Try.t186,by kernel_rfl,rfl,rfl,fun ρ=>by kernel_rfl⟩
 zok:=by simp [e186,ok,okL,sz]
 zstor:=by simp [e186,stor,storL,Value.oneCell']
 zsz:=by kernel_rfl
 zlok:=⟨by simp [e186,ok,okL,sz,List.replicate],by simp [e186,stor,storL,Value.oneCell',List.replicate],fun ρ=>by kernel_rfl⟩
 fld:=fun l h=>by cases h
 eqs:=fun l h=>by cases h
 eld:=fun n el h=>by cases h
theorem fit200:e200.Fits Try.prog 200 where
 desc:=⟨_,Try.underlying200,rfl⟩
 info:=⟨Try.t200,by kernel_rfl,rfl,rfl,fun ρ=>by kernel_rfl⟩
 zok:=by simp [e200,ok,okL,sz]
 zstor:=by simp [e200,stor,storL,Value.oneCell']
 zsz:=by kernel_rfl
 zlok:=⟨by simp [e200,ok,okL,sz,List.replicate],by simp [e200,stor,storL,Value.oneCell',List.replicate],fun ρ=>by kernel_rfl⟩
 fld:=fun l h=>by cases h
 eqs:=fun l h=>by cases h
 eld:=by
  intro n el h
  cases h
  kernel_rfl
theorem fit203:e203.Fits Try.prog 203 where
 desc:=⟨_,Try.underlying203,_,rfl,rfl⟩
 info:=⟨Try.t203,by kernel_rfl,rfl,rfl,fun ρ=>by kernel_rfl⟩
 zok:=by simp [e203,ok,okL,sz]
 zstor:=by simp [e203,stor,storL,Value.oneCell']
 zsz:=by kernel_rfl
 zlok:=⟨by simp [e203,ok,okL,sz,List.replicate],by simp [e203,stor,storL,Value.oneCell',List.replicate],fun ρ=>by kernel_rfl⟩
 fld:=by
  intro l hl
  cases hl
  intro p hp
  simp only [List.mem_cons,List.not_mem_nil,or_false] at hp
  rcases hp with rfl | rfl | rfl <;> kernel_rfl
 eqs:=fun l _=>⟨fun fs h=>by rw [Try.underlying203] at h; cases h; simp,by kernel_rfl,by kernel_rfl⟩
 eld:=fun n el h=>by cases h
theorem fit204:e204.Fits Try.prog 204 where
 desc:=⟨_,Try.underlying204,rfl⟩
 info:=⟨Try.t204,by kernel_rfl,rfl,rfl,fun ρ=>by kernel_rfl⟩
 zok:=by simp [e204,ok,okL,sz]
 zstor:=by simp [e204,stor,storL,Value.oneCell']
 zsz:=by kernel_rfl
 zlok:=⟨by simp [e204,ok,okL,sz,List.replicate],by simp [e204,stor,storL,Value.oneCell',List.replicate],fun ρ=>by kernel_rfl⟩
 fld:=fun l h=>by cases h
 eqs:=fun l h=>by cases h
 eld:=fun n el h=>by cases h
theorem tabOk:tab.Ok Try.prog:=by
 intro t e h
 unfold tab at h
 split at h <;> cases h
 ·exact fit2
 ·exact fit3
 ·exact fit4
 ·exact fit5
 ·exact fit9
 ·exact fit23
 ·exact fit24
 ·exact fit25
 ·exact fit26
 ·exact fit27
 ·exact fit29
 ·exact fit31
 ·exact fit34
 ·exact fit39
 ·exact fit40
 ·exact fit45
 ·exact fit48
 ·exact fit50
 ·exact fit52
 ·exact fit57
 ·exact fit58
 ·exact fit60
 ·exact fit62
 ·exact fit67
 ·exact fit77
 ·exact fit79
 ·exact fit85
 ·exact fit96
 ·exact fit97
 ·exact fit101
 ·exact fit103
 ·exact fit105
 ·exact fit106
 ·exact fit108
 ·exact fit110
 ·exact fit122
 ·exact fit124
 ·exact fit132
 ·exact fit135
 ·exact fit137
 ·exact fit139
 ·exact fit140
 ·exact fit142
 ·exact fit144
 ·exact fit145
 ·exact fit146
 ·exact fit147
 ·exact fit153
 ·exact fit155
 ·exact fit159
 ·exact fit163
 ·exact fit165
 ·exact fit166
 ·exact fit168
 ·exact fit175
 ·exact fit178
 ·exact fit179
 ·exact fit180
 ·exact fit183
 ·exact fit185
 ·exact fit186
 ·exact fit200
 ·exact fit203
 ·exact fit204
theorem tab2:tab 2 = some ⟨.int .i64,1,8,(.int .i64 0),[.int .i64 0]⟩:=rfl
theorem tab3:tab 3 = some ⟨.int .i64,1,8,(.int .i64 0),[.int .i64 0]⟩:=rfl
theorem tab4:tab 4 = some ⟨.bool,1,1,(.bool false),[.bool false]⟩:=rfl
theorem tab5:tab 5 = some ⟨.int .u8,1,1,(.int .u8 0),[.int .u8 0]⟩:=rfl
theorem tab9:tab 9 = some ⟨.str,1,16,(.str ByteArray.empty),[.str ByteArray.empty]⟩:=rfl
theorem tab23:tab 23 = some ⟨.arr 32 5,32,32,(.fam 32 1 fun _=>.int .u8 0),(List.replicate 32 (.int .u8 0))⟩:=rfl
theorem tab24:tab 24 = some ⟨.slice 5,1,24,(.v (.slice none 0 0)),[.v (.slice none 0 0)]⟩:=rfl
theorem tab25:tab 25 = some ⟨.slice 24,1,24,(.v (.slice none 0 0)),[.v (.slice none 0 0)]⟩:=rfl
theorem tab26:tab 26 = some ⟨.slice 31,1,24,(.v (.slice none 0 0)),[.v (.slice none 0 0)]⟩:=rfl
theorem tab27:tab 27 = some ⟨.slice 45,1,24,(.v (.slice none 0 0)),[.v (.slice none 0 0)]⟩:=rfl
theorem tab29:tab 29 = some ⟨.struct [(0,3),(1,23)],33,40,(.agg [.int .i64 0,.fam 32 1 fun _=>.int .u8 0]),[.int .i64 0,.fam 32 1 fun _=>.int .u8 0]⟩:=rfl
theorem tab31:tab 31 = some ⟨.struct [(0,3),(1,3),(2,2),(3,2),(4,23),(36,24),(37,25),(38,26),(39,27),(40,29)],73,200,(.agg [.int .i64 0,.int .i64 0,.int .i64 0,.int .i64 0,.fam 32 1 fun _=>.int .u8 0,.v (.slice none 0 0),.v (.slice none 0 0),.v (.slice none 0 0),.v (.slice none 0 0),.int .i64 0,.fam 32 1 fun _=>.int .u8 0]),[.int .i64 0,.int .i64 0,.int .i64 0,.int .i64 0,.fam 32 1 fun _=>.int .u8 0,.v (.slice none 0 0),.v (.slice none 0 0),.v (.slice none 0 0),.v (.slice none 0 0),.int .i64 0,.fam 32 1 fun _=>.int .u8 0]⟩:=rfl
theorem tab34:tab 34 = some ⟨.int .i64,1,8,(.int .i64 0),[.int .i64 0]⟩:=rfl
theorem tab39:tab 39 = some ⟨.slice 52,1,24,(.v (.slice none 0 0)),[.v (.slice none 0 0)]⟩:=rfl
theorem tab40:tab 40 = some ⟨.int .u64,1,8,(.int .u64 0),[.int .u64 0]⟩:=rfl
theorem tab45:tab 45 = some ⟨.struct [(0,31),(73,26)],74,224,(.agg [.int .i64 0,.int .i64 0,.int .i64 0,.int .i64 0,.fam 32 1 fun _=>.int .u8 0,.v (.slice none 0 0),.v (.slice none 0 0),.v (.slice none 0 0),.v (.slice none 0 0),.int .i64 0,.fam 32 1 fun _=>.int .u8 0,.v (.slice none 0 0)]),[.int .i64 0,.int .i64 0,.int .i64 0,.int .i64 0,.fam 32 1 fun _=>.int .u8 0,.v (.slice none 0 0),.v (.slice none 0 0),.v (.slice none 0 0),.v (.slice none 0 0),.int .i64 0,.fam 32 1 fun _=>.int .u8 0,.v (.slice none 0 0)]⟩:=rfl
theorem tab48:tab 48 = some ⟨.slice 3,1,24,(.v (.slice none 0 0)),[.v (.slice none 0 0)]⟩:=rfl
theorem tab50:tab 50 = some ⟨.slice 2,1,24,(.v (.slice none 0 0)),[.v (.slice none 0 0)]⟩:=rfl
theorem tab52:tab 52 = some ⟨.struct [(0,3),(1,2),(2,50),(3,50),(4,24),(5,3)],6,96,(.agg [.int .i64 0,.int .i64 0,.v (.slice none 0 0),.v (.slice none 0 0),.v (.slice none 0 0),.int .i64 0]),[.int .i64 0,.int .i64 0,.v (.slice none 0 0),.v (.slice none 0 0),.v (.slice none 0 0),.int .i64 0]⟩:=rfl
theorem tab57:tab 57 = some ⟨.slice 62,1,24,(.v (.slice none 0 0)),[.v (.slice none 0 0)]⟩:=rfl
theorem tab58:tab 58 = some ⟨.ptr 110,1,8,(.v (.pointer none)),[.v (.pointer none)]⟩:=rfl
theorem tab60:tab 60 = some ⟨.arr 4 3,4,32,(.agg [.int .i64 0,.int .i64 0,.int .i64 0,.int .i64 0]),[.int .i64 0,.int .i64 0,.int .i64 0,.int .i64 0]⟩:=rfl
theorem tab62:tab 62 = some ⟨.struct [(0,3),(1,3),(2,2),(3,2),(4,5),(5,4)],6,40,(.agg [.int .i64 0,.int .i64 0,.int .i64 0,.int .i64 0,.int .u8 0,.bool false]),[.int .i64 0,.int .i64 0,.int .i64 0,.int .i64 0,.int .u8 0,.bool false]⟩:=rfl
theorem tab67:tab 67 = some ⟨.func,1,8,(.v .nilFunc),[.v .nilFunc]⟩:=rfl
theorem tab77:tab 77 = some ⟨.ptr 3,1,8,(.v (.pointer none)),[.v (.pointer none)]⟩:=rfl
theorem tab79:tab 79 = some ⟨.struct [(0,4),(1,4),(2,4),(3,4),(4,4),(5,4),(6,4),(7,4),(8,3)],9,16,(.agg [.bool false,.bool false,.bool false,.bool false,.bool false,.bool false,.bool false,.bool false,.int .i64 0]),[.bool false,.bool false,.bool false,.bool false,.bool false,.bool false,.bool false,.bool false,.int .i64 0]⟩:=rfl
theorem tab85:tab 85 = some ⟨.arr 7 4,7,7,(.agg [.bool false,.bool false,.bool false,.bool false,.bool false,.bool false,.bool false]),[.bool false,.bool false,.bool false,.bool false,.bool false,.bool false,.bool false]⟩:=rfl
theorem tab96:tab 96 = some ⟨.ptr 31,1,8,(.v (.pointer none)),[.v (.pointer none)]⟩:=rfl
theorem tab97:tab 97 = some ⟨.arr 9 96,9,72,(.agg [.v (.pointer none),.v (.pointer none),.v (.pointer none),.v (.pointer none),.v (.pointer none),.v (.pointer none),.v (.pointer none),.v (.pointer none),.v (.pointer none)]),[.v (.pointer none),.v (.pointer none),.v (.pointer none),.v (.pointer none),.v (.pointer none),.v (.pointer none),.v (.pointer none),.v (.pointer none),.v (.pointer none)]⟩:=rfl
theorem tab101:tab 101 = some ⟨.ptr 144,1,8,(.v (.pointer none)),[.v (.pointer none)]⟩:=rfl
theorem tab103:tab 103 = some ⟨.map 3 31,1,8,(.v (.map none)),[.v (.map none)]⟩:=rfl
theorem tab105:tab 105 = some ⟨.struct [(0,103)],1,8,(.agg [.v (.map none)]),[.v (.map none)]⟩:=rfl
theorem tab106:tab 106 = some ⟨.map 3 3,1,8,(.v (.map none)),[.v (.map none)]⟩:=rfl
theorem tab108:tab 108 = some ⟨.struct [(0,106)],1,8,(.agg [.v (.map none)]),[.v (.map none)]⟩:=rfl
theorem tab110:tab 110 = some ⟨.struct [(0,3),(1,2),(2,2),(3,96),(4,9),(5,105),(6,101),(7,108),(8,101)],9,80,(.agg [.int .i64 0,.int .i64 0,.int .i64 0,.v (.pointer none),.str ByteArray.empty,.v (.map none),.v (.pointer none),.v (.map none),.v (.pointer none)]),[.int .i64 0,.int .i64 0,.int .i64 0,.v (.pointer none),.str ByteArray.empty,.v (.map none),.v (.pointer none),.v (.map none),.v (.pointer none)]⟩:=rfl
theorem tab122:tab 122 = some ⟨.func,1,8,(.v .nilFunc),[.v .nilFunc]⟩:=rfl
theorem tab124:tab 124 = some ⟨.func,1,8,(.v .nilFunc),[.v .nilFunc]⟩:=rfl
theorem tab132:tab 132 = some ⟨.func,1,8,(.v .nilFunc),[.v .nilFunc]⟩:=rfl
theorem tab135:tab 135 = some ⟨.func,1,8,(.v .nilFunc),[.v .nilFunc]⟩:=rfl
theorem tab137:tab 137 = some ⟨.func,1,8,(.v .nilFunc),[.v .nilFunc]⟩:=rfl
theorem tab139:tab 139 = some ⟨.func,1,8,(.v .nilFunc),[.v .nilFunc]⟩:=rfl
theorem tab140:tab 140 = some ⟨.map 9 147,1,8,(.v (.map none)),[.v (.map none)]⟩:=rfl
theorem tab142:tab 142 = some ⟨.struct [(0,140)],1,8,(.agg [.v (.map none)]),[.v (.map none)]⟩:=rfl
theorem tab144:tab 144 = some ⟨.struct [(0,3),(1,142)],2,16,(.agg [.int .i64 0,.v (.map none)]),[.int .i64 0,.v (.map none)]⟩:=rfl
theorem tab145:tab 145 = some ⟨.int .u64,1,8,(.int .u64 0),[.int .u64 0]⟩:=rfl
theorem tab146:tab 146 = some ⟨.ptr 105,1,8,(.v (.pointer none)),[.v (.pointer none)]⟩:=rfl
theorem tab147:tab 147 = some ⟨.ptr 108,1,8,(.v (.pointer none)),[.v (.pointer none)]⟩:=rfl
theorem tab153:tab 153 = some ⟨.ptr 155,1,8,(.v (.pointer none)),[.v (.pointer none)]⟩:=rfl
theorem tab155:tab 155 = some ⟨.struct [(0,24),(1,3),(2,34)],3,40,(.agg [.v (.slice none 0 0),.int .i64 0,.int .i64 0]),[.v (.slice none 0 0),.int .i64 0,.int .i64 0]⟩:=rfl
theorem tab159:tab 159 = some ⟨.func,1,8,(.v .nilFunc),[.v .nilFunc]⟩:=rfl
theorem tab163:tab 163 = some ⟨.func,1,8,(.v .nilFunc),[.v .nilFunc]⟩:=rfl
theorem tab165:tab 165 = some ⟨.func,1,8,(.v .nilFunc),[.v .nilFunc]⟩:=rfl
theorem tab166:tab 166 = some ⟨.ptr 168,1,8,(.v (.pointer none)),[.v (.pointer none)]⟩:=rfl
theorem tab168:tab 168 = some ⟨.struct [(0,24),(1,34)],2,32,(.agg [.v (.slice none 0 0),.int .i64 0]),[.v (.slice none 0 0),.int .i64 0]⟩:=rfl
theorem tab175:tab 175 = some ⟨.ptr 203,1,8,(.v (.pointer none)),[.v (.pointer none)]⟩:=rfl
theorem tab178:tab 178 = some ⟨.int .u32,1,4,(.int .u32 0),[.int .u32 0]⟩:=rfl
theorem tab179:tab 179 = some ⟨.arr 64 178,64,256,(.fam 64 1 fun _=>.int .u32 0),(List.replicate 64 (.int .u32 0))⟩:=rfl
theorem tab180:tab 180 = some ⟨.arr 64 40,64,512,(.fam 64 1 fun _=>.int .u64 0),(List.replicate 64 (.int .u64 0))⟩:=rfl
theorem tab183:tab 183 = some ⟨.arr 8 178,8,32,(.agg [.int .u32 0,.int .u32 0,.int .u32 0,.int .u32 0,.int .u32 0,.int .u32 0,.int .u32 0,.int .u32 0]),[.int .u32 0,.int .u32 0,.int .u32 0,.int .u32 0,.int .u32 0,.int .u32 0,.int .u32 0,.int .u32 0]⟩:=rfl
theorem tab185:tab 185 = some ⟨.ptr 179,1,8,(.v (.pointer none)),[.v (.pointer none)]⟩:=rfl
theorem tab186:tab 186 = some ⟨.ptr 142,1,8,(.v (.pointer none)),[.v (.pointer none)]⟩:=rfl
theorem tab200:tab 200 = some ⟨.arr 8 178,8,32,(.agg [.int .u32 0,.int .u32 0,.int .u32 0,.int .u32 0,.int .u32 0,.int .u32 0,.int .u32 0,.int .u32 0]),[.int .u32 0,.int .u32 0,.int .u32 0,.int .u32 0,.int .u32 0,.int .u32 0,.int .u32 0,.int .u32 0]⟩:=rfl
theorem tab203:tab 203 = some ⟨.struct [(0,200),(8,24),(9,2)],10,64,(.agg [.int .u32 0,.int .u32 0,.int .u32 0,.int .u32 0,.int .u32 0,.int .u32 0,.int .u32 0,.int .u32 0,.v (.slice none 0 0),.int .i64 0]),[.int .u32 0,.int .u32 0,.int .u32 0,.int .u32 0,.int .u32 0,.int .u32 0,.int .u32 0,.int .u32 0,.v (.slice none 0 0),.int .i64 0]⟩:=rfl
theorem tab204:tab 204 = some ⟨.slice 40,1,24,(.v (.slice none 0 0)),[.v (.slice none 0 0)]⟩:=rfl
def tabB:=And.intro @tab2 (And.intro @tab3 (And.intro @tab4 (And.intro @tab5 (And.intro @tab9 (And.intro @tab23 (And.intro @tab24 (And.intro @tab25 (And.intro @tab26 (And.intro @tab27 (And.intro @tab29 (And.intro @tab31 (And.intro @tab34 (And.intro @tab39 (And.intro @tab40 (And.intro @tab45 (And.intro @tab48 (And.intro @tab50 (And.intro @tab52 (And.intro @tab57 (And.intro @tab58 (And.intro @tab60 (And.intro @tab62 (And.intro @tab67 (And.intro @tab77 (And.intro @tab79 (And.intro @tab85 (And.intro @tab96 (And.intro @tab97 (And.intro @tab101 (And.intro @tab103 (And.intro @tab105 (And.intro @tab106 (And.intro @tab108 (And.intro @tab110 (And.intro @tab122 (And.intro @tab124 (And.intro @tab132 (And.intro @tab135 (And.intro @tab137 (And.intro @tab139 (And.intro @tab140 (And.intro @tab142 (And.intro @tab144 (And.intro @tab145 (And.intro @tab146 (And.intro @tab147 (And.intro @tab153 (And.intro @tab155 (And.intro @tab159 (And.intro @tab163 (And.intro @tab165 (And.intro @tab166 (And.intro @tab168 (And.intro @tab175 (And.intro @tab178 (And.intro @tab179 (And.intro @tab180 (And.intro @tab183 (And.intro @tab185 (And.intro @tab186 (And.intro @tab200 (And.intro @tab203 (@tab204)))))))))))))))))))))))))))))))))))))))))))))))))))))))))))))))
def liB:=And.intro @List.length_cons.{0} (And.intro @List.length_nil.{0} (And.intro @List.length_append.{0} (And.intro @List.cons_append.{0} (And.intro @List.nil_append.{0} (And.intro @List.append_assoc.{0} (And.intro @List.map_cons.{0,0} (And.intro @List.map_nil.{0,0} (And.intro @Int.toNat_natCast (And.intro @Int.le_refl (And.intro @and_self (And.intro @true_and (And.intro @and_true (And.intro @Nat.zero_add (And.intro @Nat.add_zero (And.intro @Nat.sub_self (And.intro @Nat.sub_zero (And.intro @Nat.zero_mul (And.intro @Nat.mul_one (And.intro @Nat.zero_le (And.intro @List.mem_cons.{0} (And.intro @List.not_mem_nil.{0} (And.intro @Option.map_some.{0,0} (And.intro @Option.map_none.{0,0} (And.intro @Sx.imp_true (And.intro @Sx.imp_false (And.intro @decide_true (And.intro @decide_false (And.intro @List.zipIdx_cons.{0} (And.intro @List.zipIdx_nil.{0} (And.intro @or_false (And.intro @false_or (And.intro @not_false_eq_true (And.intro @Bool.false_eq_true (And.intro @Bool.true_eq_false (And.intro @Bool.not_true (@Bool.not_false))))))))))))))))))))))))))))))))))))
end Go.Proofs.Ytgocfglmideobaa
set_option linter.all false
namespace Go.Sx
open Go.RowKit Go.WideShapes Go.ChangeShapes
def Ctx.start (w:World) (ρ:Env) (n:Nat):Ctx:=⟨w,fun _=>False,ρ,n⟩
theorem calls_of_callP {P : Program} {f : FuncId} {fn : Func} {c : Code} (hf : P.funcs[f]? = some fn) (hname : (fn.name == "runtime.NumGoroutine") = false) (hb : fn.body = some c) {args : List SV} {h : List Chunk} {ρ : Env} {w : World} {b : Bool}
  (hM:Models (Ctx.start w ρ h.length) ρ h w) (ha:okL h.length args) (hc:callP (Pr.of P) f args h fun _ v _=>v = .bool b) :
  Calls P f (denL ρ args).toArray w fun e w'=>e = .returned (.bool b)∧Below w.heap.size w w':=by
 have h1 : fn.name ≠ "runtime.NumGoroutine" := by simpa using hname
 rcases hc _ ρ w trivial hM ha with ⟨w',ρ',sv,h',hr,_⟩ | ⟨_,h2⟩
 ·simp [callFunc,hf,h1,hb] at hr
 ·refine callsIn_wide.1 ((h2 Fence.wide 0 ⟨fun _=>trivial,rfl⟩ rfl).mono fun e w'=>?_)
  rintro ⟨ρ',sv,h',rfl,rfl,hM',_⟩
  exact ⟨rfl,hM'.keep.os,hM'.keep.tape,hM'.keep.output,hM'.keep.size,fun k hk=>hM'.keep.block k hk fun h=>h⟩
theorem wf_u8 {z:Int} (h:(Lit.int .u8 z).wf = true):z = nat (BitVec.ofInt 8 z):=by
 have hb:0≤z∧z≤255:=by simpa [Lit.wf,IntKind.min,IntKind.max,IntKind.signed,IntKind.bits] using h
 simp only [nat,BitVec.toNat_ofInt]
 omega
section
variable {H:Type} {enc:TypeId × Value→H} {P:Program} {W:World}
end
end Go.Sx
set_option linter.all false
namespace Go.Sx
open Go.RowKit
section
variable {P:Pr} {tab:Tab} {pl:Nat→Plan} {C:Ctx} {at':Nat} {st:St} {N:Tok→St→Prop} {E:Tok→Exit→St→Prop}
end
section
variable {F:Fence} {n:Nat} {P:Pr} {tab:Tab} {pl:Nat→Plan} {at':Nat}
end
end Go.Sx
set_option linter.all false
namespace Go.Sx
open Go.RowKit Go.WideShapes Go.ChangeShapes
section
variable {H:Type} {enc:TypeId × Value→H} {P:Program} {W:World}
end
end Go.Sx
namespace Go.Sx
open Go.RowKit Go.WideShapes Go.ChangeShapes
theorem rangeAt_flat {w:World} {b o s:Nat} {g:Nat→List Value}:∀ n,(∀ i,i < n→(g i).length = s∧w.rangeAt b (o+i * s) (g i))→w.rangeAt b o ((List.range n).flatMap g)
 | 0,_=>fun j v hj=>by simp at hj
 | n+1,h=>by
  rw [List.range_succ,List.flatMap_append]
  refine rangeAt_app.2 ⟨rangeAt_flat n fun i hi=>h i (by omega),?_⟩
  rw [flatMap_len g s n fun i hi=>(h i (by omega)).1]
  simpa using (h n (by omega)).2
section
variable {H:Type} {enc:TypeId × Value→H} {P:Program} {W:World}
end
end Go.Sx
set_option linter.all false
namespace Go.Sx
open Go.RowKit
section
variable {P:Pr} {tab:Tab} {pl:Nat→Plan} {C:Ctx} {at':Nat→Option Nat} {st:St} {N:Tok→St→Prop} {E:Tok→Exit→St→Prop}
end
section
variable {F:Fence} {n:Nat} {P:Pr} {tab:Tab} {pl:Nat→Plan} {at':Nat→Option Nat}
end
section
variable {P:Pr} {C:Ctx} {st:St} {N:Tok→St→Prop} {E:Tok→Exit→St→Prop}
end
end Go.Sx
set_option linter.all false
namespace Go.Sx
open Go.RowKit
inductive Pc where
 | row (len:Nat) (B:Nat→BitVec 8)
 | arr (n:Nat) (B:Nat→BitVec 8)
 | nil (a:Option Addr) (c:Nat)
def Pc.sv:Pc→Nat→SV
 | .row len _,k=>.osl k 0 0 1 len
 | .arr n _,k=>.sl k 0 0 1 n n
 | .nil a c,_=>.v (.slice a 0 c)
def Pc.ch:Pc→Chunk
 | .row len B=>.row false len 1 fun i=>.int .u8 (nat (B i))
 | .arr n B=>.cells false [.fam n 1 fun i=>.int .u8 (nat (B i))]
 | .nil _ _=>.row false 0 1 fun _=>.int .u8 0
def Pc.len:Pc→Nat
 | .row len _=>len
 | .arr n _=>n
 | .nil _ _=>0
def Pc.fn:Pc→Nat→BitVec 8
 | .row _ B=>B
 | .arr _ B=>B
 | .nil _ _=>fun _=>0
def Pc.svO (p:Pc):Option Nat→SV
 | some k=>p.sv k
 | none=>rnm (fun _=>none) (p.sv 0)
theorem Pc.svO_some (p:Pc) (k:Nat):p.svO (some k) = p.sv k:=rfl
theorem Pc.rnm_sv (p:Pc) (g:Nat→Option Nat) (k:Nat):rnm g (p.sv k) = p.svO (g k):=by
 cases h:g k <;> cases p <;> simp [Pc.svO,Pc.sv,rnm,h]
theorem Pc.sz_sv (p:Pc) (k:Nat):sz (p.sv k) = 1:=by cases p <;> rfl
theorem Pc.stor_sv (p:Pc) (k:Nat):stor (p.sv k) = True:=by cases p <;> simp [Pc.sv,stor,Value.oneCell']
theorem Pc.ok_sv (p:Pc) {n k:Nat} (h:k < n):ok n (p.sv k) = True:=by cases p <;> simp [Pc.sv,ok,h]
theorem Pc.chEq_ch (p:Pc) (g:Nat→Option Nat):chEq g p.ch p.ch = True:=by
 cases p <;> simp [Pc.ch,chEq,eqvL,eqv,rnmL,rnm]
theorem Pc.good_ch (p:Pc) (n:Nat):p.ch.good n = True:=by
 cases p <;> simp [Pc.ch,Chunk.good,ok,okL,sz,stor,storL]
theorem Pc.rnmC_ch (p:Pc) (g:Nat→Option Nat):rnmC g p.ch = p.ch:=by
 cases p <;> simp [Pc.ch,rnmC,rnmL,rnm]
theorem Pc.wr_ch (p:Pc):p.ch.wr = false:=by cases p <;> rfl
theorem Pc.live_ch (p:Pc):p.ch.live = true:=by cases p <;> rfl
section
variable {g:Nat→Option Nat} {c:Chunk} {wr wr':Bool} {fs fs':List SV} {n n' s s':Nat} {f f':Nat→SV} {m m':Nat} {key val key' val':Nat→SV} {born born':Nat→Nat} {clock clock':Nat}
theorem wr_0:Chunk.none.wr = false:=rfl
theorem wr_1:(Chunk.cells wr fs).wr = wr:=rfl
theorem wr_2:(Chunk.row wr n s f).wr = wr:=rfl
theorem wr_3:(Chunk.map m key val born clock).wr = true:=rfl
theorem wr_4:(Chunk.rmap m key val born clock).wr = false:=rfl
theorem wr_5 {x:SV} {a:Nat} {l:List Nat} {b:Nat}:(Chunk.iter x a l b).wr = true:=rfl
theorem rnmC_0:rnmC g .none = .none:=rfl
theorem rnmC_1:rnmC g (.cells wr fs) = .cells wr (rnmL g fs):=rfl
theorem rnmC_2:rnmC g (.row wr n s f) = .row wr n s fun i=>rnm g (f i):=rfl
theorem rnmC_3:rnmC g (.map m key val born clock) = .map m (fun i=>rnm g (key i)) (fun i=>rnm g (val i)) born clock:=rfl
theorem rnmC_4:rnmC g (.rmap m key val born clock) = .rmap m (fun i=>rnm g (key i)) (fun i=>rnm g (val i)) born clock:=rfl
theorem rnmC_5 {x:SV} {a:Nat} {l:List Nat} {b:Nat}:rnmC g (.iter x a l b) = .iter (rnm g x) a l b:=rfl
end
theorem parts_agg (l:List SV):parts (.agg l) = l:=rfl
theorem parts_v (x:Value):parts (.v x) = [.v x]:=rfl
theorem parts_int (k:IntKind) (n:Int):parts (.int k n) = [.int k n]:=rfl
theorem parts_bool (b:Bool):parts (.bool b) = [.bool b]:=rfl
theorem parts_str (b:ByteArray):parts (.str b) = [.str b]:=rfl
theorem parts_ptr (k b:Nat):parts (.ptr k b) = [.ptr k b]:=rfl
theorem parts_pix (k b i s j:Nat):parts (.pix k b i s j) = [.pix k b i s j]:=rfl
theorem parts_sl (k b e s l c:Nat):parts (.sl k b e s l c) = [.sl k b e s l c]:=rfl
theorem parts_osl (k d e s n:Nat):parts (.osl k d e s n) = [.osl k d e s n]:=rfl
theorem parts_fam (n s:Nat) (f:Nat→SV):parts (.fam n s f) = [.fam n s f]:=rfl
theorem parts_tup (l:List SV):parts (.tup l) = [.tup l]:=rfl
theorem parts_fn (f:Fn) (a c:List SV):parts (.fn f a c) = [.fn f a c]:=rfl
theorem parts_mp (k:Nat):parts (.mp k) = [.mp k]:=rfl
theorem single_agg (l:List SV):single (.agg l) = false:=rfl
theorem single_v (x:Value):single (.v x) = true:=rfl
theorem single_int (k:IntKind) (n:Int):single (.int k n) = true:=rfl
theorem single_bool (b:Bool):single (.bool b) = true:=rfl
theorem single_str (b:ByteArray):single (.str b) = true:=rfl
theorem single_ptr (k b:Nat):single (.ptr k b) = true:=rfl
theorem single_pix (k b i s j:Nat):single (.pix k b i s j) = true:=rfl
theorem single_sl (k b e s l c:Nat):single (.sl k b e s l c) = true:=rfl
theorem single_osl (k d e s n:Nat):single (.osl k d e s n) = true:=rfl
theorem single_fam (n s:Nat) (f:Nat→SV):single (.fam n s f) = false:=rfl
theorem single_tup (l:List SV):single (.tup l) = false:=rfl
theorem single_fn (f:Fn) (a c:List SV):single (.fn f a c) = true:=rfl
theorem single_mp (k:Nat):single (.mp k) = true:=rfl
theorem Pc.parts_sv (p:Pc) (k:Nat):parts (p.sv k) = [p.sv k]:=by cases p <;> rfl
theorem Pc.single_sv (p:Pc) (k:Nat):single (p.sv k) = true:=by cases p <;> rfl
theorem cst1:((1:Nat):Int) = 1:=rfl
theorem cst2:((2:Nat):Int) = 2:=rfl
theorem cst32:((32:Nat):Int) = 32:=rfl
theorem cst0:((0:Nat):Int) = 0:=rfl
theorem inc0:IntKind.i64.wrap (0+1) = 1:=by decide
theorem inc1:IntKind.i64.wrap (1+1) = 2:=by decide
variable {P:Pr}
def rowsKnow (n:Nat) (V:Nat→Value) (Q:Nat→Pc) (w:World) (X:Nat→Prop):Prop :=
 ∀ i,i < n→∃ pl:Place,(∀ ρ k,ρ k = pl→V i = den ρ ((Q i).sv k)∧Holds ρ w k (Q i).ch)∧(pl.nil = false→pl.b < w.heap.size)∧(pl.nil = false→¬ X pl.b)
def pcB:=And.intro @Pc.rnm_sv (And.intro @Pc.svO_some (And.intro @Pc.sz_sv (And.intro @Pc.stor_sv (And.intro @Pc.ok_sv (And.intro @Pc.chEq_ch (And.intro @Pc.good_ch (And.intro @Pc.rnmC_ch (And.intro @Pc.wr_ch (@Pc.live_ch)))))))))
def psB:=And.intro @parts_agg (And.intro @parts_v (And.intro @parts_int (And.intro @parts_bool (And.intro @parts_str (And.intro @parts_ptr (And.intro @parts_pix (And.intro @parts_sl (And.intro @parts_osl (And.intro @parts_fam (And.intro @parts_tup (And.intro @parts_fn (And.intro @parts_mp (And.intro @Pc.parts_sv (And.intro @single_agg (And.intro @single_v (And.intro @single_int (And.intro @single_bool (And.intro @single_str (And.intro @single_ptr (And.intro @single_pix (And.intro @single_sl (And.intro @single_osl (And.intro @single_fam (And.intro @single_tup (And.intro @single_fn (And.intro @single_mp (@Pc.single_sv)))))))))))))))))))))))))))
def csB:=And.intro @cst0 (And.intro @cst1 (And.intro @cst2 (And.intro @cst32 (And.intro @inc0 (@inc1)))))
def wrB:=And.intro @wr_0 (And.intro @wr_1 (And.intro @wr_2 (And.intro @wr_3 (And.intro @wr_4 (@wr_5)))))
def rcB:=And.intro @rnmC_0 (And.intro @rnmC_1 (And.intro @rnmC_2 (And.intro @rnmC_3 (And.intro @rnmC_4 (@rnmC_5)))))
end Go.Sx
namespace Go.Sx
open Go.RowKit Go.WideShapes Go.ChangeShapes
theorem rowsKnow_keep {n:Nat} {V:Nat→Value} {Q:Nat→Pc} {w0 w:World} {X Y:Nat→Prop} (h:rowsKnow n V Q w0 X) (hk:Keep X w0 w) (hY:∀ b,Y b→X b ∨ w0.heap.size≤b):rowsKnow n V Q w Y:=fun i hi=>by
 obtain ⟨pl,h1,h2,h3⟩:=h i hi
 refine ⟨pl,fun ρ k hρ=>⟨(h1 ρ k hρ).1,holds_block (fun hn=>?_) (h1 ρ k hρ).2⟩,fun hn=>Nat.lt_of_lt_of_le (h2 hn) hk.size,fun hn hy=>?_⟩
 ·rw [hρ] at hn ⊢
  exact hk.block _ (h2 hn) (h3 hn)
 ·rcases hY _ hy with h4 | h4
  ·exact h3 hn h4
  ·have:=h2 hn
   omega
@[reducible] def rk (P:Program) (n:Nat) (V:Nat→Value) (Q:Nat→Pc):Pr:=⟨P,rowsKnow n V Q,fun h hk hY=>rowsKnow_keep h hk hY⟩
end Go.Sx
set_option linter.all false
namespace Go.Sx
open Go.RowKit
variable {P:Pr}
inductive Gh where
 | run (i:Nat)
 | stop (i:Nat)
abbrev Inv:=Gh→World→(Nat→Prop)→Prop
def grow (Y:Nat→Prop) (w w':World) (b:Nat):Prop:=Y b ∨ (w.heap.size≤b∧b < w'.heap.size)
structure Client (X:Nat→Prop) (s0:Nat) (J:Inv):Prop where
 stable:∀ {g:Gh} {w w':World} {Y Z:Nat→Prop},J g w Y→Keep Z w w'→(∀ b,Z b→(X b ∨ s0≤b)∧¬ Y b)→J g w' Y
 mono:∀ {g:Gh} {w:World} {Y Y':Nat→Prop},J g w Y→(∀ b,Y b→Y' b)→J g w Y'
def YieldsTo (P:Program) (l:Nat) (J:Inv) (V:Nat→Prop) (s0 n:Nat) (xs:Nat→Value):Prop :=
 ∀ (i:Nat) (w:World) (Y:Nat→Prop) (F:Fence) (k:Nat),WideF F→i < n→s0≤w.heap.size→(∀ b,Y b→s0≤b∧b < w.heap.size)→J (.run i) w Y →
  YieldAt F k P l #[xs i] w fun e w'=>Keep (fun b=>Y b ∨ V b) w w'∧((e = .returned (.bool true)∧J (.run (i+1)) w' (grow Y w w')) ∨ (e = .returned (.bool false)∧J (.stop (i+1)) w' (grow Y w w')))
def YieldsR (P:Program) (l:Nat) (J:Inv) (V:Nat→Prop) (s0:Nat) (R:Nat→Value→Nat→Prop):Prop :=
 ∀ (i:Nat) (v:Value) (i':Nat) (w:World) (Y:Nat→Prop) (F:Fence) (k:Nat),WideF F→R i v i'→s0≤w.heap.size→(∀ b,Y b→s0≤b∧b < w.heap.size)→J (.run i) w Y →
  YieldAt F k P l #[v] w fun e w'=>Keep (fun b=>Y b ∨ V b) w w'∧((e = .returned (.bool true)∧J (.run i') w' (grow Y w w')) ∨ (e = .returned (.bool false)∧J (.stop i') w' (grow Y w w')))
def PureAt (P:Program) (B:Nat→Prop) (fv:Value) (a:List Value) (r:Value) (w0:World):Prop :=
 ∃ f cap,fv = .func (.func f) #[] cap∧(∀ args w,(callFunc f args).run P w = .ok (.enter f args) w)∧(∀ b,B b→b < w0.heap.size) ∧
  ∀ (F:Fence) (m:Nat) (w:World),WideF F→F.round = none→w0.heap.size≤w.heap.size→(∀ b,B b→w.heap[b]? = w0.heap[b]?) →
   CallsIn F m P f (a.toArray++cap) w fun e w'=>e = .returned r∧Keep (fun _=>False) w w'
structure Sq where
 l:Nat
 n:Nat
 xs:Nat→Value
 A:Nat→Bool
 fv:Value
 fx:List SV→Option SV
 alt:Option (Nat→Value→Nat→Prop):=none
 pin:Option (Nat × Place):=none
def YieldsS (P:Program) (S:Sq) (J:Inv) (V:Nat→Prop) (s0:Nat):Prop :=
 match S.alt with
 | none=>YieldsTo P S.l J V s0 S.n S.xs
 | some R=>YieldsR P S.l J V s0 R
structure Ghost where
 C:Ctx
 V:Nat→Prop
 J:Inv
 s:Sq
structure Ghost.Ok (P:Pr) (G:Ghost):Prop where
 cl:Client G.C.X G.C.w0.heap.size G.J
 yl:YieldsS P.p G.s G.J G.V G.C.w0.heap.size
 v:∀ b,G.V b→b < G.C.w0.heap.size∧¬ G.C.X b
 a:∀ k,G.s.A k = true→k < G.C.n0∧((G.C.ρ0 k).nil = false→(G.C.ρ0 k).b < G.C.w0.heap.size∧¬ G.V (G.C.ρ0 k).b)
 kn:P.know G.C.w0 fun b=>G.C.X b ∨ G.V b
 fx:∀ args r,G.s.fx args = some r→ok 0 r∧∀ ρ w X,P.know w X→∃ B,(∀ b,B b→¬ X b)∧PureAt P.p B G.s.fv (denL ρ args) (den ρ r) w
 pn:∀ k pl,G.s.pin = some (k,pl)→k < G.C.n0∧G.C.ρ0 k = pl
structure MG (G:Ghost) (Ob:List (Nat × Obj)) (Y:Nat→Prop) (g:Gh) (ρ:Env) (H:List Chunk) (w:World):Prop where
 m:Models ⟨G.C.w0,fun b=>G.C.X b ∨ G.V b,G.C.ρ0,G.C.n0⟩ ρ H w
 own:∀ k c,H[k]? = some c→RealW ρ k c→G.C.X (ρ k).b ∨ G.C.w0.heap.size≤(ρ k).b
 ny:∀ k c,H[k]? = some c→RealW ρ k c→¬ Y (ρ k).b
 no:∀ k c,H[k]? = some c→RealW ρ k c→∀ p ∈ Ob,(ρ k).b ≠ p.1
 ob:∀ p ∈ Ob,w.heap[p.1]? = some p.2∧¬ G.V p.1∧¬ Y p.1
 yb:∀ b,Y b→G.C.w0.heap.size≤b∧b < w.heap.size
 j:G.J g w Y
theorem heap_lt {w:World} {b:Nat} {o:Obj} (h:w.heap[b]? = some o):b < w.heap.size:=(Array.getElem?_eq_some_iff.1 h).1
theorem MG.step {G:Ghost} {Ob:List (Nat × Obj)} {Y:Nat→Prop} {g:Gh} {ρ:Env} {H:List Chunk} {w:World} (hG:G.Ok P) (h:MG G Ob Y g ρ H w) :
  ∃ X,P.know w X∧(∀ b,X b→(G.C.X b ∨ G.C.w0.heap.size≤b)∧¬ Y b)∧Models ⟨w,X,G.C.ρ0,G.C.n0⟩ ρ H w∧∀ ρ' H' w',Models ⟨w,X,G.C.ρ0,G.C.n0⟩ ρ' H' w'→MG G Ob Y g ρ' H' w':=by
 refine ⟨fun b=>(G.C.X b ∨ G.C.w0.heap.size≤b)∧¬ Y b∧∀ p ∈ Ob,b ≠ p.1,?_,fun b hb=>⟨hb.1,hb.2.1⟩,?_,?_⟩
 ·exact P.keep hG.kn h.m.keep fun b hb=>hb.1.elim (fun h=>.inl (.inl h)) .inr
 ·exact ⟨Keep.refl _ _,h.m.agree,h.m.len,h.m.holds,h.m.okc,h.m.size,fun k c hc hr=>.inl ⟨h.own k c hc hr,h.ny k c hc hr,h.no k c hc hr⟩,h.m.sep⟩
 ·intro ρ' H' w' hm
  refine ⟨⟨?_,hm.agree,hm.len,hm.holds,hm.okc,hm.size,?_,hm.sep⟩,?_,?_,?_,?_,?_,?_⟩
  ·exact h.m.keep.step hm.keep fun b hb=>hb.1.elim (fun h=>.inl (.inl h)) .inr
  ·intro k c hc hr
   rcases hm.wr k c hc hr with hb | hb
   ·exact hb.1.elim (fun h=>.inl (.inl h)) .inr
   ·exact .inr (Nat.le_trans h.m.keep.size hb)
  ·intro k c hc hr
   rcases hm.wr k c hc hr with hb | hb
   ·exact hb.1
   ·exact .inr (Nat.le_trans h.m.keep.size hb)
  ·intro k c hc hr hy
   rcases hm.wr k c hc hr with hb | hb
   ·exact hb.2.1 hy
   ·have:=(h.yb _ hy).2
    simp only at hb
    omega
  ·intro k c hc hr p hp
   rcases hm.wr k c hc hr with hb | hb
   ·exact hb.2.2 p hp
   ·have:=heap_lt (h.ob p hp).1
    simp only at hb
    omega
  ·intro p hp
   obtain ⟨h1,h2,h3⟩:=h.ob p hp
   exact ⟨(hm.keep.block p.1 (heap_lt h1) fun hx=>hx.2.2 p hp rfl).trans h1,h2,h3⟩
  ·intro b hb
   exact ⟨(h.yb b hb).1,Nat.lt_of_lt_of_le (h.yb b hb).2 hm.keep.size⟩
  ·exact hG.cl.stable h.j hm.keep fun b hb=>⟨hb.1,hb.2.1⟩
def roA (A:Nat→Bool):Nat→List Chunk→Prop
 | _,[]=>True
 | k,c :: r=>(c.wr = true ∨ c.live = false ∨ A k = true)∧roA A (k+1) r
theorem roA_spec {A:Nat→Bool}:∀ {H:List Chunk} {k0 k:Nat} {c:Chunk},roA A k0 H→H[k]? = some c→c.wr = true ∨ c.live = false ∨ A (k0+k) = true
 | [],_,k,c,_,hc=>by simp at hc
 | c0 :: H,k0,0,c,h,hc=>by simp at hc; subst hc; exact h.1
 | c0 :: H,k0,k+1,c,h,hc=>by
  have:=roA_spec (k:=k) h.2 (by simpa using hc)
  rwa [show k0+1+k = k0+(k+1) by omega] at this
theorem MG.away {G:Ghost} {Ob:List (Nat × Obj)} {Y:Nat→Prop} {g:Gh} {ρ:Env} {H:List Chunk} {w:World} (hG:G.Ok P) (h:MG G Ob Y g ρ H w) (hr:roA G.s.A 0 H) {k:Nat} {c:Chunk} (hc:H[k]? = some c) (hR:Real ρ k c) :
  ¬ Y (ρ k).b∧¬ G.V (ρ k).b:=by
 rcases roA_spec hr hc with hw | hl | ha
 ·refine ⟨h.ny k c hc ⟨hw,hR.2⟩,fun hv=>?_⟩
  rcases h.own k c hc ⟨hw,hR.2⟩ with ho | ho
  ·exact (hG.v _ hv).2 ho
  ·have:=(hG.v _ hv).1; omega
 ·rw [hR.1] at hl; cases hl
 ·rw [Nat.zero_add] at ha
  have h1:=hG.a k ha
  have he:=h.m.agree k h1.1
  simp only at he
  have h2:=h1.2 (by rw [← he]; exact hR.2)
  rw [← he] at h2
  exact ⟨fun hy=>(by have:=(h.yb _ hy).1; omega),h2.2⟩
theorem MG.round {G:Ghost} {Ob:List (Nat × Obj)} {Y:Nat→Prop} {g g':Gh} {ρ:Env} {H:List Chunk} {w w':World} (hG:G.Ok P) (h:MG G Ob Y g ρ H w) (hr:roA G.s.A 0 H)
  (hk:Keep (fun b=>Y b ∨ G.V b) w w') (hj:G.J g' w' (grow Y w w')):MG G Ob (grow Y w w') g' ρ H w':=by
 refine ⟨⟨?_,h.m.agree,h.m.len,?_,h.m.okc,?_,h.m.wr,h.m.sep⟩,h.own,?_,h.no,?_,?_,hj⟩
 ·exact h.m.keep.step hk fun b hb=>hb.elim (fun hy=>.inr (h.yb b hy).1) fun hv=>.inl (.inr hv)
 ·intro k c hc
  by_cases hl:c.live = true
  ·refine holds_block (fun hn=>?_) (h.m.holds k c hc)
   have:=h.away hG hr hc ⟨hl,hn⟩
   exact hk.block _ (h.m.size k c hc ⟨hl,hn⟩) fun hx=>hx.elim this.1 this.2
  ·cases c <;> simp [Chunk.live] at hl
   trivial
 ·exact fun k c hc hR=>Nat.lt_of_lt_of_le (h.m.size k c hc hR) hk.size
 ·intro k c hc hR hy
  rcases hy with hy | hy
  ·exact h.ny k c hc hR hy
  ·have:=h.m.size k c hc hR.real; omega
 ·intro p hp
  obtain ⟨h1,h2,h3⟩:=h.ob p hp
  refine ⟨(hk.block p.1 (heap_lt h1) fun hx=>hx.elim h3 h2).trans h1,h2,fun hy=>?_⟩
  rcases hy with hy | hy
  ·exact h3 hy
  ·have:=heap_lt h1; omega
 ·intro b hb
  rcases hb with hb | hb
  ·exact ⟨(h.yb b hb).1,Nat.lt_of_lt_of_le (h.yb b hb).2 hk.size⟩
  ·exact ⟨Nat.le_trans h.m.keep.size hb.1,hb.2⟩
def mark (D:Nat):Deferred:={ target:=.collected D,args:=#[] }
def actY (ρ:Env) (t:Slots) (Ds:List Nat):Act:=⟨(tmpsD ρ t).toArray,Ds.map mark⟩
section
variable {F:Fence} {n:Nat} {ops:Array Oper} {tab:Tab} {G:Ghost} {Ob:List (Nat × Obj)} {Ds:List Nat}
end
end Go.Sx
set_option linter.all false
namespace Go.Sx
open Go.RowKit
variable {P:Pr}
def Marked (s0:Nat) (Ds:List Nat) (Ob:List (Nat × Obj)):Prop:=Ds.Nodup∧∀ D ∈ Ds,(D,Obj.deferred (some [])) ∈ Ob∧s0≤D
def QY (G:Ghost) (Ob:List (Nat × Obj)) (N:Gh→Slots→List Chunk→Prop) (E:Gh→Exit→Slots→List Chunk→Prop) (e:Exit) (a:Act) (w:World):Prop :=
 ∃ g Y Ob' Ds ρ t h,(match e with | .normal=>N g t h | e=>E g e t h)∧MG G Ob' Y g ρ h w∧okS h.length t∧(∀ p ∈ Ob,p ∈ Ob')∧Marked G.C.w0.heap.size Ds Ob'∧a = actY ρ t Ds
section
variable {F:Fence} {n:Nat} {ops:Array Oper} {tab:Tab} {G:Ghost} {Ob:List (Nat × Obj)} {Ds:List Nat} {Q:Exit→Act→World→Prop}
theorem TrackY.alive {es:List Nat} {Fa:Facts} {L:Array Bool} {rd:List (Nat × List Nat)} {Y:Nat→Prop} {g:Gh} {ρ:Env} {h:List Chunk} {w:World} (ht:Track ops es Fa L rd ρ h) (hM:MG G Ob Y g ρ h w) :
  Alive .any ops (es.contains ·) Fa L w:=ht.alive hM.m
variable {nf:Nat} {pl:Nat→Plan}
theorem QY.mono {G:Ghost} {Ob Ob':List (Nat × Obj)} {N N':Gh→Slots→List Chunk→Prop} {E E':Gh→Exit→Slots→List Chunk→Prop} {e:Exit} {a:Act} {w:World} (h:QY G Ob' N E e a w) (ho:∀ p ∈ Ob,p ∈ Ob')
  (hN:∀ g t h,N g t h→N' g t h) (hE:∀ g e t h,e ≠ .normal→E g e t h→E' g e t h):QY G Ob N' E' e a w:=by
 obtain ⟨g,Y,Ob2,Ds,ρ,t,h,hq,hM,hok,h1,h2,h3⟩:=h
 refine ⟨g,Y,Ob2,Ds,ρ,t,h,?_,hM,hok,fun p hp=>h1 p (ho p hp),h2,h3⟩
 cases e with
 | normal=>exact hN _ _ _ hq
 | _=>exact hE _ _ _ _ (by simp) hq
def IntoY (nf:Nat) (t:Slots) (h:List Chunk) (J:Slots→List Chunk→Prop):Prop:=∀ d,Into nf ⟨t,h,d⟩ fun st=>st.d = d∧J st.t st.h
theorem IntoY.run {t:Slots} {h:List Chunk} {J:Slots→List Chunk→Prop} (hi:IntoY nf t h J) {Y:Nat→Prop} {g:Gh} {ρ:Env} {w:World} (hG:G.Ok P) (hC:G.C.n0≤nf) (hM:MG G Ob Y g ρ h w) (hok:okS h.length t) :
  ∃ ρ' t' h',J t' h'∧MG G Ob Y g ρ' h' w∧okS h'.length t'∧∀ Ds,actY ρ t Ds = actY ρ' t' Ds:=by
 obtain ⟨X,_,_,hm,back⟩:=hM.step hG
 obtain ⟨ρ',st',⟨hd,hJ⟩,hM',hok',he⟩:=hi [] ⟨w,X,G.C.ρ0,G.C.n0⟩ ρ w hC hm hok
 refine ⟨ρ',st'.t,st'.h,hJ,back _ _ _ hM',hok',fun Ds=>?_⟩
 simp only [act,hd] at he
 simp only [actY,Act.mk.injEq,and_true] at he ⊢
 exact he
end
end Go.Sx
set_option linter.all false
namespace Go.Sx
open Go.RowKit
variable {P:Pr}
def Gives (P:Program) (f:FuncId) (lb:List Value) (B:Nat→Prop) (n:Nat) (xs:Nat→Value) (w0:World):Prop :=
 (∀ b,B b→b < w0.heap.size)∧(∀ args w,(callFunc f args).run P w = .ok (.enter f args) w) ∧
  ∀ (F:Fence) (m l:Nat) (J:Inv) (w:World),WideF F→F.round = none→w0.heap.size≤w.heap.size→(∀ b,B b→w.heap[b]? = w0.heap[b]?)→Client (fun _=>False) w.heap.size J →
   YieldsTo P l J (fun b=>b < w.heap.size∧¬ B b) w.heap.size n xs→J (.run 0) w (fun _=>False) →
   CallsIn F m P f (Value.func (.yield l) #[] #[] :: lb).toArray w fun e w'=>∃ v g Y,e = .returned v∧(g = .run n ∨ ∃ i,i≤n∧g = .stop i)∧J g w' Y
def GivesR (P:Program) (f:FuncId) (lb:List Value) (B:Nat→Prop) (R:Nat→Value→Nat→Prop) (fin:Gh→Prop) (w0:World):Prop :=
 (∀ b,B b→b < w0.heap.size)∧(∀ args w,(callFunc f args).run P w = .ok (.enter f args) w) ∧
  ∀ (F:Fence) (m l:Nat) (J:Inv) (w:World),WideF F→F.round = none→w0.heap.size≤w.heap.size→(∀ b,B b→w.heap[b]? = w0.heap[b]?)→Client (fun _=>False) w.heap.size J →
   YieldsR P l J (fun b=>b < w.heap.size∧¬ B b) w.heap.size R→J (.run 0) w (fun _=>False) →
   CallsIn F m P f (Value.func (.yield l) #[] #[] :: lb).toArray w fun e w'=>∃ v g Y,e = .returned v∧fin g∧J g w' Y
theorem Keep.mono {X Y:Nat→Prop} {w w':World} (h:Keep X w w') (hXY:∀ b,X b→Y b):Keep Y w w':=⟨h.os,h.tape,h.output,h.size,fun b hb hY=>h.block b hb fun hx=>hY (hXY b hx)⟩
theorem YieldAt.mono {F:Fence} {m:Nat} {Q:Program} {l:Nat} {args:Array Value} {w:World} {R R':Ending→World→Prop} (h:YieldAt F m Q l args w R) (hr:∀ e w',R e w'→R' e w'):YieldAt F m Q l args w R':=by
 obtain ⟨fn,tmps,assign,body,h1,h2⟩:=h
 exact ⟨fn,tmps,assign,body,h1,RoundIn.mono h2 hr⟩
theorem keep_putObj (w:World) (l:Nat) (o:Obj):Keep (fun b=>b = l) w (w.putObj l o) :=
 ⟨rfl,rfl,rfl,by simp,fun b _ hb=>World.putObj_heap_other hb⟩
def dull:Obj→Bool
 | .loop _=>true
 | .deferred _=>true
 | _=>false
theorem cell_loop {w:World} {b o:Nat} {r:Obj} (hd:dull r = true) (h:w.heap[b]? = some r):w.cell? ⟨b,o,none⟩ = none:=by
 cases r <;> simp_all [World.cell?,dull]
theorem rangeAt_loop {w:World} {b o:Nat} {cs:List Value} {r:Obj} (hd:dull r = true) (h:w.heap[b]? = some r) (hr:w.rangeAt b o cs) (w':World):w'.rangeAt b o cs:=fun j v hj=>by
 have:=hr j v hj
 rw [cell_loop hd h] at this
 cases this
theorem holds_loop {ρ:Env} {w:World} {k:Nat} {c:Chunk} {r:Obj} (hd:dull r = true) (h:w.heap[(ρ k).b]? = some r) (hw:c.wr = false) (hh:Holds ρ w k c) (w':World):Holds ρ w' k c:=by
 cases c with
 | none=>trivial
 | cells wr fs =>
  simp only [Chunk.wr] at hw
  exact ⟨hh.1,rangeAt_loop hd h hh.2.1 w',fun hx=>by rw [hw] at hx; cases hx⟩
 | row wr n s f =>
  simp only [Chunk.wr] at hw
  simp only [Holds] at hh ⊢
  split
  ·rename_i hn; rw [if_pos hn] at hh; exact hh
  ·rename_i hn
   rw [if_neg hn] at hh
   exact ⟨rangeAt_loop hd h hh.1 w',hh.2.1,fun hx=>by rw [hw] at hx; cases hx⟩
 | map n key val born clock =>
  have:=hh.2
  rw [h] at this
  cases this
  cases hd
 | rmap n key val born clock =>
  have:=hh.2
  rw [h] at this
  cases this
  cases hd
 | iter m since seen st =>
  have:=hh.2.2
  rw [h] at this
  cases this
  cases hd
def rep (l:Nat) (o:Obj) (p:Nat × Obj):Nat × Obj:=if p.1 = l then (l,o) else p
theorem rep_fst (l:Nat) (o:Obj) (p:Nat × Obj):(rep l o p).1 = p.1:=by
 unfold rep; split
 ·rename_i h; exact h.symm
 ·rfl
theorem MG.put {G:Ghost} {Ob:List (Nat × Obj)} {Y:Nat→Prop} {g:Gh} {ρ:Env} {H:List Chunk} {w:World} (hG:G.Ok P) (h:MG G Ob Y g ρ H w) {l:Nat} {r:Obj} (hd:dull r = true) (o':Obj)
  (hl:(l,r) ∈ Ob) (hX:G.C.X l ∨ G.C.w0.heap.size≤l):MG G (Ob.map (rep l o')) Y g ρ H (w.putObj l o'):=by
 obtain ⟨hh,hV,hY⟩:=h.ob _ hl
 simp only at hh hV hY
 have hk:=keep_putObj w l o'
 refine ⟨⟨?_,h.m.agree,h.m.len,?_,h.m.okc,?_,h.m.wr,h.m.sep⟩,h.own,h.ny,?_,?_,?_,?_⟩
 ·exact h.m.keep.step hk fun b hb=>by subst hb; exact hX.elim (fun h=>.inl (.inl h)) .inr
 ·intro k c hc
  by_cases hl':c.live = true
  ·cases hw:c.wr with
   | true=>exact holds_block (fun hn=>World.putObj_heap_other (h.no k c hc ⟨hw,hn⟩ _ hl)) (h.m.holds k c hc)
   | false =>
    by_cases hb:(ρ k).b = l
    ·exact holds_loop (r:=r) hd (by rw [hb]; exact hh) hw (h.m.holds k c hc) _
    ·exact holds_block (fun _=>World.putObj_heap_other hb) (h.m.holds k c hc)
  ·cases c <;> simp [Chunk.live] at hl'
   trivial
 ·exact fun k c hc hR=>by rw [World.putObj_size]; exact h.m.size k c hc hR
 ·intro k c hc hR p hp
  obtain ⟨q,hq,rfl⟩:=List.mem_map.1 hp
  rw [rep_fst]
  exact h.no k c hc hR q hq
 ·intro p hp
  obtain ⟨q,hq,rfl⟩:=List.mem_map.1 hp
  obtain ⟨h1,h2,h3⟩:=h.ob q hq
  rw [rep_fst]
  refine ⟨?_,h2,h3⟩
  unfold rep
  split
  ·rename_i hql
   rw [hql]
   exact World.putObj_heap_same (heap_lt hh)
  ·rename_i hql
   exact (World.putObj_heap_other hql).trans h1
 ·intro b hb
  rw [World.putObj_size]
  exact h.yb b hb
 ·exact hG.cl.stable h.j hk fun b hb=>by subst hb; exact ⟨hX,hY⟩
theorem MG.sub {G:Ghost} {Ob Ob':List (Nat × Obj)} {Y:Nat→Prop} {g:Gh} {ρ:Env} {H:List Chunk} {w:World} (h:MG G Ob Y g ρ H w) (hs:∀ p ∈ Ob',p ∈ Ob):MG G Ob' Y g ρ H w :=
 ⟨h.m,h.own,h.ny,fun k c hc hR p hp=>h.no k c hc hR p (hs p hp),fun p hp=>h.ob p (hs p hp),h.yb,h.j⟩
theorem MG.beside {G:Ghost} {Ob:List (Nat × Obj)} {Y Z:Nat→Prop} {g:Gh} {ρ:Env} {H:List Chunk} {w w':World} (hG:G.Ok P) (h:MG G Ob Y g ρ H w) (hk:Keep Z w w')
  (hZ:∀ b,Z b→G.C.w0.heap.size≤b∧¬ Y b∧(∀ p ∈ Ob,b ≠ p.1)∧∀ k c,H[k]? = some c→Real ρ k c→(ρ k).b ≠ b):MG G Ob Y g ρ H w':=by
 refine ⟨⟨?_,h.m.agree,h.m.len,?_,h.m.okc,?_,h.m.wr,h.m.sep⟩,h.own,h.ny,h.no,?_,?_,?_⟩
 ·exact h.m.keep.step hk fun b hb=>.inr (hZ b hb).1
 ·intro k c hc
  by_cases hl:c.live = true
  ·exact holds_block (fun hn=>hk.block _ (h.m.size k c hc ⟨hl,hn⟩) fun hz=>(hZ _ hz).2.2.2 k c hc ⟨hl,hn⟩ rfl) (h.m.holds k c hc)
  ·cases c <;> simp [Chunk.live] at hl
   trivial
 ·exact fun k c hc hR=>Nat.lt_of_lt_of_le (h.m.size k c hc hR) hk.size
 ·intro p hp
  obtain ⟨h1,h2,h3⟩:=h.ob p hp
  exact ⟨(hk.block p.1 (heap_lt h1) fun hz=>(hZ _ hz).2.2.1 p hp rfl).trans h1,h2,h3⟩
 ·exact fun b hb=>⟨(h.yb b hb).1,Nat.lt_of_lt_of_le (h.yb b hb).2 hk.size⟩
 ·exact hG.cl.stable h.j hk fun b hb=>⟨.inr (hZ b hb).1,(hZ b hb).2.1⟩
def frz1:Chunk→Chunk
 | .cells _ fs=>.cells false fs
 | .row _ n s f=>.row false n s f
 | .map n key val born clock=>.rmap n key val born clock
 | c=>c
def frz (qs:List Nat):Nat→List Chunk→List Chunk
 | _,[]=>[]
 | k,c :: r=>(match inL qs k with | true=>frz1 c | false=>c) :: frz qs (k+1) r
theorem frz_length (qs:List Nat):∀ (k:Nat) (h:List Chunk),(frz qs k h).length = h.length
 | _,[]=>rfl
 | k,c :: r=>by simp [frz,frz_length qs (k+1) r]
theorem frz_get {qs:List Nat}:∀ {h:List Chunk} {k0 k:Nat} {c:Chunk},(frz qs k0 h)[k]? = some c→∃ c0,h[k]? = some c0∧(c = c0∧inL qs (k0+k) = false ∨ c = frz1 c0∧inL qs (k0+k) = true)
 | [],_,_,_,h=>by simp [frz] at h
 | c0 :: r,k0,0,c,h=>by
  simp only [frz,List.getElem?_cons_zero,Option.some.injEq] at h
  refine ⟨c0,rfl,?_⟩
  rw [Nat.add_zero]
  cases hq:inL qs k0 <;> rw [hq] at h <;> simp only at h
  ·exact .inl ⟨h.symm,rfl⟩
  ·exact .inr ⟨h.symm,rfl⟩
 | c0 :: r,k0,k+1,c,h=>by
  simp only [frz,List.getElem?_cons_succ] at h
  obtain ⟨c1,h1,h2⟩:=frz_get (k0:=k0+1) (k:=k) h
  exact ⟨c1,by simpa using h1,by rwa [show k0+(k+1) = k0+1+k by omega]⟩
theorem frz1_live (c:Chunk):(frz1 c).live = c.live:=by cases c <;> rfl
theorem frz1_wr {c:Chunk} (h:(frz1 c).wr = true):c.wr = true:=by cases c <;> simp_all [frz1,Chunk.wr]
theorem frz1_good {n:Nat} {c:Chunk} (h:c.good n):(frz1 c).good n:=by cases c <;> exact h
theorem frz1_holds {ρ:Env} {w:World} {k:Nat} {c:Chunk} (h:Holds ρ w k c):Holds ρ w k (frz1 c):=by
 cases c with
 | none=>trivial
 | cells wr fs=>exact ⟨h.1,h.2.1,fun hx=>by cases hx⟩
 | row wr n s f =>
  simp only [Holds,frz1] at h ⊢
  split
  ·rename_i hn; rw [if_pos hn] at h; exact ⟨h.1,h.2.1,fun hx=>by cases hx⟩
  ·rename_i hn; rw [if_neg hn] at h; exact ⟨h.1,h.2.1,fun hx=>by cases hx⟩
 | map n key val born clock=>exact h
 | rmap n key val born clock=>exact h
 | iter m since seen st=>exact h
theorem frz_all {qs:List Nat} {h:List Chunk} {k:Nat} {c:Chunk} (hc:(frz qs 0 h)[k]? = some c):∃ c0,h[k]? = some c0∧c.live = c0.live∧(c.wr = true→c0.wr = true)∧(∀ n,c0.good n→c.good n)∧(∀ ρ w,Holds ρ w k c0→Holds ρ w k c):=by
 obtain ⟨c0,h1,h2⟩:=frz_get hc
 refine ⟨c0,h1,?_⟩
 rcases h2 with ⟨rfl,_⟩ | ⟨rfl,_⟩
 ·exact ⟨rfl,id,fun _=>id,fun _ _=>id⟩
 ·exact ⟨frz1_live _,frz1_wr,fun _=>frz1_good,fun _ _=>frz1_holds⟩
theorem MG.freeze {G:Ghost} {Ob:List (Nat × Obj)} {Y:Nat→Prop} {g:Gh} {ρ:Env} {H:List Chunk} {w:World} (h:MG G Ob Y g ρ H w) (qs:List Nat):MG G Ob Y g ρ (frz qs 0 H) w:=by
 refine ⟨⟨h.m.keep,h.m.agree,by rw [frz_length]; exact h.m.len,?_,?_,?_,?_,?_⟩,?_,?_,?_,h.ob,h.yb,h.j⟩
 ·intro k c hc; obtain ⟨c0,h1,h2,h3,h4,h5⟩:=frz_all hc; exact h5 _ _ (h.m.holds k c0 h1)
 ·intro k c hc; obtain ⟨c0,h1,h2,h3,h4,h5⟩:=frz_all hc; rw [frz_length]; exact h4 _ (h.m.okc k c0 h1)
 ·intro k c hc hR; obtain ⟨c0,h1,h2,h3,h4,h5⟩:=frz_all hc; exact h.m.size k c0 h1 ⟨by rw [← h2]; exact hR.1,hR.2⟩
 ·intro k c hc hR; obtain ⟨c0,h1,h2,h3,h4,h5⟩:=frz_all hc; exact h.m.wr k c0 h1 ⟨h3 hR.1,hR.2⟩
 ·intro k k' c c' hc hc' hne hR hR'
  obtain ⟨c0,h1,h2,h3,h4,h5⟩:=frz_all hc
  obtain ⟨c0',h1',h2',h3',h4',h5'⟩:=frz_all hc'
  exact h.m.sep k k' c0 c0' h1 h1' hne ⟨h3 hR.1,hR.2⟩ ⟨by rw [← h2']; exact hR'.1,hR'.2⟩
 ·intro k c hc hR; obtain ⟨c0,h1,h2,h3,h4,h5⟩:=frz_all hc; exact h.own k c0 h1 ⟨h3 hR.1,hR.2⟩
 ·intro k c hc hR; obtain ⟨c0,h1,h2,h3,h4,h5⟩:=frz_all hc; exact h.ny k c0 h1 ⟨h3 hR.1,hR.2⟩
 ·intro k c hc hR; obtain ⟨c0,h1,h2,h3,h4,h5⟩:=frz_all hc; exact h.no k c0 h1 ⟨h3 hR.1,hR.2⟩
def leaves:Exit→Option Code
 | .ret=>some .ret
 | .exit id=>some (.exit id)
 | _=>none
end Go.Sx
set_option linter.all false
namespace Go.Sx
open Go.RowKit
variable {P:Pr}
section
variable {F:Fence} {tab:Tab} {nf:Nat}
end
end Go.Sx
set_option linter.all false
namespace Go.Sx
open Go.RowKit
variable {P:Pr}
end Go.Sx
set_option linter.all false
namespace Go.Sx
open Go.RowKit
variable {P:Pr}
section
variable {tab:Tab} {nf:Nat} {pl:Nat→Plan} {S:Sq} {g:Gh} {t:Slots} {h:List Chunk} {N:Tok→Gh→Slots→List Chunk→Prop} {E:Tok→Gh→Exit→Slots→List Chunk→Prop} {ops:Array Oper} {K:Tok→Gh→Slots→List Chunk→Prop}
variable {rd:List (Nat × List Nat)}
end
end Go.Sx
set_option linter.all false
namespace Go.Sx
open Go.RowKit
theorem Gives.later {p:Program} {f:FuncId} {lb:List Value} {B:Nat→Prop} {n:Nat} {xs:Nat→Value} {w0 w:World} (h:Gives p f lb B n xs w0) (hs:w0.heap.size≤w.heap.size) (hb:∀ b,B b→w.heap[b]? = w0.heap[b]?):Gives p f lb B n xs w :=
 ⟨fun b hB=>Nat.lt_of_lt_of_le (h.1 b hB) hs,h.2.1,fun F m l J W hF hr hs' hb' hcl hyl hj=>by
  refine h.2.2 F m l J W hF hr (Nat.le_trans hs hs') (fun b hB=>(hb' b hB).trans (hb b hB)) hcl hyl hj⟩
theorem PureAt.later {p:Program} {B:Nat→Prop} {fv:Value} {a:List Value} {r:Value} {w0 w:World} (h:PureAt p B fv a r w0) (hs:w0.heap.size≤w.heap.size) (hb:∀ b,B b→w.heap[b]? = w0.heap[b]?):PureAt p B fv a r w:=by
 obtain ⟨f,cap,h1,h2,h3,h4⟩:=h
 exact ⟨f,cap,h1,h2,fun b hB=>Nat.lt_of_lt_of_le (h3 b hB) hs,fun F m W hF hr hs' hb'=>h4 F m W hF hr (Nat.le_trans hs hs') fun b hB=>(hb' b hB).trans (hb b hB)⟩
def seqK (p:Program) (f:FuncId) (lb:List Value) (n:Nat) (xs:Nat→Value) (w:World) (X:Nat→Prop):Prop:=∃ B,(∀ b,B b→¬ X b)∧Gives p f lb B n xs w
def pureK (p:Program) (fv:Value) (fx:List SV→Option SV) (w:World) (X:Nat→Prop):Prop :=
 ∃ B,(∀ b,B b→¬ X b)∧∀ args r,fx args = some r→ok 0 r∧∀ ρ,PureAt p B fv (denL ρ args) (den ρ r) w
theorem keep_away {B X Y:Nat→Prop} {w0 w:World} (hBX:∀ b,B b→¬ X b) (hs:∀ b,B b→b < w0.heap.size) (hk:Keep X w0 w) (hY:∀ b,Y b→X b ∨ w0.heap.size≤b):(∀ b,B b→¬ Y b)∧∀ b,B b→w.heap[b]? = w0.heap[b]? :=
 ⟨fun b hb hy=>(hY b hy).elim (hBX b hb) fun h=>by have:=hs b hb; omega,fun b hb=>hk.block b (hs b hb) (hBX b hb)⟩
theorem seqK.keep {p:Program} {f:FuncId} {lb:List Value} {n:Nat} {xs:Nat→Value} {w0 w:World} {X Y:Nat→Prop} (h:seqK p f lb n xs w0 X) (hk:Keep X w0 w) (hY:∀ b,Y b→X b ∨ w0.heap.size≤b):seqK p f lb n xs w Y:=by
 obtain ⟨B,h1,h2⟩:=h
 obtain ⟨q1,q2⟩:=keep_away h1 h2.1 hk hY
 exact ⟨B,q1,h2.later hk.size q2⟩
theorem pureK.keep {p:Program} {fv:Value} {fx:List SV→Option SV} {w0 w:World} {X Y:Nat→Prop} (h:pureK p fv fx w0 X) (hs:∃ a r,fx a = some r) (hk:Keep X w0 w) (hY:∀ b,Y b→X b ∨ w0.heap.size≤b):pureK p fv fx w Y:=by
 obtain ⟨B,h1,h2⟩:=h
 obtain ⟨a,r,har⟩:=hs
 have hB:∀ b,B b→b < w0.heap.size:=by
  obtain ⟨_,_,_,_,h3,_⟩:=(h2 a r har).2 fun _=>⟨0,0,0,true,none⟩
  exact h3
 obtain ⟨q1,q2⟩:=keep_away h1 hB hk hY
 exact ⟨B,q1,fun args r hr=>⟨(h2 args r hr).1,fun ρ=>((h2 args r hr).2 ρ).later hk.size q2⟩⟩
@[reducible] def seqPr (p:Program) (f:FuncId) (lb:List Value) (n:Nat) (xs:Nat→Value):Pr:=⟨p,seqK p f lb n xs,fun h hk hY=>h.keep hk hY⟩
@[reducible] def seqfPr (p:Program) (f:FuncId) (lb:List Value) (n:Nat) (xs:Nat→Value) (fv:Value) (fx:List SV→Option SV) (hs:∃ a r,fx a = some r):Pr :=
 ⟨p,fun w X=>seqK p f lb n xs w X∧pureK p fv fx w X,fun h hk hY=>⟨h.1.keep hk hY,h.2.keep hs hk hY⟩⟩
def SeqS (P:Pr) (qs:List Nat) (h:List Chunk) (sv:SV) (n:Nat) (xs:Nat→Value):Prop :=
 ∀ ρ w X,P.know w X→(∀ k ∈ qs,Holds ρ w k (lookH h k)∧(Real ρ k (lookH h k)→(ρ k).b < w.heap.size)) →
  ∃ f lb B,den ρ sv = .func (.func f) #[] ⟨lb⟩∧Gives P.p f lb B n xs w∧∀ b,B b→¬ X b ∨ ∃ k ∈ qs,Real ρ k (lookH h k)∧(ρ k).b = b
theorem SeqS.mono {P:Pr} {qs qs':List Nat} {h h':List Chunk} {sv:SV} {n:Nat} {xs:Nat→Value} (hs:SeqS P qs h sv n xs) (hq:∀ k ∈ qs,k ∈ qs'∧(∀ ρ w,Holds ρ w k (lookH h' k)→Holds ρ w k (lookH h k))∧(lookH h' k).live = (lookH h k).live):SeqS P qs' h' sv n xs:=fun ρ w X hk hH=>by
 obtain ⟨f,lb,B,h1,h2,h3⟩:=hs ρ w X hk fun k hkq=>by
  obtain ⟨q1,q2,q3⟩:=hq k hkq
  have h4:=hH k q1
  exact ⟨q2 _ _ h4.1,fun hR=>h4.2 ⟨by rw [q3]; exact hR.1,hR.2⟩⟩
 refine ⟨f,lb,B,h1,h2,fun b hb=>(h3 b hb).imp id fun ⟨k,hkq,hR,he⟩=>?_⟩
 obtain ⟨q1,q2,q3⟩:=hq k hkq
 exact ⟨k,q1,⟨by rw [q3]; exact hR.1,hR.2⟩,he⟩
end Go.Sx
set_option linter.all false
namespace Go.Sx
open Go.RowKit
section
variable {α:Type} [Inhabited α] {enc:α→Value} {sv:α→SV}
end
end Go.Sx
set_option linter.all false
namespace Go.Sx
open Go.RowKit
theorem lookH_app (l:List Chunk) (j:Nat):∀ h:List Chunk,lookH (h++l) (h.length+j) = lookH l j
 | []=>by simp
 | c :: h=>by
  have:=lookH_app l j h
  rw [List.length_cons,show h.length+1+j = (h.length+j)+1 by omega]
  exact this
theorem lookH_app0 (l:List Chunk) (h:List Chunk):lookH (h++l) h.length = lookH l 0:=lookH_app l 0 h
theorem putH_app (l:List Chunk) (c:Chunk) (j:Nat):∀ h:List Chunk,putH (h++l) (h.length+j) c = h++putH l j c
 | []=>by simp
 | c0 :: h=>by
  have:=putH_app l c j h
  rw [List.length_cons,show h.length+1+j = (h.length+j)+1 by omega]
  show c0 :: putH (h++l) (h.length+j) c = _
  rw [this]
  rfl
theorem putH_app0 (l:List Chunk) (c:Chunk) (h:List Chunk):putH (h++l) h.length c = h++putH l 0 c:=putH_app l c 0 h
theorem lookH_old (l:List Chunk) (k:Nat) (c:Chunk):∀ {h:List Chunk},lookH h k = c→c ≠ .none→lookH (h++l) k = c
 | [],e,hc=>absurd e.symm hc
 | x :: h,e,hc=>by
  cases k with
  | zero=>exact e
  | succ k=>exact lookH_old l k c (h:=h) e hc
theorem lookH_put_same (c:Chunk):∀ {h:List Chunk} {p:Nat},p < h.length→lookH (putH h p c) p = c
 | [],p,hp=>by simp at hp
 | x :: h,0,_=>rfl
 | x :: h,p+1,hp=>lookH_put_same c (h:=h) (p:=p) (by simpa using hp)
theorem lookH_put_ne (c:Chunk):∀ {h:List Chunk} {p j:Nat},j ≠ p→lookH (putH h p c) j = lookH h j
 | [],p,j,_=>rfl
 | x :: h,0,0,hn=>absurd rfl hn
 | x :: h,0,j+1,_=>rfl
 | x :: h,p+1,0,_=>rfl
 | x :: h,p+1,j+1,hn=>lookH_put_ne c (h:=h) (p:=p) (j:=j) (by omega)
theorem lookH_lt {c:Chunk}:∀ {h:List Chunk} {p:Nat},lookH h p = c→c ≠ .none→p < h.length
 | [],p,e,hc=>absurd e.symm hc
 | x :: h,0,_,_=>by simp
 | x :: h,p+1,e,hc=>by
  have:=lookH_lt (h:=h) (p:=p) e hc
  simp; omega
theorem putH_len (h:List Chunk) (p:Nat) (c:Chunk):(putH h p c).length = h.length:=putH_length h p c
def Pl (n:Nat) (p:List Nat):Prop:=p.Nodup∧∀ a ∈ p,a < n
theorem Pl.nil (n:Nat):Pl n []:=⟨List.nodup_nil,fun a h=>by cases h⟩
theorem Pl.cons {n:Nat} {p:List Nat} {j:Nat} (h:Pl n p) (hj:j < n) (hn:j ∉ p):Pl n (j :: p):=⟨List.nodup_cons.2 ⟨hn,h.1⟩,fun a ha=>by
 rcases List.mem_cons.1 ha with rfl | ha
 ·exact hj
 ·exact h.2 a ha⟩
theorem GivesR.mono {P:Program} {f:FuncId} {lb:List Value} {B:Nat→Prop} {R R1:Nat→Value→Nat→Prop} {fin:Gh→Prop} {w0:World} (h:GivesR P f lb B R fin w0) (hR:∀ i v i',R i v i'→R1 i v i'):GivesR P f lb B R1 fin w0 :=
 ⟨h.1,h.2.1,fun F m l J w hF hr hs hb hcl hyl hj=>h.2.2 F m l J w hF hr hs hb hcl (fun i v i' w Y F k hF hi hsz hY hJ=>hyl i v i' w Y F k hF (hR i v i' hi) hsz hY hJ) hj⟩
theorem GivesR.later {p:Program} {f:FuncId} {lb:List Value} {B:Nat→Prop} {R:Nat→Value→Nat→Prop} {fin:Gh→Prop} {w0 w:World} (h:GivesR p f lb B R fin w0) (hs:w0.heap.size≤w.heap.size) (hb:∀ b,B b→w.heap[b]? = w0.heap[b]?):GivesR p f lb B R fin w :=
 ⟨fun b hB=>Nat.lt_of_lt_of_le (h.1 b hB) hs,h.2.1,fun F m l J W hF hr hs' hb' hcl hyl hj=>by
  refine h.2.2 F m l J W hF hr (Nat.le_trans hs hs') (fun b hB=>(hb' b hB).trans (hb b hB)) hcl hyl hj⟩
def seqRK (p:Program) (f:FuncId) (lb:List Value) (R:Nat→Value→Nat→Prop) (fin:Gh→Prop) (w:World) (X:Nat→Prop):Prop:=∃ B,(∀ b,B b→¬ X b)∧GivesR p f lb B R fin w
@[reducible] def seqRPr (p:Program) (f:FuncId) (lb:List Value) (R:Nat→Value→Nat→Prop) (fin:Gh→Prop):Pr:=⟨p,seqRK p f lb R fin,fun h hk hY=>by
 obtain ⟨B,h1,h2⟩:=h
 obtain ⟨q1,q2⟩:=keep_away h1 h2.1 hk hY
 exact ⟨B,q1,h2.later hk.size q2⟩⟩
theorem csz_slice' (a:Option Addr) (b c:Nat):(Value.slice a b c).cells.size = 1:=rfl
end Go.Sx
set_option linter.all false
namespace Go.Sx
open Go.RowKit
def sameT (t:Slots):List (Nat × SV)→Prop
 | []=>True
 | (i,v) :: T=>(slot t i = v∧i < t.n)∧sameT t T
theorem sameT_E {m:Nat} {t:Slots} (hok:okS m t):∀ (T:List (Nat × SV)),sameT t T→okE m t.n T
 | [],_=>trivial
 | (i,v) :: T,h=>by
  simp only [sameT] at h
  exact ⟨⟨h.1.2,by rw [← h.1.1]; exact ok_slot t i hok⟩,sameT_E hok T h.2⟩
theorem sameT_slot {ρ:Env} {t:Slots} {j:Nat→Value} {i:Nat} (hj:j i = den ρ (slot t i)):∀ (T:List (Nat × SV)),sameT t T→den ρ (lkL T j i) = den ρ (slot t i)
 | [],_=>by simp only [lkL,den,hj]
 | (k,v) :: T,h=>by
  simp only [sameT] at h
  simp only [lkL]
  split
  ·rename_i hk; subst hk; rw [h.1.1]
  ·exact sameT_slot hj T h.2
theorem into_keep {nf n:Nat} {l:List (Nat × SV)} {j0:Nat→Value} {h:List Chunk} {d:List Deferred} {J:St→Prop} (T:List (Nat × SV)) (hT:sameT ⟨n,l,j0⟩ T)
  (hJ:∀ j,J ⟨⟨n,T,j⟩,h,d⟩):Into nf ⟨⟨n,l,j0⟩,h,d⟩ J:=fun C ρ w hC hM hok=>by
 refine ⟨ρ,⟨⟨n,T,fun i=>if i < n then den ρ (slot ⟨n,l,j0⟩ i) else undef⟩,h,d⟩,hJ _,hM,⟨fun i hi=>if_neg (by simp only at hi; omega),sameT_E (t:=⟨n,l,j0⟩) hok T hT⟩,?_⟩
 have e:tmpsD ρ ⟨n,l,j0⟩ = tmpsD ρ ⟨n,T,fun i=>if i < n then den ρ (slot ⟨n,l,j0⟩ i) else undef⟩:=by
  unfold tmpsD
  apply List.map_congr_left
  intro i hi
  rw [List.mem_range] at hi
  exact (sameT_slot (t:=⟨n,l,j0⟩) (if_pos hi) T hT).symm
 simp only [act,e]
def Ext (N:Nat→Prop) (h h':List Chunk):Prop:=h.length≤h'.length∧∀ k,k < h.length→¬ N k→lookH h' k = lookH h k
theorem Ext.refl (N:Nat→Prop) (h:List Chunk):Ext N h h:=⟨Nat.le_refl _,fun _ _ _=>rfl⟩
theorem Ext.trans {N:Nat→Prop} {h h1 h2:List Chunk} (a:Ext N h h1) (b:Ext N h1 h2):Ext N h h2:=⟨Nat.le_trans a.1 b.1,fun k hk hn=>(b.2 k (Nat.lt_of_lt_of_le hk a.1) hn).trans (a.2 k hk hn)⟩
theorem Ext.mono {N N':Nat→Prop} {h h':List Chunk} (a:Ext N h h') (hN:∀ k,N k→N' k):Ext N' h h':=⟨a.1,fun k hk hn=>a.2 k hk fun q=>hn (hN k q)⟩
theorem Ext.look {N:Nat→Prop} {h h':List Chunk} (a:Ext N h h') {k:Nat} {c:Chunk} (hc:lookH h k = c) (hl:c ≠ .none) (hn:¬ N k):lookH h' k = c:=by
 rw [a.2 k (lookH_lt hc hl) hn,hc]
theorem Ext.app {N:Nat→Prop} {h h':List Chunk} (a:Ext N h h') (l:List Chunk):Ext N h (h'++l):=⟨by rw [List.length_append]; have:=a.1; omega,fun k hk hn=>by
 rw [← a.2 k hk hn]
 have hk':=Nat.lt_of_lt_of_le hk a.1
 clear a hn
 induction h' generalizing k h with
 | nil=>simp at hk'
 | cons c h' ih =>
  cases k with
  | zero=>rfl
  | succ k=>exact ih (h:=List.replicate (k+1) .none) k (by simp) (by simpa using hk')⟩
theorem Ext.put {N:Nat→Prop} {h h':List Chunk} (a:Ext N h h') {p:Nat} (c:Chunk) (hp:N p ∨ h.length≤p):Ext N h (putH h' p c):=⟨by rw [putH_len]; exact a.1,fun k hk hn=>by
 rw [lookH_put_ne c (fun e=>by subst e; exact hp.elim hn fun q=>by omega)]
 exact a.2 k hk hn⟩
theorem lookH_of_get:∀ {H:List Chunk} {k:Nat} {c:Chunk},H[k]? = some c→lookH H k = c
 | [],k,c,h=>by simp at h
 | x :: H,0,c,h=>by simp at h; exact h
 | x :: H,k+1,c,h=>lookH_of_get (H:=H) (k:=k) (by simpa using h)
theorem goodH_of_get {n:Nat}:∀ {H:List Chunk},(∀ (k:Nat) (c:Chunk),H[k]? = some c→c.good n)→goodH n H
 | [],_=>trivial
 | x :: H,h=>⟨h 0 x rfl,goodH_of_get fun k c hc=>h (k+1) c (by simpa using hc)⟩
end Go.Sx
set_option linter.all false
namespace Go.Sx
open Go.RowKit
def chSim:Chunk→Chunk→Prop
 | .map n f v b c,d=>∃ f' v' b',d = .map n f' v' b' c∧∀ j,j < n→f j = f' j∧v j = v' j∧b j = b' j
 | .row wr n s f,d=>∃ f',d = .row wr n s f'∧∀ j,j < n→f j = f' j
 | .none,d=>d = .none
 | .cells wr fs,d=>d = .cells wr fs
 | .rmap n k v b c,d=>d = .rmap n k v b c
 | .iter m a b c,d=>d = .iter m a b c
theorem chSim.refl (c:Chunk):chSim c c:=by
 cases c with
 | map n f v b c=>exact ⟨f,v,b,rfl,fun _ _=>⟨rfl,rfl,rfl⟩⟩
 | row wr n s f=>exact ⟨f,rfl,fun _ _=>rfl⟩
 | _=>rfl
theorem chSim.live {c d:Chunk} (h:chSim c d):d.live = c.live:=by
 cases c with
 | map n f v b c=>obtain ⟨_,_,_,rfl,_⟩:=h; rfl
 | row wr n s f=>obtain ⟨_,rfl,_⟩:=h; rfl
 | _=>cases h; rfl
theorem chSim.wr {c d:Chunk} (h:chSim c d):d.wr = c.wr:=by
 cases c with
 | map n f v b c=>obtain ⟨_,_,_,rfl,_⟩:=h; rfl
 | row wr n s f=>obtain ⟨_,rfl,_⟩:=h; rfl
 | _=>cases h; rfl
theorem chSim.good {n:Nat} {c d:Chunk} (h:chSim c d) (hg:c.good n):d.good n:=by
 cases c with
 | map m f v b c =>
  obtain ⟨_,_,_,rfl,hf⟩:=h
  intro i hi
  have:=hg i hi
  rw [(hf i hi).1,(hf i hi).2.1] at this
  exact this
 | row wr m s f =>
  obtain ⟨f',rfl,hf⟩:=h
  obtain ⟨h1,h2⟩:=hg
  simp only [ok,stor] at h1 h2
  refine ⟨?_,?_⟩
  ·simp only [ok]
   intro i hi
   rw [← hf i hi]
   exact h1 i hi
  ·simp only [stor]
   intro i hi
   rw [← hf i hi]
   exact h2 i hi
 | _=>cases h; exact hg
theorem chSim.holds {ρ:Env} {w:World} {k:Nat} {c d:Chunk} (h:chSim c d) (hg:Holds ρ w k c):Holds ρ w k d:=by
 cases c with
 | map m f v b c =>
  obtain ⟨f',v',b',rfl,hf⟩:=h
  refine ⟨hg.1,?_⟩
  rw [hg.2]
  unfold mapObj
  congr 3
  apply List.map_congr_left
  intro i hi
  rw [List.mem_range] at hi
  obtain ⟨e1,e2,e3⟩:=hf i hi
  rw [e1,e2,e3]
 | row wr m s f =>
  obtain ⟨f',rfl,hf⟩:=h
  have e:(den ρ (.fam m s f)).cells.toList = (den ρ (.fam m s f')).cells.toList:=by
   rw [cells_fam,cells_fam]
   exact flatMap_congr' _ _ m fun i hi=>by rw [hf i hi]
  simp only [Holds] at hg ⊢
  split at hg
  ·rename_i hn; rw [if_pos hn]; exact hg
  ·rename_i hn; rw [if_neg hn,← e]; exact hg
 | _=>cases h; exact hg
def Sim (h h':List Chunk):Prop:=h.length = h'.length∧∀ k,chSim (lookH h k) (lookH h' k)
theorem Sim.refl (h:List Chunk):Sim h h:=⟨rfl,fun k=>chSim.refl _⟩
theorem get_of_lt {h:List Chunk} {k:Nat} (hk:k < h.length):h[k]? = some (lookH h k):=by
 rw [List.getElem?_eq_getElem hk]
 congr 1
 exact (lookH_of_get (List.getElem?_eq_getElem hk)).symm
theorem Models.sim {C:Ctx} {ρ:Env} {h h':List Chunk} {w:World} (hM:Models C ρ h w) (hs:Sim h h'):Models C ρ h' w:=by
 have key:∀ (k:Nat) (c:Chunk),h'[k]? = some c→h[k]? = some (lookH h k)∧chSim (lookH h k) c:=fun k c hc=>by
  have h1:k < h.length:=by rw [hs.1]; exact get_lt hc
  refine ⟨get_of_lt h1,?_⟩
  have:=hs.2 k
  rwa [lookH_of_get hc] at this
 refine ⟨hM.keep,hM.agree,by rw [← hs.1]; exact hM.len,fun k c hc=>?_,fun k c hc=>?_,fun k c hc hR=>?_,fun k c hc hR=>?_,fun k k' c c' hc hc' hne hR hR'=>?_⟩
 ·obtain ⟨h1,h2⟩:=key k c hc
  exact h2.holds (hM.holds k _ h1)
 ·obtain ⟨h1,h2⟩:=key k c hc
  rw [← hs.1]
  exact h2.good (hM.okc k _ h1)
 ·obtain ⟨h1,h2⟩:=key k c hc
  exact hM.size k _ h1 ⟨by rw [← h2.live]; exact hR.1,hR.2⟩
 ·obtain ⟨h1,h2⟩:=key k c hc
  exact hM.wr k _ h1 ⟨by rw [← h2.wr]; exact hR.1,hR.2⟩
 ·obtain ⟨h1,h2⟩:=key k c hc
  obtain ⟨h3,h4⟩:=key k' c' hc'
  exact hM.sep k k' _ _ h1 h3 hne ⟨by rw [← h2.wr]; exact hR.1,hR.2⟩ ⟨by rw [← h4.live]; exact hR'.1,hR'.2⟩
theorem Sim.put {h:List Chunk} {p:Nat} {c c':Chunk} (hc:chSim c c') (hp:p < h.length):Sim (putH h p c) (putH h p c'):=⟨by rw [putH_len,putH_len],fun k=>by
 by_cases e:k = p
 ·subst e
  rw [lookH_put_same c hp,lookH_put_same c' hp]
  exact hc
 ·rw [lookH_put_ne c e,lookH_put_ne c' e]
  exact chSim.refl _⟩
end Go.Sx
set_option linter.all false
namespace Go.Sx
open Go.RowKit
theorem into_sim {nf:Nat} {t:Slots} {h h':List Chunk} {d:List Deferred} {J:St→Prop} (hs:Sim h h') (hJ:Into nf ⟨t,h',d⟩ J):Into nf ⟨t,h,d⟩ J:=fun C ρ w hC hM hok=>by
 obtain ⟨ρ',st',h1,h2,h3,h4⟩:=hJ C ρ w hC (hM.sim hs) (by rw [← hs.1]; exact hok)
 exact ⟨ρ',st',h1,h2,h3,h4⟩
theorem lookH_end (h:List Chunk) (c:Chunk):lookH (h++[c]) h.length = c:=lookH_app0 [c] h
end Go.Sx
set_option linter.all false
namespace Go.Sx
open Go.RowKit
variable {P:Pr}
def CellAt (w:World) (pl:Place) (c:Int):Prop:=∀ (ρ:Env) (k:Nat),ρ k = pl→Holds ρ w k (.cells true [.int .i64 c])
theorem CellAt.block {w w':World} {pl:Place} {c:Int} (h:CellAt w pl c) (hb:w'.heap[pl.b]? = w.heap[pl.b]?):CellAt w' pl c:=fun ρ k he=>holds_block (fun _=>by rw [he]; exact hb) (h ρ k he)
def GivesRC (P:Program) (f:FuncId) (lb:List Value) (B:Nat→Prop) (pl:Place) (R:Nat→Value→Nat→Prop) (fin:Gh→Nat→Prop) (w0:World):Prop :=
 (∀ b,B b→b < w0.heap.size)∧(∀ args w,(callFunc f args).run P w = .ok (.enter f args) w)∧¬ B pl.b ∧
  ∀ (F:Fence) (m l:Nat) (J:Inv) (w:World) (c0:Int),WideF F→F.round = none→w0.heap.size≤w.heap.size→(∀ b,B b→w.heap[b]? = w0.heap[b]?)→CellAt w pl c0→0≤c0∧c0≤1000→pl.b < w.heap.size→Client (fun b=>b = pl.b) w.heap.size J →
   YieldsR P l J (fun b=>b < w.heap.size∧¬ (B b ∨ b = pl.b)) w.heap.size R→J (.run 0) w (fun _=>False) →
   CallsIn F m P f (Value.func (.yield l) #[] #[] :: lb).toArray w fun e w'=>∃ v g Y i,e = .returned v∧fin g i∧J g w' Y∧CellAt w' pl (c0+(i:Nat))
section
variable {F:Fence} {tab:Tab} {nf:Nat}
end
end Go.Sx
set_option linter.all false
namespace Go.Sx
open Go.RowKit
variable {P:Pr}
def RI (n:Nat) (A:Nat→Int):Nat→Value→Nat→Prop:=fun i v i'=>i < n∧v = .int .i64 (A i)∧i' = i+1
def finI (n:Nat):Gh→Nat→Prop:=fun g i=>(i = n∧g = .run i) ∨ (i≤n∧g = .stop i)
def GivesC (P:Program) (f:FuncId) (lb:List Value) (B:Nat→Prop) (pl:Place) (n:Nat) (A:Nat→Int) (w0:World):Prop:=GivesRC P f lb B pl (RI n A) (finI n) w0
theorem GivesC.later {p:Program} {f:FuncId} {lb:List Value} {B:Nat→Prop} {pl:Place} {n:Nat} {A:Nat→Int} {w0 w:World} (h:GivesC p f lb B pl n A w0) (hs:w0.heap.size≤w.heap.size) (hb:∀ b,B b→w.heap[b]? = w0.heap[b]?):GivesC p f lb B pl n A w :=
 ⟨fun b hB=>Nat.lt_of_lt_of_le (h.1 b hB) hs,h.2.1,h.2.2.1,fun F m l J W c0 hF hr hs' hb' hat hc hp hcl hyl hj =>
  h.2.2.2 F m l J W c0 hF hr (Nat.le_trans hs hs') (fun b hB=>(hb' b hB).trans (hb b hB)) hat hc hp hcl hyl hj⟩
def seqKC (p:Program) (f:FuncId) (lb:List Value) (pl:Place) (n:Nat) (A:Nat→Int) (w:World) (X:Nat→Prop):Prop:=∃ B,(∀ b,B b→¬ X b)∧GivesC p f lb B pl n A w
theorem seqKC.keep {p:Program} {f:FuncId} {lb:List Value} {pl:Place} {n:Nat} {A:Nat→Int} {w0 w:World} {X Y:Nat→Prop} (h:seqKC p f lb pl n A w0 X) (hk:Keep X w0 w) (hY:∀ b,Y b→X b ∨ w0.heap.size≤b):seqKC p f lb pl n A w Y:=by
 obtain ⟨B,h1,h2⟩:=h
 obtain ⟨q1,q2⟩:=keep_away h1 h2.1 hk hY
 exact ⟨B,q1,h2.later hk.size q2⟩
@[reducible] def seqPrC (p:Program) (f:FuncId) (lb:List Value) (pl:Place) (n:Nat) (A:Nat→Int):Pr:=⟨p,seqKC p f lb pl n A,fun h hk hY=>h.keep hk hY⟩
end Go.Sx
set_option linter.all false
set_option maxRecDepth 40000
namespace Go.Proofs.Ytgocfglmideobaa
open Go Go.Sx
def zzA:=And.intro (And.intro (And.intro (And.intro (And.intro (@Go.Sx.look.eq_1) (@Go.Sx.look.eq_2)) (And.intro (@Go.Sx.look.eq_3) (@Go.Sx.stays.eq_1))) (And.intro (And.intro (@Go.Sx.stays.eq_2) (@Go.Sx.stays.eq_3)) (And.intro (@Go.Sx.lookH.eq_1) (@Go.Sx.lookH.eq_2)))) (And.intro (And.intro (And.intro (@Go.Sx.lookH.eq_3) (@Go.Sx.putH.eq_1)) (And.intro (@Go.Sx.putH.eq_2) (@Go.Sx.putH.eq_3))) (And.intro (And.intro (@Go.Sx.inL.eq_1) (@Go.Sx.inL.eq_2)) (And.intro (Go.Proofs.Ytgocfglmideobaa.tabB) (@Go.Sx.bldF.eq_1))))) (And.intro (And.intro (And.intro (And.intro (@Go.Sx.bldF.eq_2) (@Go.Sx.nthT.eq_1)) (And.intro (@Go.Sx.nthT.eq_2) (@Go.Sx.nthT.eq_3))) (And.intro (And.intro (Go.Sx.evB) (@Go.Sx.argsL.eq_1)) (And.intro (@Go.Sx.argsL.eq_2) (Go.Sx.numB)))) (And.intro (And.intro (And.intro (@Go.Sx.storL.eq_1) (@Go.Sx.storL.eq_2)) (And.intro (@Go.Sx.same1.eq_1) (@Go.Sx.same1.eq_2))) (And.intro (And.intro (@Go.Sx.szL.eq_1) (@Go.Sx.szL.eq_2)) (And.intro (Go.Proofs.Ytgocfglmideobaa.liB) (And.intro (@Go.Sx.takeC.eq_1) (@Go.Sx.takeC.eq_2))))))
def zzP:=And.intro (And.intro (@Go.Sx.lkL.eq_1) (And.intro (@Go.Sx.lkL.eq_2) (@Go.Sx.resS.eq_1))) (And.intro (@Go.Sx.resS.eq_2) (And.intro (@Go.Sx.resS.eq_3) (Go.Sx.vcB)))
def zzL.{u}:=And.intro (And.intro (And.intro (@List.append.eq_1.{u}) (And.intro (@List.append.eq_2.{u}) (@if_true.{u}))) (And.intro (@cond_false.{u}) (And.intro (@forall_eq_or_imp.{u}) (@forall_eq.{u})))) (And.intro (And.intro (@cond_true.{u}) (And.intro (@implies_true.{u}) (@if_false.{u}))) (And.intro (@List.replicate.eq_1.{u}) (And.intro (@List.replicate.eq_2.{u}) (@ne_eq.{u}))))
end Go.Proofs.Ytgocfglmideobaa
set_option linter.all false
set_option maxRecDepth 40000
namespace Go.Sx
open Go.RowKit Go.WideShapes Go.ChangeShapes
def At (ρ:Env) (k0:Nat) (ps:List Place):Prop:=∀ i p,ps[i]? = some p→ρ (k0+i) = p
theorem At.left {ρ:Env} {k0:Nat} {ps qs:List Place} (h:At ρ k0 (ps++qs)):At ρ k0 ps:=fun i p hp=>h i p (by
 rw [List.getElem?_append_left (List.getElem?_eq_some_iff.1 hp).1]
 exact hp)
theorem At.right {ρ:Env} {k0 n:Nat} {ps qs:List Place} (h:At ρ k0 (ps++qs)) (hn:ps.length = n):At ρ (k0+n) qs:=fun i p hp=>by
 subst hn
 rw [Nat.add_assoc]
 exact h _ p (by rw [List.getElem?_append_right (by omega),Nat.add_sub_cancel_left]; exact hp)
structure Lies (W:World) (k0:Nat) (ps:List Place) (h:List Chunk):Prop where
 len:ps.length = h.length
 good:∀ c ∈ h,c.good (k0+h.length)
 ro:∀ c ∈ h,c.wr = false
 plc:∀ p ∈ ps,p.nil = false→p.b < W.heap.size
 hold:∀ ρ,At ρ k0 ps→∀ i c,h[i]? = some c→Holds ρ W (k0+i) c
theorem Lies.nil (W:World) (k0:Nat):Lies W k0 [] []:=⟨rfl,fun c hc=>by simp at hc,fun c hc=>by simp at hc,fun c hc=>by simp at hc,fun ρ _ i c hc=>by simp at hc⟩
theorem Lies.app {W:World} {k0:Nat} {ps qs:List Place} {h h':List Chunk} (a:Lies W k0 ps h) (b:Lies W (k0+h.length) qs h'):Lies W k0 (ps++qs) (h++h') where
 len:=by rw [List.length_append,List.length_append,a.len,b.len]
 good:=fun c hc=>by
  rw [List.length_append]
  rcases List.mem_append.1 hc with hc | hc
  ·exact good_mono (by omega) (a.good c hc)
  ·exact good_mono (by omega) (b.good c hc)
 ro:=fun c hc=>(List.mem_append.1 hc).elim (a.ro c) (b.ro c)
 plc:=fun c hc=>(List.mem_append.1 hc).elim (a.plc c) (b.plc c)
 hold:=fun ρ hA i c hc=>by
  rcases Nat.lt_or_ge i h.length with hi | hi
  ·rw [List.getElem?_append_left hi] at hc
   exact a.hold ρ hA.left i c hc
  ·rw [List.getElem?_append_right hi] at hc
   have:=b.hold ρ (hA.right a.len) _ c hc
   rwa [show k0+h.length+(i - h.length) = k0+i by omega] at this
theorem Lies.one {W:World} {k0:Nat} {p:Place} {c:Chunk} (hg:c.good (k0+1)) (hr:c.wr = false) (hp:p.nil = false→p.b < W.heap.size) (hh:∀ ρ:Env,ρ k0 = p→Holds ρ W k0 c):Lies W k0 [p] [c] where
 len:=rfl
 good:=fun x hx=>by rw [List.mem_singleton.1 hx]; exact hg
 ro:=fun x hx=>by rw [List.mem_singleton.1 hx]; exact hr
 plc:=fun x hx=>by rw [List.mem_singleton.1 hx]; exact hp
 hold:=fun ρ hA i x hx=>by
  rcases i with _ | i
  ·cases hx
   exact hh ρ (hA 0 p rfl)
  ·simp at hx
theorem Lies.models {W:World} {ps:List Place} {h:List Chunk} (a:Lies W 0 ps h) {ρ:Env} (hA:At ρ 0 ps):Models (Ctx.start W ρ h.length) ρ h W where
 keep:=Keep.refl _ _
 agree:=fun _ _=>rfl
 len:=Nat.le_refl _
 holds:=fun k c hc=>by
  have:=a.hold ρ hA k c hc
  rwa [Nat.zero_add] at this
 okc:=fun k c hc=>by
  have:=a.good c (List.mem_of_getElem? hc)
  rwa [Nat.zero_add] at this
 size:=fun k c hc hr=>by
  have hk:k < ps.length:=by rw [a.len]; exact (List.getElem?_eq_some_iff.1 hc).1
  have h1:=hA k ps[k] (List.getElem?_eq_getElem hk)
  rw [Nat.zero_add] at h1
  have h2:=hr.2
  rw [h1] at h2 ⊢
  exact a.plc _ (List.getElem_mem hk) h2
 wr:=fun k c hc hr=>by
  have:=a.ro c (List.mem_of_getElem? hc)
  rw [hr.1] at this
  cases this
 sep:=fun k k' c c' hc _ _ hr _=>by
  have:=a.ro c (List.mem_of_getElem? hc)
  rw [hr.1] at this
  cases this
def sp (k0:Nat) (h:List Chunk):List Chunk:=List.replicate k0 .none++h
theorem lookH_reps:∀ (n k:Nat) (l:List Chunk),k < n→lookH (List.replicate n .none++l) k = .none
 | 0,k,l,h=>absurd h (Nat.not_lt_zero _)
 | n+1,0,l,h=>rfl
 | n+1,k+1,l,h=>lookH_reps n k l (by omega)
theorem sp_look (k0:Nat) (h:List Chunk) (i:Nat):lookH (sp k0 h) (k0+i) = lookH h i:=by
 have:=lookH_app h i (List.replicate k0 Chunk.none)
 rwa [List.length_replicate] at this
theorem sp_none {k0:Nat} {h:List Chunk} {k:Nat} (hk:k < k0):lookH (sp k0 h) k = .none:=lookH_reps _ _ _ hk
def RwIn (h h':List Chunk):Prop:=∀ k w n s f,lookH h k = .row w n s f→lookH h' k = .row w n s f
theorem RwIn.refl (h:List Chunk):RwIn h h:=fun _ _ _ _ _ e=>e
theorem sp_left (k0:Nat) (h h':List Chunk):RwIn (sp k0 h) (sp k0 (h++h')):=fun k w n s f e=>by
 have:sp k0 (h++h') = sp k0 h++h':=by simp [sp]
 rw [this]
 exact lookH_old _ _ _ e (by simp)
theorem sp_right {k0 n:Nat} (h h':List Chunk) (hn:h.length = n):RwIn (sp (k0+n) h') (sp k0 (h++h')):=fun k w m s f e=>by
 subst hn
 rcases Nat.lt_or_ge k (k0+h.length) with hk | hk
 ·rw [sp_none hk] at e
  cases e
 ·obtain ⟨i,rfl⟩:∃ i,k = k0+h.length+i:=⟨k - (k0+h.length),by omega⟩
  rw [sp_look] at e
  rw [Nat.add_assoc,sp_look,lookH_app]
  exact e
section
variable {H:Type} {enc:TypeId × Value→H} {P:Program} {W:World}
def Opn {α:Type} (W:World) (Rel:List Chunk→α→SV→Prop) (β:α→Nat) (cs:List Value) (b:Nat):Prop :=
 ∀ k0,∃ (ps:List Place) (h:List Chunk) (x:α) (sv:SV),Lies W k0 ps h∧Rel (sp k0 h) x sv∧ok (k0+h.length) sv∧stor sv∧sz sv = cs.length∧(∀ ρ,At ρ k0 ps→(den ρ sv).cells.toList = cs)∧β x≤b
theorem le_sum_mem {a:Nat}:∀ {l:List Nat},a ∈ l→a≤l.sum
 | [],h=>by simp at h
 | b :: l,h=>by
  rw [List.sum_cons]
  rcases List.mem_cons.1 h with rfl | h
  ·omega
  ·have:=le_sum_mem h
   omega
theorem sum_range_succ (g:Nat→Nat) (n:Nat):((List.range (n+1)).map g).sum = ((List.range n).map g).sum+g n:=by
 rw [List.range_succ,List.map_append,List.sum_append]
 simp
theorem opn_rows {α:Type} {Rel:List Chunk→α→SV→Prop} (hRel:∀ (h h':List Chunk) (x:α) (sv:SV),RwIn h h'→Rel h x sv→Rel h' x sv) {β:α→Nat} {s:Nat} {cs:Nat→List Value} {bd:Nat→Nat} :
  ∀ n,(∀ i,i < n→(cs i).length = s∧Opn W Rel β (cs i) (bd i))→∀ k0,∃ (ps:List Place) (h:List Chunk) (X:List α) (F:Nat→SV),X.length = n∧Lies W k0 ps h∧(∀ i (hi:i < X.length),Rel (sp k0 h) X[i] (F i)) ∧
   (∀ i,i < n→ok (k0+h.length) (F i)∧stor (F i)∧sz (F i) = s)∧(∀ ρ,At ρ k0 ps→∀ i,i < n→(den ρ (F i)).cells.toList = cs i)∧(X.map β).sum≤((List.range n).map bd).sum
 | 0,_,k0=>⟨[],[],[],fun _=>.bool false,rfl,Lies.nil _ _,fun i hi=>absurd hi (Nat.not_lt_zero _),fun i hi=>absurd hi (Nat.not_lt_zero _),fun _ _ i hi=>absurd hi (Nat.not_lt_zero _),by simp⟩
 | n+1,hc,k0=>by
  obtain ⟨ps,h,X,F,hX,hL,hR,hO,hD,hB⟩:=opn_rows hRel n (fun i hi=>hc i (by omega)) k0
  obtain ⟨hl,hn⟩:=hc n (by omega)
  obtain ⟨qs,h',x,sv,hL',hR',hok,hst,hsz,hD',hB'⟩:=hn (k0+h.length)
  refine ⟨ps++qs,h++h',X++[x],fun i=>if i < n then F i else sv,by rw [List.length_append,hX]; rfl,hL.app hL',fun i hi=>?_,fun i hi=>?_,fun ρ hA i hi=>?_,?_⟩
  ·by_cases c:i < n
   ·simp only [if_pos c]
    rw [List.getElem_append_left (by omega)]
    exact hRel _ _ _ _ (sp_left _ _ _) (hR i (by omega))
   ·have e:i = n:=by rw [List.length_append,hX] at hi; simp at hi; omega
    subst e
    simp only [if_neg c]
    rw [List.getElem_append_right (by omega)]
    simp only [hX,Nat.sub_self,List.getElem_cons_zero]
    exact hRel _ _ _ _ (sp_right _ _ rfl) hR'
  ·rw [List.length_append]
   by_cases c:i < n
   ·simp only [if_pos c]
    exact ⟨ok_mono (by omega) _ (hO i c).1,(hO i c).2⟩
   ·simp only [if_neg c]
    exact ⟨ok_mono (by omega) _ hok,hst,by rw [hsz,hl]⟩
  ·by_cases c:i < n
   ·simp only [if_pos c]
    exact hD ρ hA.left i c
   ·have e:i = n:=by omega
    subst e
    simp only [if_neg c]
    exact hD' ρ (hA.right hL.len)
  ·rw [sum_range_succ,List.map_append,List.sum_append]
   simp only [List.map_cons,List.map_nil,List.sum_cons,List.sum_nil]
   omega
def RowR {α:Type} (s:Nat) (Rel:List Chunk→α→SV→Prop) (fix:List α→(Nat→SV)→Nat→SV) (h:List Chunk) (X:List α) (sv:SV):Prop :=
 ∃ k F,sv = .osl k 0 0 s X.length∧lookH h k = .row false X.length s (fix X F)∧∀ i (hi:i < X.length),Rel h X[i] (F i)
theorem RowR.mono {α:Type} {s:Nat} {Rel:List Chunk→α→SV→Prop} (hRel:∀ (h h':List Chunk) (x:α) (sv:SV),RwIn h h'→Rel h x sv→Rel h' x sv) {fix:List α→(Nat→SV)→Nat→SV} {h h':List Chunk} {X:List α} {sv:SV} (hE:RwIn h h') (hR:RowR s Rel fix h X sv):RowR s Rel fix h' X sv:=by
 obtain ⟨k,F,h1,h2,h3⟩:=hR
 exact ⟨k,F,h1,hE _ _ _ _ _ h2,fun i hi=>hRel _ _ _ _ hE (h3 i hi)⟩
theorem opn_slice {α:Type} (bulk:DataW H→Nat) (hbs:∀ (l r:List (DataW H)),(l.map bulk).sum+1≤bulk (.slice l r)) {Rel:List Chunk→α→SV→Prop} (hRel:∀ (h h':List Chunk) (x:α) (sv:SV),RwIn h h'→Rel h x sv→Rel h' x sv) {β:α→Nat} {s:Nat} (hs:0 < s)
  (fix:List α→(Nat→SV)→Nat→SV) (hfix:∀ h X F,(∀ i (hi:i < X.length),Rel h X[i] (F i))→∀ i,i < X.length→fix X F i = F i) {t e:TypeId} (ht:P.underlying t = some (.slice e)) (hc:P.cellsOf e = s) {N fuel:Nat} {cs:List Value} {x:DataW H × List MemPlace}
  (h:DataW.trod enc P W 0 (fun _=>true) true fuel t cs = some x) (hN:bulk x.1≤N)
  (helem:∀ fuel cs y,DataW.trod enc P W 0 (fun _=>true) true fuel e cs = some y→cs.length = s→bulk y.1 < N→Opn W Rel β cs (bulk y.1)):Opn W (RowR s Rel fix) (fun X=>(X.map β).sum) cs (bulk x.1):=by
 have hemp:∀ a:Option Addr,cs = [.slice a 0 0]→Opn W (RowR s Rel fix) (fun X=>(X.map β).sum) cs (bulk x.1):=fun a ha k0=>by
  subst ha
  refine ⟨[⟨0,0,0,true,a⟩],[.row false 0 s (fix [] fun _=>.bool false)],[],.osl k0 0 0 s 0,Lies.one ⟨fun i hi=>absurd hi (Nat.not_lt_zero _),fun i hi=>absurd hi (Nat.not_lt_zero _)⟩ rfl (fun h=>by cases h) (fun ρ hρ=>by simp [Holds,hρ]),⟨k0,fun _=>.bool false,rfl,sp_look k0 _ 0,fun i hi=>absurd hi (Nat.not_lt_zero _)⟩,by simp [ok],by simp [stor],rfl,fun ρ hA=>?_,by simp⟩
  have:=hA 0 _ rfl
  rw [Nat.add_zero] at this
  simp [den,this,Value.cells]
 rcases Go.Deep.open_slice ht h with ⟨hcs,_⟩ | ⟨a,l,c,m,n,D,Pl,rfl,_,hl,hm,hmm,rfl,hcell⟩
 ·exact hemp none hcs
 simp only [if_true] at hmm
 subst hmm
 rcases Nat.eq_zero_or_pos m with rfl | hm0
 ·obtain rfl:l = 0:=by omega
  exact hemp (some a) rfl
 rw [hc] at hcell
 haveI:Inhabited (List Value):=⟨[]⟩
 obtain ⟨CS,hCS⟩:=Go.Deep.choose_lt (α:=List Value) hcell
 obtain ⟨b,o,sp'⟩:=a
 have hcl:∀ i,i < m→(CS i).length = s∧∀ j,j < s→W.cell? ((Addr.add ⟨b,o,sp'⟩ (i * s)).add j) = (CS i)[j]?:=fun i hi=>(World.cells?_some (hCS i hi).1).2
 have hfirst:∃ v,W.cell? (Addr.add (Addr.add ⟨b,o,sp'⟩ (0 * s)) 0) = some v:=by
  obtain ⟨h1,h2⟩:=hcl 0 hm0
  exact ⟨_,(h2 0 hs).trans (List.getElem?_eq_getElem (by omega))⟩
 obtain ⟨v0,hv0⟩:=hfirst
 have hsp:sp' = none:=by simpa [Addr.add] using World.cell?_spot hv0
 subst hsp
 have hlt:b < W.heap.size:=by
  rcases Nat.lt_or_ge b W.heap.size with h' | h'
  ·exact h'
  ·simp [Addr.add,World.cell?,Array.getElem?_eq_none h'] at hv0
 dsimp only at hN ⊢
 have hsum:((List.range l).map fun i=>bulk (D i)).sum+1≤bulk (.slice ((List.range l).map D) ((List.range (m - l)).map fun j=>D (l+j))):=by
  have:=hbs ((List.range l).map D) ((List.range (m - l)).map fun j=>D (l+j))
  rwa [List.map_map] at this
 have hone:∀ i,i < l→bulk (D i) < N:=fun i hi=>by
  have h1:bulk (D i) ∈ (List.range l).map fun i=>bulk (D i):=List.mem_map.2 ⟨i,List.mem_range.2 hi,rfl⟩
  have h2:=le_sum_mem h1
  omega
 intro k0
 obtain ⟨ps,hh,X,F,hX,hL,hR,hO,hD,hB⟩:=opn_rows (W:=W) hRel (β:=β) (s:=s) (cs:=CS) (bd:=fun i=>bulk (D i)) l (fun i hi=>⟨(hcl i (by omega)).1,helem _ _ _ (hCS i (by omega)).2 (hcl i (by omega)).1 (hone i hi)⟩) k0
 have hF:∀ i,i < l→fix X F i = F i:=fun i hi=>hfix _ X F hR i (by omega)
 subst hX
 have hfam:∀ ρ,At ρ k0 ps→(den ρ (.fam X.length s (fix X F))).cells.toList = (List.range X.length).flatMap CS:=fun ρ hA=>by
  rw [cells_fam]
  exact Go.Deep.flatMap_congr_range fun i hi=>by rw [hF i hi,hD ρ hA i hi]
 refine ⟨ps++[⟨b,o,m,false,none⟩],hh++[.row false X.length s (fix X F)],X,.osl (k0+hh.length) 0 0 s X.length,?_,⟨k0+hh.length,F,rfl,?_,fun i hi=>hRel _ _ _ _ (sp_left _ _ _) (hR i hi)⟩,by simp [ok],by simp [stor],rfl,fun ρ hA=>?_,?_⟩
 ·have hL2:Lies W (k0+hh.length) [] []:=Lies.nil _ _
  refine ⟨by rw [List.length_append,List.length_append,hL.len]; rfl,fun c hc=>?_,fun c hc=>?_,fun p hp=>?_,fun ρ hA i c hc=>?_⟩
  ·rw [List.length_append]
   rcases List.mem_append.1 hc with hc | hc
   ·exact good_mono (by omega) (hL.good c hc)
   ·rw [List.mem_singleton.1 hc]
    refine ⟨fun i hi=>?_,fun i hi=>?_⟩
    ·rw [hF i hi]
     exact ⟨(hO i hi).2.2,ok_mono (by omega) _ (hO i hi).1⟩
    ·rw [hF i hi]
     exact (hO i hi).2.1
  ·rcases List.mem_append.1 hc with hc | hc
   ·exact hL.ro c hc
   ·rw [List.mem_singleton.1 hc]; rfl
  ·rcases List.mem_append.1 hp with hp | hp
   ·exact hL.plc p hp
   ·rw [List.mem_singleton.1 hp]; exact fun _=>hlt
  ·rcases Nat.lt_or_ge i hh.length with hi | hi
   ·rw [List.getElem?_append_left hi] at hc
    exact hL.hold ρ hA.left i c hc
   ·rw [List.getElem?_append_right hi] at hc
    obtain rfl:i = hh.length:=by
     have:=(List.getElem?_eq_some_iff.1 hc).1
     simp at this
     omega
    rw [Nat.sub_self] at hc
    cases hc
    have hk:ρ (k0+hh.length) = ⟨b,o,m,false,none⟩:=(hA.right hL.len) 0 _ rfl
    simp only [Holds,hk,Bool.false_eq_true,if_false]
    refine ⟨?_,hl,by simp⟩
    rw [hfam ρ hA.left]
    refine rangeAt_flat (s:=s) X.length fun i hi=>⟨(hcl i (by omega)).1,fun j u hj=>?_⟩
    have hjs:j < s:=by
     have:=(List.getElem?_eq_some_iff.1 hj).1
     rw [(hcl i (by omega)).1] at this
     exact this
    rw [← hj,← (hcl i (by omega)).2 j hjs]
    congr 1
    unfold Addr.add
    (repeat' split) <;> simp_all
 ·rw [sp_look,lookH_app0]
  rfl
 ·have hk:ρ (k0+hh.length) = ⟨b,o,m,false,none⟩:=(hA.right hL.len) 0 _ rfl
  simp [den,hk,Value.cells]
 ·show (X.map β).sum≤_
  omega
end
end Go.Sx
set_option linter.all false
set_option maxRecDepth 40000
namespace Go.Proofs.Ytgocfglmideobaa
open Go Go.Sx
def lhB:=And.intro @lookH_app (And.intro @lookH_app0 (And.intro @lookH_end (And.intro @putH_app0 (And.intro @putH_app @csz_slice'))))
abbrev By:=BitVec 8
inductive Msg where
 | mk (kind frm view seq:Int) (dig:Nat→By) (bundle:List By) (bundles:List (List By)) (proof:List Msg) (prepared:List (Msg × List Msg)) (key:Int) (of:Nat→By)
instance:Inhabited Msg:=⟨.mk 0 0 0 0 (fun _=>0) [] [] [] [] 0 fun _=>0⟩
def Msg.kind:Msg→Int | .mk k _ _ _ _ _ _ _ _ _ _=>k
def Msg.frm:Msg→Int | .mk _ f _ _ _ _ _ _ _ _ _=>f
def Msg.view:Msg→Int | .mk _ _ v _ _ _ _ _ _ _ _=>v
def Msg.seq:Msg→Int | .mk _ _ _ s _ _ _ _ _ _ _=>s
def Msg.dig:Msg→Nat→By | .mk _ _ _ _ d _ _ _ _ _ _=>d
def Msg.bundle:Msg→List By | .mk _ _ _ _ _ b _ _ _ _ _=>b
def Msg.bundles:Msg→List (List By) | .mk _ _ _ _ _ _ b _ _ _ _=>b
def Msg.proof:Msg→List Msg | .mk _ _ _ _ _ _ _ p _ _ _=>p
def Msg.prepared:Msg→List (Msg × List Msg) | .mk _ _ _ _ _ _ _ _ q _ _=>q
def Msg.key:Msg→Int | .mk _ _ _ _ _ _ _ _ _ k _=>k
def Msg.of:Msg→Nat→By | .mk _ _ _ _ _ _ _ _ _ _ o=>o
def rowB (h:List Chunk) (sv:SV) (b:List By):Prop:=∃ k w,sv = .osl k 0 0 1 b.length∧lookH h k = .row w b.length 1 fun i=>.int .u8 (nat (b.getD i 0))
def rowBs (h:List Chunk) (sv:SV) (bs:List (List By)):Prop:=∃ k w f,sv = .osl k 0 0 1 bs.length∧lookH h k = .row w bs.length 1 f∧∀ i,i < bs.length→rowB h (f i) (bs.getD i [])
def dig32 (d:Nat→By):SV:=.fam 32 1 fun i=>.int .u8 (nat (d i))
mutual
def MsgH (h:List Chunk):Msg→List SV→Prop
 | .mk kind frm view seq dig b bs p q key of,l=>∃ sb sbs kp wp fp kq wq fq,
   l = [.int .i64 kind,.int .i64 frm,.int .i64 view,.int .i64 seq,dig32 dig,sb,sbs,.osl kp 0 0 73 p.length,.osl kq 0 0 74 q.length,.int .i64 key,dig32 of]
   ∧ rowB h sb b∧rowBs h sbs bs∧lookH h kp = .row wp p.length 73 (fun i=>.agg (fp i))∧MsgsH h p fp∧lookH h kq = .row wq q.length 74 (fun i=>.agg (fq i))∧PrepsH h q fq
def MsgsH (h:List Chunk):List Msg→(Nat→List SV)→Prop
 | [],_=>True
 | m :: l,f=>MsgH h m (f 0)∧MsgsH h l fun i=>f (i+1)
def PrepsH (h:List Chunk):List (Msg × List Msg)→(Nat→List SV)→Prop
 | [],_=>True
 | (m,l) :: r,f=>(∃ lm kl wl fl,f 0 = lm++[.osl kl 0 0 73 l.length]∧MsgH h m lm∧lookH h kl = .row wl l.length 73 (fun i=>.agg (fl i))∧MsgsH h l fl)∧PrepsH h r fun i=>f (i+1)
end
theorem MsgsH.get {h:List Chunk}:∀ {p:List Msg} {f:Nat→List SV},MsgsH h p f→∀ {i:Nat} (hi:i < p.length),MsgH h p[i] (f i)
 | [],_,_,i,hi=>absurd hi (Nat.not_lt_zero _)
 | m :: l,f,H,0,hi=>by rw [MsgsH] at H; exact H.1
 | m :: l,f,H,i+1,hi=>by rw [MsgsH] at H; exact MsgsH.get H.2 (i:=i) (by simpa using hi)
theorem PrepsH.get {h:List Chunk}:∀ {p:List (Msg × List Msg)} {f:Nat→List SV},PrepsH h p f→∀ {i:Nat} (hi:i < p.length),∃ lm kl wl fl,f i = lm++[.osl kl 0 0 73 p[i].2.length]∧MsgH h p[i].1 lm∧lookH h kl = .row wl p[i].2.length 73 (fun i=>.agg (fl i))∧MsgsH h p[i].2 fl
 | [],_,_,i,hi=>absurd hi (Nat.not_lt_zero _)
 | (m,l) :: r,f,H,0,hi=>by rw [PrepsH] at H; exact H.1
 | (m,l) :: r,f,H,i+1,hi=>by rw [PrepsH] at H; exact PrepsH.get H.2 (i:=i) (by simpa using hi)
theorem rowB.ext {h h':List Chunk} {sv:SV} {b:List By} (H:rowB h sv b) (hE:Ext (fun _=>False) h h'):rowB h' sv b:=by
 obtain ⟨k,w,e,hk⟩:=H
 exact ⟨k,w,e,hE.look hk (by simp) fun h=>h⟩
theorem rowBs.ext {h h':List Chunk} {sv:SV} {b:List (List By)} (H:rowBs h sv b) (hE:Ext (fun _=>False) h h'):rowBs h' sv b:=by
 obtain ⟨k,w,f,e,hk,hb⟩:=H
 exact ⟨k,w,f,e,hE.look hk (by simp) (fun h=>h),fun i hi=>(hb i hi).ext hE⟩
mutual
theorem MsgH.ext {h h':List Chunk} (hE:Ext (fun _=>False) h h'):∀ {m:Msg} {l:List SV},MsgH h m l→MsgH h' m l
 | .mk kind frm view seq dig b bs p q key of,l,H=>by
  rw [MsgH] at H ⊢
  obtain ⟨sb,sbs,kp,wp,fp,kq,wq,fq,e,h1,h2,h3,h4,h5,h6⟩:=H
  exact ⟨sb,sbs,kp,wp,fp,kq,wq,fq,e,h1.ext hE,h2.ext hE,hE.look h3 (by simp) (fun h=>h),MsgsH.ext hE h4,hE.look h5 (by simp) (fun h=>h),PrepsH.ext hE h6⟩
theorem MsgsH.ext {h h':List Chunk} (hE:Ext (fun _=>False) h h'):∀ {p:List Msg} {f:Nat→List SV},MsgsH h p f→MsgsH h' p f
 | [],_,_=>by rw [MsgsH]; trivial
 | m :: l,f,H=>by
  rw [MsgsH] at H ⊢
  exact ⟨MsgH.ext hE H.1,MsgsH.ext hE H.2⟩
theorem PrepsH.ext {h h':List Chunk} (hE:Ext (fun _=>False) h h'):∀ {p:List (Msg × List Msg)} {f:Nat→List SV},PrepsH h p f→PrepsH h' p f
 | [],_,_=>by rw [PrepsH]; trivial
 | (m,l) :: r,f,H=>by
  rw [PrepsH] at H ⊢
  obtain ⟨⟨lm,kl,wl,fl,e,h1,h2,h3⟩,h4⟩:=H
  exact ⟨⟨lm,kl,wl,fl,e,MsgH.ext hE h1,hE.look h2 (by simp) (fun h=>h),MsgsH.ext hE h3⟩,PrepsH.ext hE h4⟩
end
def hView (k:Int):Bool:=k == 2 || k == 3 || k == 4 || k == 6 || k == 7
def hSeq (k:Int):Bool:=k == 2 || k == 3 || k == 4 || k == 5 || k == 6 || k == 8 || k == 9
def hDig (k:Int):Bool:=k == 3 || k == 4 || k == 5
def hBun (k:Int):Bool:=k == 1 || k == 2
def hBuns (k:Int):Bool:=k == 9
def hProof (k:Int):Bool:=k == 6 || k == 7 || k == 9
def kProof (k:Int):Int:=if k = 7 then 6 else 5
def hPrep (k:Int):Bool:=k == 6 || k == 7
def hPreps (k:Int):Bool:=k == 6
def okNum (is:Bool) (n:Int):Bool:=n == 0 || (is && decide (0 < n) && decide (n≤1099511627776))
def okFrom (k f:Int):Bool:=if k = 1 then f == -1 else decide (0≤f) && decide (f≤63)
def zero32 (d:Nat→By):Bool:=(List.range 32).all fun i=>d i == 0
def mayB (b:List By):Int:=if b.length = 0 then 1 else if b.length > 8192 then 2 else 0
def mayBs:List (List By)→Int
 | []=>0
 | b :: l=>if mayB b = 0 then mayBs l else mayB b
def mayBuns (k:Int) (b:List By) (bs:List (List By)):Int :=
 if hBun k = true∧mayB b ≠ 0 then mayB b else
 if (hBun k = false∧0 < b.length) ∨ (hBuns k = false∧0 < bs.length) then 1 else
 if bs.length > 512 then 18 else mayBs bs
def mayHead (k f v s:Int) (d:Nat→By):Bool:=decide (1≤k) && decide (k≤9) && okFrom k f && okNum (hView k) v && okNum (hSeq k) s && (hDig k || zero32 d)
mutual
def may:Msg→Int
 | .mk k f v s d b bs p q key of =>
  if mayHead k f v s d = false then 1 else
  if mayBuns k b bs ≠ 0 then mayBuns k b bs else
  let e2:=if hProof k = false∧0 < p.length then 1 else if p.length > 64 then 18 else mayL (kProof k) p
  if e2 ≠ 0 then e2 else
  let e3:=if hPrep k = false∧0 < q.length then 1 else if q.length > 64 then 18 else mayQ (hPreps k) q
  if e3 ≠ 0 then e3 else
  if k = 1∧(key ≠ 0 ∨ zero32 of = false) then 1 else 0
def mayL (kind:Int):List Msg→Int
 | []=>0
 | m :: l=>if m.kind ≠ kind then 1 else if may m ≠ 0 then may m else mayL kind l
def mayQ (is:Bool):List (Msg × List Msg)→Int
 | []=>0
 | (m,l) :: r =>
  let e1:=if m.kind ≠ 2 then 1 else may m
  if e1 ≠ 0 then e1 else
  let e2:=if is = false∧0 < l.length then 1 else if l.length > 64 then 18 else mayL 3 l
  if e2 ≠ 0 then e2 else mayQ is r
end
end Go.Proofs.Ytgocfglmideobaa
set_option linter.all false
set_option maxRecDepth 40000
namespace Go.Proofs.Ytgocfglmideobaa
open Go Go.Sx
def zzB:=And.intro (And.intro (And.intro (Go.Sx.psB) (Go.Sx.csB)) (And.intro (Go.Sx.wrB) (And.intro (Go.Proofs.Ytgocfglmideobaa.lhB) (Go.Sx.rcB)))) (And.intro (And.intro (@Go.Sx.rnmL.eq_1) (And.intro (@Go.Sx.rnmL.eq_2) (@Go.Sx.nth.eq_1))) (And.intro (@Go.Sx.nth.eq_2) (And.intro (@Go.Sx.nth.eq_3) (Go.Sx.pcB))))
end Go.Proofs.Ytgocfglmideobaa
set_option linter.all false
set_option maxRecDepth 40000
namespace Go.Proofs.Ytgocfglmideobaa
open Go Go.Sx
def leb (n:Nat):List By:=if n < 128 then [BitVec.ofNat 8 n] else BitVec.ofNat 8 (n % 128+128) :: leb (n / 128)
termination_by n
decreasing_by omega
theorem leb_lt {n:Nat} (h:n < 128):leb n = [BitVec.ofNat 8 n]:=by rw [leb,if_pos h]
theorem leb_ge {n:Nat} (h:¬ n < 128):leb n = BitVec.ofNat 8 (n % 128+128) :: leb (n / 128):=by rw [leb,if_neg h]
theorem leb_pos (n:Nat):0 < (leb n).length:=by
 by_cases h:n < 128
 ·rw [leb_lt h]; simp
 ·rw [leb_ge h]; simp
theorem leb_le:∀ (k n:Nat),n < 128 ^ (k+1)→(leb n).length≤k+1
 | 0,n,h=>by rw [leb_lt (by simpa using h)]; simp
 | k+1,n,h=>by
  by_cases h1:n < 128
  ·rw [leb_lt h1]; simp
  ·rw [leb_ge h1,List.length_cons]
   have:=leb_le k (n / 128) (by
    have e:128 ^ (k+1+1) = 128 ^ (k+1) * 128:=rfl
    rw [e] at h
    exact Nat.div_lt_of_lt_mul (by rw [Nat.mul_comm]; exact h))
   omega
theorem leb_64 (n:BitVec 64):(leb n.toNat).length≤10:=leb_le 9 _ (Nat.lt_of_lt_of_le n.isLt (by decide))
def zig (n:Int):Nat:=if 0≤n then (2 * n).toNat else (2 * (-(n+1))+1).toNat
def rng (n:Int):Prop:=-9223372036854775808≤n∧n < 9223372036854775808
mutual
def wfM:Msg→Prop | .mk k f v s d b bs p q key of=>rng k∧rng f∧rng v∧rng s∧rng key∧wfL p∧wfQ q
def wfL:List Msg→Prop
 | []=>True
 | m :: l=>wfM m∧wfL l
def wfQ:List (Msg × List Msg)→Prop
 | []=>True
 | (m,l) :: r=>(wfM m∧wfL l)∧wfQ r
end
theorem wfL.get:∀ {l:List Msg},wfL l→∀ m ∈ l,wfM m
 | [],_,m,hm=>by cases hm
 | a :: l,H,m,hm=>by
  rw [wfL] at H
  exact (List.mem_cons.1 hm).elim (fun e=>e ▸ H.1) (wfL.get H.2 m)
theorem wfQ.get:∀ {q:List (Msg × List Msg)},wfQ q→∀ x ∈ q,wfM x.1∧wfL x.2
 | [],_,x,hx=>by cases hx
 | (a,l) :: r,H,x,hx=>by
  rw [wfQ] at H
  exact (List.mem_cons.1 hx).elim (fun e=>e ▸ H.1) (wfQ.get H.2 x)
def u64n (n:Int):Nat:=(BitVec.ofInt 64 n).toNat
def d32 (d:Nat→By):List By:=(List.range 32).map d
def putB (b:List By):List By:=leb b.length++b
mutual
def body:Msg→List By
 | .mk k f v s d b bs p q key of=>[BitVec.ofInt 8 k]++leb (zig f)++leb (u64n v)++leb (u64n s)++d32 d++putB b++leb bs.length++bs.flatMap putB++leb p.length++encL p++leb q.length++encQ q
def encL:List Msg→List By
 | []=>[]
 | m :: l=>putB (body m++leb (zig m.key)++d32 m.of)++encL l
def encQ:List (Msg × List Msg)→List By
 | []=>[]
 | (m,l) :: r=>putB (body m++leb (zig m.key)++d32 m.of)++leb l.length++encL l++encQ r
end
def enc (m:Msg):List By:=body m++leb (zig m.key)++d32 m.of
end Go.Proofs.Ytgocfglmideobaa
set_option linter.all false
set_option maxRecDepth 40000
namespace Go.Proofs.Ytgocfglmideobaa
open Go Go.Sx
theorem follows_mixed:Try.prog.follows .mixedOrders = true:=by kernel_rfl
def np:Nat→Plan:=fun _=>.nil
theorem lookH_at (l:List Chunk) {h:List Chunk} {k:Nat} (hk:k < h.length):lookH (h++l) k = lookH h k:=by
 induction h generalizing k with
 | nil=>simp at hk
 | cons c h ih =>
  cases k with
  | zero=>rfl
  | succ k=>exact ih (by simpa using hk)
theorem callP_good {P:Pr} {f:FuncId} {args:List SV} {h:List Chunk} {K:Tok→SV→List Chunk→Prop} (hc:(∀ k,(lookH h k).good h.length)→callP P f args h K):callP P f args h K:=fun C ρ w hk hM hok=>hc (look_good hM) C ρ w hk hM hok
theorem intoR_drop {h l:List Chunk} {v:SV} {K:Tok→SV→List Chunk→Prop} (hg:∀ k,(lookH h k).good h.length) (ho:ok h.length v) (hk:K .mk v h):IntoR h.length v (h++l) K :=
 intoR_take h (by simp) rfl (goodH_of_get fun k c hc=>by have:=hg k; rwa [lookH_of_get hc] at this) ho hk
theorem res53:Try.f53.results.toList = [.cell 2 79]:=rfl
theorem res54:Try.f54.results.toList = [.tmp 2]:=rfl
theorem res55:Try.f55.results.toList = [.tmp 4]:=rfl
theorem res103:Try.f103.results.toList = [.tmp 2]:=rfl
def hasS (k:Int):SV:=.agg [.bool (hView k),.bool (hSeq k),.bool (hDig k),.bool (hBun k),.bool (hBuns k),.bool (hProof k),.bool (hPrep k),.bool (hPreps k),.int .i64 (if k = 7 then 6 else if k = 6 ∨ k = 9 then 5 else 0)]
theorem c53 (k:Int) (h:List Chunk) (K:Tok→SV→List Chunk→Prop) (hK:K .mk (hasS k) h):callP Try.prog 53 [.int .i64 k] h K:=by
 refine callP_good fun hgood=>?_
 refine callP_of_code tabOk Try.func53 (by kernel_rfl) rfl (Nat.le_of_ble_eq_true rfl) (codeP_of_vc (pl:=np) tabOk follows_mixed (by kernel_rfl) ?_)
 rw [Try.ntmps53]
 by_cases h1:k = 1
 ·subst h1
  have z1:((1:Int) == 1) = true:=rfl
  simp -implicitDefEqProofs (maxSteps:=1000000) (disch:=omega) only [↓zzP,zzA,zzB,Nat.reduceSub,reduceIte,reduceCtorEq,Nat.reduceLT,↓reduceIte,Nat.reduceEqDiff,Nat.reduceLeDiff,Nat.reduceAdd,↓gd,↓opP,↓qv,↓ef,↓stS,slot,putS,putO,ofV,rdF,Ent.row,ldS,sz,wrF,plT,bldS,binH,binS2,binS,tupS,stor,res53,z1]
  repeat (refine ⟨by omega,?_⟩)
  exact intoR_drop hgood (by simp [hasS,ok,okL]) hK
 by_cases h2:k = 2
 ·subst h2
  have z1:((2:Int) == 1) = false:=rfl
  have z2:((2:Int) == 2) = true:=rfl
  simp -implicitDefEqProofs (maxSteps:=1000000) (disch:=omega) only [↓zzP,zzA,zzB,Nat.reduceSub,reduceIte,reduceCtorEq,Nat.reduceLT,↓reduceIte,Nat.reduceEqDiff,Nat.reduceLeDiff,Nat.reduceAdd,↓gd,↓opP,↓qv,↓ef,↓stS,slot,putS,putO,ofV,rdF,Ent.row,ldS,sz,wrF,plT,bldS,binH,binS2,binS,tupS,stor,res53,z1,z2]
  repeat (refine ⟨by omega,?_⟩)
  exact intoR_drop hgood (by simp [hasS,ok,okL]) hK
 by_cases h3:k = 3
 ·subst h3
  have z1:((3:Int) == 1) = false:=rfl
  have z2:((3:Int) == 2) = false:=rfl
  have z3:((3:Int) == 3) = true:=rfl
  simp -implicitDefEqProofs (maxSteps:=1000000) (disch:=omega) only [↓zzP,zzA,zzB,Nat.reduceSub,reduceIte,reduceCtorEq,Nat.reduceLT,↓reduceIte,Nat.reduceEqDiff,Nat.reduceLeDiff,Nat.reduceAdd,↓gd,↓opP,↓qv,↓ef,↓stS,slot,putS,putO,ofV,rdF,Ent.row,ldS,sz,wrF,plT,bldS,binH,binS2,binS,tupS,stor,res53,z1,z2,z3]
  repeat (refine ⟨by omega,?_⟩)
  exact intoR_drop hgood (by simp [hasS,ok,okL]) hK
 by_cases h4:k = 4
 ·subst h4
  have z1:((4:Int) == 1) = false:=rfl
  have z2:((4:Int) == 2) = false:=rfl
  have z3:((4:Int) == 3) = false:=rfl
  have z4:((4:Int) == 4) = true:=rfl
  simp -implicitDefEqProofs (maxSteps:=1000000) (disch:=omega) only [↓zzP,zzA,zzB,Nat.reduceSub,reduceIte,reduceCtorEq,Nat.reduceLT,↓reduceIte,Nat.reduceEqDiff,Nat.reduceLeDiff,Nat.reduceAdd,↓gd,↓opP,↓qv,↓ef,↓stS,slot,putS,putO,ofV,rdF,Ent.row,ldS,sz,wrF,plT,bldS,binH,binS2,binS,tupS,stor,res53,z1,z2,z3,z4]
  repeat (refine ⟨by omega,?_⟩)
  exact intoR_drop hgood (by simp [hasS,ok,okL]) hK
 by_cases h5:k = 5
 ·subst h5
  have z1:((5:Int) == 1) = false:=rfl
  have z2:((5:Int) == 2) = false:=rfl
  have z3:((5:Int) == 3) = false:=rfl
  have z4:((5:Int) == 4) = false:=rfl
  have z5:((5:Int) == 5) = true:=rfl
  simp -implicitDefEqProofs (maxSteps:=1000000) (disch:=omega) only [↓zzP,zzA,zzB,Nat.reduceSub,reduceIte,reduceCtorEq,Nat.reduceLT,↓reduceIte,Nat.reduceEqDiff,Nat.reduceLeDiff,Nat.reduceAdd,↓gd,↓opP,↓qv,↓ef,↓stS,slot,putS,putO,ofV,rdF,Ent.row,ldS,sz,wrF,plT,bldS,binH,binS2,binS,tupS,stor,res53,z1,z2,z3,z4,z5]
  repeat (refine ⟨by omega,?_⟩)
  exact intoR_drop hgood (by simp [hasS,ok,okL]) hK
 by_cases h6:k = 6
 ·subst h6
  have z1:((6:Int) == 1) = false:=rfl
  have z2:((6:Int) == 2) = false:=rfl
  have z3:((6:Int) == 3) = false:=rfl
  have z4:((6:Int) == 4) = false:=rfl
  have z5:((6:Int) == 5) = false:=rfl
  have z6:((6:Int) == 6) = true:=rfl
  simp -implicitDefEqProofs (maxSteps:=1000000) (disch:=omega) only [↓zzP,zzA,zzB,Nat.reduceSub,reduceIte,reduceCtorEq,Nat.reduceLT,↓reduceIte,Nat.reduceEqDiff,Nat.reduceLeDiff,Nat.reduceAdd,↓gd,↓opP,↓qv,↓ef,↓stS,slot,putS,putO,ofV,rdF,Ent.row,ldS,sz,wrF,plT,bldS,binH,binS2,binS,tupS,stor,res53,z1,z2,z3,z4,z5,z6]
  repeat (refine ⟨by omega,?_⟩)
  exact intoR_drop hgood (by simp [hasS,ok,okL]) hK
 by_cases h7:k = 7
 ·subst h7
  have z1:((7:Int) == 1) = false:=rfl
  have z2:((7:Int) == 2) = false:=rfl
  have z3:((7:Int) == 3) = false:=rfl
  have z4:((7:Int) == 4) = false:=rfl
  have z5:((7:Int) == 5) = false:=rfl
  have z6:((7:Int) == 6) = false:=rfl
  have z7:((7:Int) == 7) = true:=rfl
  simp -implicitDefEqProofs (maxSteps:=1000000) (disch:=omega) only [↓zzP,zzA,zzB,Nat.reduceSub,reduceIte,reduceCtorEq,Nat.reduceLT,↓reduceIte,Nat.reduceEqDiff,Nat.reduceLeDiff,Nat.reduceAdd,↓gd,↓opP,↓qv,↓ef,↓stS,slot,putS,putO,ofV,rdF,Ent.row,ldS,sz,wrF,plT,bldS,binH,binS2,binS,tupS,stor,res53,z1,z2,z3,z4,z5,z6,z7]
  repeat (refine ⟨by omega,?_⟩)
  exact intoR_drop hgood (by simp [hasS,ok,okL]) hK
 by_cases h8:k = 8
 ·subst h8
  have z1:((8:Int) == 1) = false:=rfl
  have z2:((8:Int) == 2) = false:=rfl
  have z3:((8:Int) == 3) = false:=rfl
  have z4:((8:Int) == 4) = false:=rfl
  have z5:((8:Int) == 5) = false:=rfl
  have z6:((8:Int) == 6) = false:=rfl
  have z7:((8:Int) == 7) = false:=rfl
  have z8:((8:Int) == 8) = true:=rfl
  simp -implicitDefEqProofs (maxSteps:=1000000) (disch:=omega) only [↓zzP,zzA,zzB,Nat.reduceSub,reduceIte,reduceCtorEq,Nat.reduceLT,↓reduceIte,Nat.reduceEqDiff,Nat.reduceLeDiff,Nat.reduceAdd,↓gd,↓opP,↓qv,↓ef,↓stS,slot,putS,putO,ofV,rdF,Ent.row,ldS,sz,wrF,plT,bldS,binH,binS2,binS,tupS,stor,res53,z1,z2,z3,z4,z5,z6,z7,z8]
  repeat (refine ⟨by omega,?_⟩)
  exact intoR_drop hgood (by simp [hasS,ok,okL]) hK
 by_cases h9:k = 9
 ·subst h9
  have z1:((9:Int) == 1) = false:=rfl
  have z2:((9:Int) == 2) = false:=rfl
  have z3:((9:Int) == 3) = false:=rfl
  have z4:((9:Int) == 4) = false:=rfl
  have z5:((9:Int) == 5) = false:=rfl
  have z6:((9:Int) == 6) = false:=rfl
  have z7:((9:Int) == 7) = false:=rfl
  have z8:((9:Int) == 8) = false:=rfl
  have z9:((9:Int) == 9) = true:=rfl
  simp -implicitDefEqProofs (maxSteps:=1000000) (disch:=omega) only [↓zzP,zzA,zzB,Nat.reduceSub,reduceIte,reduceCtorEq,Nat.reduceLT,↓reduceIte,Nat.reduceEqDiff,Nat.reduceLeDiff,Nat.reduceAdd,↓gd,↓opP,↓qv,↓ef,↓stS,slot,putS,putO,ofV,rdF,Ent.row,ldS,sz,wrF,plT,bldS,binH,binS2,binS,tupS,stor,res53,z1,z2,z3,z4,z5,z6,z7,z8,z9]
  repeat (refine ⟨by omega,?_⟩)
  exact intoR_drop hgood (by simp [hasS,ok,okL]) hK
 have hs:hasS k = .agg [.bool false,.bool false,.bool false,.bool false,.bool false,.bool false,.bool false,.bool false,.int .i64 0]:=by
  simp [hasS,hView,hSeq,hDig,hBun,hBuns,hProof,hPrep,hPreps,h1,h2,h3,h4,h5,h6,h7,h8,h9]
 rw [hs] at hK
 have z1:(k == 1) = false:=beq_eq_false_iff_ne.2 h1
 have z2:(k == 2) = false:=beq_eq_false_iff_ne.2 h2
 have z3:(k == 3) = false:=beq_eq_false_iff_ne.2 h3
 have z4:(k == 4) = false:=beq_eq_false_iff_ne.2 h4
 have z5:(k == 5) = false:=beq_eq_false_iff_ne.2 h5
 have z6:(k == 6) = false:=beq_eq_false_iff_ne.2 h6
 have z7:(k == 7) = false:=beq_eq_false_iff_ne.2 h7
 have z8:(k == 8) = false:=beq_eq_false_iff_ne.2 h8
 have z9:(k == 9) = false:=beq_eq_false_iff_ne.2 h9
 simp -implicitDefEqProofs (maxSteps:=1000000) (disch:=omega) only [↓zzP,zzA,zzB,Nat.reduceSub,reduceIte,reduceCtorEq,Nat.reduceLT,↓reduceIte,Nat.reduceEqDiff,Nat.reduceLeDiff,Nat.reduceAdd,↓gd,↓opP,↓qv,↓ef,↓stS,slot,putS,putO,ofV,asRow,rdF,Ent.row,ldS,sz,wrF,bldS,binH,binS2,binS,tupS,stor,res53,z1,z2,z3,z4,z5,z6,z7,z8,z9]
 repeat (refine ⟨by omega,?_⟩)
 exact intoR_drop hgood (by simp [ok,okL]) hK
theorem c54 (m:Msg) (l:List SV) (h:List Chunk) (hm:MsgH h m l) (K:Tok→SV→List Chunk→Prop) (hK:K .mk (.bool (okFrom m.kind m.frm)) h):callP Try.prog 54 [.agg l] h K:=by
 obtain ⟨k,f,v,s,d,b,bs,p,q,key,of⟩:=m
 rw [MsgH] at hm
 obtain ⟨sb,sbs,kp,wp,fp,kq,wq,fq,rfl,h1,h2,h3,h4,h5,h6⟩:=hm
 replace hK:K .mk (.bool (okFrom k f)) h:=hK
 unfold okFrom at hK
 obtain ⟨kb,wb,rfl,_⟩:=h1
 obtain ⟨kbs,wbs,fb,rfl,_,_⟩:=h2
 unfold dig32
 refine callP_good fun hgood=>?_
 refine callP_of_code tabOk Try.func54 (by kernel_rfl) rfl (Nat.le_of_ble_eq_true rfl) (codeP_of_vc (pl:=np) tabOk follows_mixed (by kernel_rfl) ?_)
 rw [Try.ntmps54]
 by_cases z:k = 1
 ·have z1:(k == 1) = true:=beq_iff_eq.2 z
  rw [if_pos z] at hK
  simp -implicitDefEqProofs (maxSteps:=1000000) (disch:=omega) only [↓zzP,zzA,zzL,zzB,reduceIte,reduceCtorEq,Nat.reduceLT,↓reduceIte,Nat.reduceEqDiff,Nat.reduceLeDiff,Int.reduceNeg,↓gd,↓opP,↓qv,↓ef,slot,putS,putO,ofV,fldA,rdF,Ent.row,ldS,sz,binH,binS2,binS,tupS,stor,res54,z1]
  repeat (refine ⟨by omega,?_⟩)
  exact intoR_drop hgood trivial hK
 ·have z1:(k == 1) = false:=beq_eq_false_iff_ne.2 z
  rw [if_neg z] at hK
  cases z2:decide (f ≥ 0) with
  | true =>
   have e:decide (0≤f) = true:=z2
   rw [e,Bool.true_and] at hK
   simp -implicitDefEqProofs (maxSteps:=1000000) (disch:=omega) only [↓zzP,zzA,zzL,zzB,reduceIte,reduceCtorEq,Nat.reduceLT,↓reduceIte,Nat.reduceEqDiff,Nat.reduceLeDiff,Array.reduceGetElem?,↓gd,↓opP,↓qv,↓ef,slot,putS,putO,ofV,fldA,rdF,Ent.row,ldS,sz,binH,binS2,binS,tupS,stor,res54,z1,z2]
   repeat (refine ⟨by omega,?_⟩)
   exact intoR_drop hgood trivial hK
  | false =>
   have e:decide (0≤f) = false:=z2
   rw [e,Bool.false_and] at hK
   simp -implicitDefEqProofs (maxSteps:=1000000) (disch:=omega) only [↓zzP,zzA,zzL,zzB,reduceIte,reduceCtorEq,Nat.reduceLT,↓reduceIte,Nat.reduceEqDiff,Nat.reduceLeDiff,Array.reduceGetElem?,↓gd,↓opP,↓qv,↓ef,slot,putS,putO,ofV,fldA,rdF,Ent.row,ldS,sz,binH,binS2,binS,tupS,stor,res54,z1,z2]
   repeat (refine ⟨by omega,?_⟩)
   exact intoR_drop hgood trivial hK
theorem c55 (is:Bool) (n:Int) (h:List Chunk) (K:Tok→SV→List Chunk→Prop) (hK:K .mk (.bool (okNum is n)) h):callP Try.prog 55 [.bool is,.int .i64 n] h K:=by
 unfold okNum at hK
 refine callP_of_code tabOk Try.func55 (by kernel_rfl) rfl (Nat.le_of_ble_eq_true rfl) (codeP_of_vc (pl:=np) tabOk follows_mixed (by kernel_rfl) ?_)
 rw [Try.ntmps55]
 cases z1:(n == 0) with
 | true =>
  rw [z1,Bool.true_or] at hK
  simp -implicitDefEqProofs (maxSteps:=1000000) (disch:=omega) only [↓zzP,zzA,reduceIte,reduceCtorEq,Nat.reduceLT,↓reduceIte,Nat.reduceEqDiff,Nat.reduceAdd,Array.reduceGetElem?,↓gd,↓opP,↓qv,slot,putS,putO,ofV,binH,binS2,binS,tupS,res55,z1]
  repeat (refine ⟨by omega,?_⟩)
  exact intoR_refl (Nat.le_refl _) hK
 | false =>
  rw [z1,Bool.false_or] at hK
  cases is with
  | false =>
   simp only [Bool.false_and] at hK
   simp -implicitDefEqProofs (maxSteps:=1000000) (disch:=omega) only [↓zzP,zzA,zzL,reduceIte,reduceCtorEq,Nat.reduceLT,↓reduceIte,Nat.reduceEqDiff,Nat.reduceAdd,Array.reduceGetElem?,↓gd,↓opP,↓qv,slot,putS,putO,ofV,binH,binS2,binS,tupS,res55,z1]
   repeat (refine ⟨by omega,?_⟩)
   exact intoR_refl (Nat.le_refl _) hK
  | true =>
   cases z2:decide (n > 0) with
   | false =>
    have e:decide (0 < n) = false:=z2
    simp only [Bool.true_and,e,Bool.false_and] at hK
    simp -implicitDefEqProofs (maxSteps:=1000000) (disch:=omega) only [↓zzP,zzA,zzL,reduceIte,reduceCtorEq,Nat.reduceLT,↓reduceIte,Nat.reduceEqDiff,Nat.reduceAdd,Array.reduceGetElem?,↓gd,↓opP,↓qv,slot,putS,putO,ofV,binH,binS2,binS,tupS,res55,z1,z2]
    repeat (refine ⟨by omega,?_⟩)
    exact intoR_refl (Nat.le_refl _) hK
   | true =>
    have e:decide (0 < n) = true:=z2
    simp only [Bool.true_and,e] at hK
    simp -implicitDefEqProofs (maxSteps:=1000000) (disch:=omega) only [↓zzP,zzA,zzL,reduceIte,reduceCtorEq,Nat.reduceLT,↓reduceIte,Nat.reduceEqDiff,Nat.reduceAdd,Array.reduceGetElem?,↓gd,↓opP,↓qv,slot,putS,putO,ofV,binH,binS2,binS,tupS,res55,z1,z2]
    repeat (refine ⟨by omega,?_⟩)
    exact intoR_refl (Nat.le_refl _) hK
theorem c103 (b:List By) (sv:SV) (h:List Chunk) (hb:rowB h sv b) (K:Tok→SV→List Chunk→Prop) (hK:K .mk (.int .i64 (mayB b)) h):callP Try.prog 103 [sv] h K:=by
 obtain ⟨k,w,rfl,hk⟩:=hb
 unfold mayB at hK
 refine callP_of_code tabOk Try.func103 (by kernel_rfl) rfl (Nat.le_of_ble_eq_true rfl) (codeP_of_vc (pl:=np) tabOk follows_mixed (by kernel_rfl) ?_)
 rw [Try.ntmps103]
 by_cases h0:b.length = 0
 ·have z1:(((b.length:Nat):Int) == 0) = true:=by rw [h0]; rfl
  rw [if_pos h0] at hK
  simp -implicitDefEqProofs (maxSteps:=1000000) (disch:=omega) only [↓zzP,zzA,reduceIte,reduceCtorEq,Nat.reduceLT,↓reduceIte,↓gd,↓opP,↓qv,slot,putS,putO,ofV,lenS,binH,binS2,binS,tupS,res103,z1]
  repeat (refine ⟨by omega,?_⟩)
  exact intoR_refl (Nat.le_refl _) hK
 ·have z1:(((b.length:Nat):Int) == 0) = false:=beq_eq_false_iff_ne.2 (by omega)
  rw [if_neg h0] at hK
  by_cases h2:b.length > 8192
  ·have z2:decide (((b.length:Nat):Int) > 8192) = true:=decide_eq_true (by omega)
   rw [if_pos h2] at hK
   simp -implicitDefEqProofs (maxSteps:=1000000) (disch:=omega) only [↓zzP,zzA,reduceIte,reduceCtorEq,Nat.reduceLT,↓reduceIte,↓gd,↓opP,↓qv,slot,putS,putO,ofV,lenS,binH,binS2,binS,tupS,res103,z1,z2]
   repeat (refine ⟨by omega,?_⟩)
   exact intoR_refl (Nat.le_refl _) hK
  ·have z2:decide (((b.length:Nat):Int) > 8192) = false:=decide_eq_false (by omega)
   rw [if_neg h2] at hK
   simp -implicitDefEqProofs (maxSteps:=1000000) (disch:=omega) only [↓zzP,zzA,reduceIte,reduceCtorEq,Nat.reduceLT,↓reduceIte,↓gd,↓opP,↓qv,slot,putS,putO,ofV,lenS,binH,binS2,binS,tupS,res103,z1,z2]
   repeat (refine ⟨by omega,?_⟩)
   exact intoR_refl (Nat.le_refl _) hK
end Go.Proofs.Ytgocfglmideobaa
set_option linter.all false
set_option maxRecDepth 40000
namespace Go.Proofs.Ytgocfglmideobaa
open Go Go.Sx
theorem res56:Try.f56.results.toList = [.tmp 4]:=rfl
theorem mayBs_drop (bs:List (List By)) {i:Nat} (hi:i < bs.length):mayBs (bs.drop i) = if mayB (bs.getD i []) = 0 then mayBs (bs.drop (i+1)) else mayB (bs.getD i []):=by
 rw [List.drop_eq_getElem_cons hi,mayBs,List.getD_eq_getElem?_getD,List.getElem?_eq_getElem hi]
 rfl
set_option maxHeartbeats 4000000 in
theorem c56 (k f v s:Int) (d:Nat→By) (b:List By) (bs:List (List By)) (p:List Msg) (q:List (Msg × List Msg)) (key:Int) (of:Nat→By) (l:List SV) (h:List Chunk) (hm:MsgH h (.mk k f v s d b bs p q key of) l) (K:Tok→SV→List Chunk→Prop) (hK:K .mk (.int .i64 (mayBuns k b bs)) h):callP Try.prog 56 [.agg l,hasS k] h K:=by
 rw [MsgH] at hm
 obtain ⟨sb,sbs,kp,wp,fp,kq,wq,fq,rfl,h1,h2,h3,h4,h5,h6⟩:=hm
 have h1':=h1
 obtain ⟨kb,wb,rfl,hkb⟩:=h1'
 obtain ⟨kbs,wbs,fb,rfl,hkbs,hfb⟩:=h2
 unfold dig32
 refine callP_good fun hgood=>?_
 refine callP_of_code tabOk Try.func56 (by kernel_rfl) rfl (Nat.le_of_ble_eq_true rfl) ?_
 rw [Try.ntmps56]
 unfold hasS
 refine codeP_seq (pl:=np) tabOk follows_mixed (by kernel_rfl) (fun st=>∃ (H1 x:List Chunk) (j:Nat→Value),H1 = h++x∧lookH H1 h.length = (.cells true [.int .i64 k,.int .i64 f,.int .i64 v,.int .i64 s,.fam 32 1 fun i=>.int .u8 (nat (d i)),.osl kb 0 0 1 b.length,.osl kbs 0 0 1 bs.length,.osl kp 0 0 73 p.length,.osl kq 0 0 74 q.length,.int .i64 key,.fam 32 1 fun i=>.int .u8 (nat (of i))])∧lookH H1 (h.length+1) = (.cells true [.bool (hView k),.bool (hSeq k),.bool (hDig k),.bool (hBun k),.bool (hBuns k),.bool (hProof k),.bool (hPrep k),.bool (hPreps k),.int .i64 (if k = 7 then 6 else if k = 6 ∨ k = 9 then 5 else 0)])∧st = ⟨⟨54,[(2,.ptr h.length 0),(3,.ptr (h.length+1) 0),(4,.int .i64 0)],j⟩,H1,[]⟩) ?_ ?_
 ·simp -implicitDefEqProofs (maxSteps:=1000000) (disch:=omega) only [↓zzP,zzA,zzL,zzB,reduceIte,reduceCtorEq,Nat.reduceLT,↓reduceIte,Nat.reduceEqDiff,Nat.reduceAdd,↓gd,↓opP,↓qv,↓ef,slot,putS,putO,ofV,stor]
  repeat (refine ⟨by omega,?_⟩)
  refine into_keep [(2,.ptr h.length 0),(3,.ptr (h.length+1) 0),(4,.int .i64 0)] (by simp [sameT,slot,lkL]) fun j=>⟨_,_,j,rfl,lookH_app _ 0 _,lookH_app _ 1 _,rfl⟩
 ·rintro _ ⟨H1,x,j,hH1,hx,hy,rfl⟩
  have hE:Ext (fun _=>False) h H1:=by rw [hH1]; exact (Ext.refl _ _).app _
  have hkbs1:=hE.look hkbs (by simp) fun h=>h
  have drop:∀ e,mayBuns k b bs = e→IntoR h.length (.int .i64 e) H1 K:=fun e he=>by
   rw [he] at hK
   rw [hH1]
   exact intoR_drop hgood trivial hK
  obtain ⟨NB,hNB⟩:∃ NB:Prop,NB ↔ ¬ (hBun k = true∧mayB b ≠ 0):=⟨_,Iff.rfl⟩
  obtain ⟨NC,hNC⟩:∃ NC:Prop,NC ↔ ¬ ((hBun k = false∧0 < b.length) ∨ (hBuns k = false∧0 < bs.length)):=⟨_,Iff.rfl⟩
  refine codeP_seq (pl:=np) tabOk follows_mixed (by kernel_rfl) (fun st=>∃ (j:Nat→Value),NB∧st = ⟨⟨54,[(2,.ptr h.length 0),(3,.ptr (h.length+1) 0),(4,.int .i64 0)],j⟩,H1,[]⟩) ?_ ?_
  ·cases z1:hBun k with
   | true =>
    simp -implicitDefEqProofs (maxSteps:=1000000) (disch:=omega) only [↓zzP,zzA,zzL,zzB,Nat.reduceSub,reduceIte,reduceCtorEq,Nat.reduceLT,↓reduceIte,Nat.reduceEqDiff,Nat.reduceLeDiff,↓gd,↓opP,↓qv,slot,putS,putO,fldA,rdF,Ent.row,ldS,sz,tupS,res56,hx,hy,z1]
    repeat (refine ⟨by omega,?_⟩)
    refine c103 b _ H1 (h1.ext hE) _ ?_
    by_cases e:mayB b = 0
    ·have z2:(mayB b != 0) = false:=by rw [e]; rfl
     simp -implicitDefEqProofs (maxSteps:=1000000) (disch:=omega) only [↓zzP,zzA,reduceIte,Nat.reduceLT,↓reduceIte,↓gd,↓opP,↓qv,slot,putS,putO,ofV,binH,binS2,binS,z2]
     repeat (refine ⟨by omega,?_⟩)
     refine into_keep [(2,.ptr h.length 0),(3,.ptr (h.length+1) 0),(4,.int .i64 0)] (by simp [sameT,slot,lkL]) fun j=>⟨j,hNB.2 fun h=>h.2 e,rfl⟩
    ·have z2:(mayB b != 0) = true:=bne_iff_ne.2 e
     simp -implicitDefEqProofs (maxSteps:=1000000) (disch:=omega) only [↓zzP,zzA,reduceIte,reduceCtorEq,Nat.reduceLT,↓reduceIte,Nat.reduceEqDiff,↓gd,↓opP,↓qv,slot,putS,putO,ofV,binH,binS2,binS,z2]
     repeat (refine ⟨by omega,?_⟩)
     exact drop _ (by unfold mayBuns; rw [if_pos ⟨z1,e⟩])
   | false =>
    simp -implicitDefEqProofs (maxSteps:=1000000) (disch:=omega) only [↓zzP,zzA,zzL,zzB,Nat.reduceSub,reduceIte,reduceCtorEq,Nat.reduceLT,↓reduceIte,Nat.reduceEqDiff,Nat.reduceLeDiff,↓gd,↓opP,↓qv,slot,putS,putO,fldA,rdF,Ent.row,ldS,sz,hy,z1]
    repeat (refine ⟨by omega,?_⟩)
    refine into_keep [(2,.ptr h.length 0),(3,.ptr (h.length+1) 0),(4,.int .i64 0)] (by simp [sameT,slot,lkL]) fun j=>⟨j,hNB.2 (fun h=>by rw [z1] at h; cases h.1),rfl⟩
  ·rintro _ ⟨j1,hb0,rfl⟩
   have nb0:=hNB.1 hb0
   refine codeP_seq (pl:=np) tabOk follows_mixed (by kernel_rfl) (fun st=>∃ (j:Nat→Value),NC∧bs.length≤512∧st = ⟨⟨54,[(2,.ptr h.length 0),(3,.ptr (h.length+1) 0),(4,.int .i64 0)],j⟩,H1,[]⟩) ?_ ?_
   ·by_cases c1:hBun k = false∧0 < b.length
    ·have z3:decide (((b.length:Nat):Int) > 0) = true:=decide_eq_true (by omega)
     have z1:=c1.1
     simp -implicitDefEqProofs (maxSteps:=1000000) (disch:=omega) only [↓zzP,zzA,zzL,zzB,Nat.reduceSub,reduceIte,reduceCtorEq,Nat.reduceLT,↓reduceIte,Nat.reduceEqDiff,Nat.reduceLeDiff,Array.reduceGetElem?,↓gd,↓opP,↓qv,slot,putS,putO,ofV,fldA,unS,lenS,rdF,Ent.row,ldS,sz,binH,binS2,binS,tupS,res56,hx,hy,z1,z3]
     repeat (refine ⟨by omega,?_⟩)
     exact drop _ (by unfold mayBuns; rw [if_neg nb0,if_pos (.inl c1)])
    ·have hc5:∀ {P:Prop},(hBun k = true→P)→(hBun k = false→decide (((b.length:Nat):Int) > 0) = false→P)→P:=fun a c=>by
      cases z:hBun k with
      | true=>exact a z
      | false=>exact c z (decide_eq_false (fun h=>c1 ⟨z,by omega⟩))
     by_cases c2:hBuns k = false∧0 < bs.length
     ·have z5:decide (((bs.length:Nat):Int) > 0) = true:=decide_eq_true (by omega)
      have z4:=c2.1
      refine hc5 (fun z1=>?_) fun z1 z3=>?_
      ·simp -implicitDefEqProofs (maxSteps:=1000000) (disch:=omega) only [↓zzP,zzA,zzL,zzB,Nat.reduceSub,reduceIte,reduceCtorEq,Nat.reduceLT,↓reduceIte,Nat.reduceEqDiff,Nat.reduceLeDiff,Array.reduceGetElem?,↓gd,↓opP,↓qv,slot,putS,putO,ofV,fldA,unS,lenS,rdF,Ent.row,ldS,sz,binH,binS2,binS,tupS,res56,hx,hy,z1,z4,z5]
       repeat (refine ⟨by omega,?_⟩)
       exact drop _ (by unfold mayBuns; rw [if_neg nb0,if_pos (.inr c2)])
      ·simp -implicitDefEqProofs (maxSteps:=1000000) (disch:=omega) only [↓zzP,zzA,zzL,zzB,Nat.reduceSub,reduceIte,reduceCtorEq,Nat.reduceLT,↓reduceIte,Nat.reduceEqDiff,Nat.reduceLeDiff,Array.reduceGetElem?,↓gd,↓opP,↓qv,slot,putS,putO,ofV,fldA,unS,lenS,rdF,Ent.row,ldS,sz,binH,binS2,binS,tupS,res56,hx,hy,z1,z3,z4,z5]
       repeat (refine ⟨by omega,?_⟩)
       exact drop _ (by unfold mayBuns; rw [if_neg nb0,if_pos (.inr c2)])
     ·have nc:¬ ((hBun k = false∧0 < b.length) ∨ (hBuns k = false∧0 < bs.length)):=fun h=>h.elim c1 c2
      have hc6:∀ {P:Prop},(hBuns k = true→P)→(hBuns k = false→decide (((bs.length:Nat):Int) > 0) = false→P)→P:=fun a c=>by
       cases z:hBuns k with
       | true=>exact a z
       | false=>exact c z (decide_eq_false (fun h=>c2 ⟨z,by omega⟩))
      by_cases c3:bs.length > 512
      ·have z6:decide (((bs.length:Nat):Int) > 512) = true:=decide_eq_true (by omega)
       have hd:=drop 18 (by unfold mayBuns; rw [if_neg nb0,if_neg nc,if_pos c3])
       refine hc5 (fun z1=>?_) fun z1 z3=>?_
       ·refine hc6 (fun z4=>?_) fun z4 z5=>?_
        ·simp -implicitDefEqProofs (maxSteps:=1000000) (disch:=omega) only [↓zzP,zzA,zzL,zzB,Nat.reduceSub,reduceIte,reduceCtorEq,Nat.reduceLT,↓reduceIte,Nat.reduceEqDiff,Nat.reduceLeDiff,Array.reduceGetElem?,↓gd,↓opP,↓qv,slot,putS,putO,ofV,fldA,unS,lenS,rdF,Ent.row,ldS,sz,binH,binS2,binS,tupS,res56,hx,hy,z1,z4,z6]
         repeat (refine ⟨by omega,?_⟩)
         exact hd
        ·simp -implicitDefEqProofs (maxSteps:=1000000) (disch:=omega) only [↓zzP,zzA,zzL,zzB,Nat.reduceSub,reduceIte,reduceCtorEq,Nat.reduceLT,↓reduceIte,Nat.reduceEqDiff,Nat.reduceLeDiff,Array.reduceGetElem?,↓gd,↓opP,↓qv,slot,putS,putO,ofV,fldA,unS,lenS,rdF,Ent.row,ldS,sz,binH,binS2,binS,tupS,res56,hx,hy,z1,z4,z5,z6]
         repeat (refine ⟨by omega,?_⟩)
         exact hd
       ·refine hc6 (fun z4=>?_) fun z4 z5=>?_
        ·simp -implicitDefEqProofs (maxSteps:=1000000) (disch:=omega) only [↓zzP,zzA,zzL,zzB,Nat.reduceSub,reduceIte,reduceCtorEq,Nat.reduceLT,↓reduceIte,Nat.reduceEqDiff,Nat.reduceLeDiff,Array.reduceGetElem?,↓gd,↓opP,↓qv,slot,putS,putO,ofV,fldA,unS,lenS,rdF,Ent.row,ldS,sz,binH,binS2,binS,tupS,res56,hx,hy,z1,z3,z4,z6]
         repeat (refine ⟨by omega,?_⟩)
         exact hd
        ·simp -implicitDefEqProofs (maxSteps:=1000000) (disch:=omega) only [↓zzP,zzA,zzL,zzB,Nat.reduceSub,reduceIte,reduceCtorEq,Nat.reduceLT,↓reduceIte,Nat.reduceEqDiff,Nat.reduceLeDiff,Array.reduceGetElem?,↓gd,↓opP,↓qv,slot,putS,putO,ofV,fldA,unS,lenS,rdF,Ent.row,ldS,sz,binH,binS2,binS,tupS,res56,hx,hy,z1,z3,z4,z5,z6]
         repeat (refine ⟨by omega,?_⟩)
         exact hd
      ·have z6:decide (((bs.length:Nat):Int) > 512) = false:=decide_eq_false (by omega)
       have hl:bs.length≤512:=by omega
       refine hc5 (fun z1=>?_) fun z1 z3=>?_
       ·refine hc6 (fun z4=>?_) fun z4 z5=>?_
        ·simp -implicitDefEqProofs (maxSteps:=1000000) (disch:=omega) only [↓zzP,zzA,zzL,zzB,Nat.reduceSub,reduceIte,reduceCtorEq,Nat.reduceLT,↓reduceIte,Nat.reduceEqDiff,Nat.reduceLeDiff,Array.reduceGetElem?,↓gd,↓opP,↓qv,slot,putS,putO,ofV,fldA,unS,lenS,rdF,Ent.row,ldS,sz,binH,binS2,binS,hx,hy,z1,z4,z6]
         repeat (refine ⟨by omega,?_⟩)
         exact into_keep [(2,.ptr h.length 0),(3,.ptr (h.length+1) 0),(4,.int .i64 0)] (by simp [sameT,slot,lkL]) fun j=>⟨j,hNC.2 nc,hl,rfl⟩
        ·simp -implicitDefEqProofs (maxSteps:=1000000) (disch:=omega) only [↓zzP,zzA,zzL,zzB,Nat.reduceSub,reduceIte,reduceCtorEq,Nat.reduceLT,↓reduceIte,Nat.reduceEqDiff,Nat.reduceLeDiff,Array.reduceGetElem?,↓gd,↓opP,↓qv,slot,putS,putO,ofV,fldA,unS,lenS,rdF,Ent.row,ldS,sz,binH,binS2,binS,hx,hy,z1,z4,z5,z6]
         repeat (refine ⟨by omega,?_⟩)
         exact into_keep [(2,.ptr h.length 0),(3,.ptr (h.length+1) 0),(4,.int .i64 0)] (by simp [sameT,slot,lkL]) fun j=>⟨j,hNC.2 nc,hl,rfl⟩
       ·refine hc6 (fun z4=>?_) fun z4 z5=>?_
        ·simp -implicitDefEqProofs (maxSteps:=1000000) (disch:=omega) only [↓zzP,zzA,zzL,zzB,Nat.reduceSub,reduceIte,reduceCtorEq,Nat.reduceLT,↓reduceIte,Nat.reduceEqDiff,Nat.reduceLeDiff,Array.reduceGetElem?,↓gd,↓opP,↓qv,slot,putS,putO,ofV,fldA,unS,lenS,rdF,Ent.row,ldS,sz,binH,binS2,binS,hx,hy,z1,z3,z4,z6]
         repeat (refine ⟨by omega,?_⟩)
         exact into_keep [(2,.ptr h.length 0),(3,.ptr (h.length+1) 0),(4,.int .i64 0)] (by simp [sameT,slot,lkL]) fun j=>⟨j,hNC.2 nc,hl,rfl⟩
        ·simp -implicitDefEqProofs (maxSteps:=1000000) (disch:=omega) only [↓zzP,zzA,zzL,zzB,Nat.reduceSub,reduceIte,reduceCtorEq,Nat.reduceLT,↓reduceIte,Nat.reduceEqDiff,Nat.reduceLeDiff,Array.reduceGetElem?,↓gd,↓opP,↓qv,slot,putS,putO,ofV,fldA,unS,lenS,rdF,Ent.row,ldS,sz,binH,binS2,binS,hx,hy,z1,z3,z4,z5,z6]
         repeat (refine ⟨by omega,?_⟩)
         exact into_keep [(2,.ptr h.length 0),(3,.ptr (h.length+1) 0),(4,.int .i64 0)] (by simp [sameT,slot,lkL]) fun j=>⟨j,hNC.2 nc,hl,rfl⟩
   ·rintro _ ⟨j2,hnc,hl,rfl⟩
    have nc:=hNC.1 hnc
    have hmay:mayBuns k b bs = mayBs bs:=by unfold mayBuns; rw [if_neg nb0,if_neg nc,if_neg (by omega)]
    refine codeP_of_vc (pl:=np) tabOk follows_mixed (by kernel_rfl) ?_
    simp -implicitDefEqProofs (maxSteps:=1000000) (disch:=omega) only [↓zzP,zzA,zzL,zzB,Nat.reduceSub,reduceIte,reduceCtorEq,Nat.reduceLT,↓reduceIte,Nat.reduceLeDiff,↓gd,↓opP,↓qv,slot,putS,putO,ofV,fldA,lenS,rdF,Ent.row,ldS,sz,tupS,res56,hx]
    repeat (refine ⟨by omega,?_⟩)
    refine codeP_loop (pl:=np) tabOk follows_mixed (by kernel_rfl) (fun z st=>∃ (i:Nat) (j:Nat→Value),i+z = bs.length∧mayBs bs = mayBs (bs.drop i)∧st = ⟨⟨54,[(2,.ptr h.length 0),(3,.ptr (h.length+1) 0),(4,.int .i64 0),(42,.osl kbs 0 0 1 bs.length),(43,.int .i64 (bs.length:Nat)),(44,.int .i64 (i:Nat))],j⟩,H1,[]⟩) ?_ ?_
    ·refine into_keep [(2,.ptr h.length 0),(3,.ptr (h.length+1) 0),(4,.int .i64 0),(42,.osl kbs 0 0 1 bs.length),(43,.int .i64 (bs.length:Nat)),(44,.int .i64 (0:Nat))] (by simp [sameT,slot,lkL]) fun j=>⟨bs.length,0,j,by omega,rfl,rfl⟩
    ·rintro z st ⟨i,j,hiz,hmi,rfl⟩
     by_cases hi:i < bs.length
     ·have g1:decide ((i:Int) < (bs.length:Nat)) = true:=decide_eq_true (by omega)
      have a1:IntKind.i64.wrap ((i:Int)+1) = ((i+1:Nat):Int):=by rw [wrap64 (by omega) (by omega)]; omega
      have hbi:=hfb i hi
      obtain ⟨ki,wi,hfi,hki⟩:=hbi
      have hd:=mayBs_drop bs hi
      simp -implicitDefEqProofs (maxSteps:=1000000) (disch:=omega) only [↓zzP,zzA,zzL,zzB,reduceIte,reduceCtorEq,Nat.reduceLT,↓reduceIte,Nat.reduceEqDiff,↓gd,↓opP,↓qv,slot,putS,putO,idxA,rdF,Ent.row,ldS,binH,binS2,binS,g1,hkbs1,hfi]
      repeat (refine ⟨by omega,?_⟩)
      refine c103 (bs.getD i []) _ H1 ⟨ki,wi,rfl,hE.look hki (by simp) fun h=>h⟩ _ ?_
      by_cases e:mayB (bs.getD i []) = 0
      ·have z2:(mayB (bs.getD i []) != 0) = false:=by rw [e]; rfl
       rw [if_pos e] at hd
       simp -implicitDefEqProofs (maxSteps:=1000000) (disch:=omega) only [↓zzP,zzA,reduceIte,Nat.reduceLT,↓reduceIte,Nat.reduceEqDiff,↓gd,↓opP,↓qv,slot,putS,putO,ofV,binH,binS2,binS,z2,a1]
       repeat (refine ⟨by omega,?_⟩)
       refine into_keep [(2,.ptr h.length 0),(3,.ptr (h.length+1) 0),(4,.int .i64 0),(42,.osl kbs 0 0 1 bs.length),(43,.int .i64 (bs.length:Nat)),(44,.int .i64 (i+1:Nat))] (by simp [sameT,slot,lkL]) fun j=>⟨z - 1,by omega,i+1,j,by omega,hmi.trans hd,rfl⟩
      ·have z2:(mayB (bs.getD i []) != 0) = true:=bne_iff_ne.2 e
       rw [if_neg e] at hd
       simp -implicitDefEqProofs (maxSteps:=1000000) (disch:=omega) only [↓zzP,zzA,reduceIte,reduceCtorEq,Nat.reduceLT,↓reduceIte,Nat.reduceEqDiff,↓gd,↓opP,↓qv,slot,putS,putO,ofV,binH,binS2,binS,z2]
       repeat (refine ⟨by omega,?_⟩)
       exact drop _ (hmay.trans (hmi.trans hd))
     ·have g1:decide ((i:Int) < (bs.length:Nat)) = false:=decide_eq_false (by omega)
      have hd:bs.drop i = []:=List.drop_of_length_le (by omega)
      rw [hd] at hmi
      simp -implicitDefEqProofs (maxSteps:=1000000) (disch:=omega) only [↓zzP,zzA,zzL,reduceIte,reduceCtorEq,Nat.reduceLT,↓reduceIte,Nat.reduceEqDiff,↓gd,↓opP,↓qv,slot,putS,putO,ofV,binH,binS2,binS,g1]
      repeat (refine ⟨by omega,?_⟩)
      exact drop _ (hmay.trans (hmi.trans rfl))
end Go.Proofs.Ytgocfglmideobaa
set_option linter.all false
set_option maxRecDepth 40000
namespace Go.Proofs.Ytgocfglmideobaa
open Go Go.Sx
theorem res57:Try.f57.results.toList = [.tmp 6]:=rfl
def mayW (is:Bool) (kind:Int) (p:List Msg):Int:=if is = false∧0 < p.length then 1 else if p.length > 64 then 18 else mayL kind p
theorem mayL_drop (kind:Int) (p:List Msg) {i:Nat} (hi:i < p.length):mayL kind (p.drop i) = if p[i].kind ≠ kind then 1 else if may p[i] ≠ 0 then may p[i] else mayL kind (p.drop (i+1)):=by
 rw [List.drop_eq_getElem_cons hi,mayL]
abbrev MayAt (m:Msg):Prop:=∀ (l:List SV) (h:List Chunk),MsgH h m l→∀ (K:Tok→SV→List Chunk→Prop),K .mk (.int .i64 (may m)) h→callP Try.prog 15 [.agg l] h K
set_option maxHeartbeats 4000000 in
theorem c57R (is:Bool) (kind:Int) (p:List Msg) (IH:∀ m ∈ p,MayAt m) (kp:Nat) (wp:Bool) (fp:Nat→List SV) (h:List Chunk) (hrow:lookH h kp = .row wp p.length 73 fun i=>.agg (fp i)) (hp:MsgsH h p fp) (K:Tok→SV→List Chunk→Prop) (hK:K .mk (.int .i64 (mayW is kind p)) h) :
  callP Try.prog 57 [.bool is,.int .i64 kind,.osl kp 0 0 73 p.length] h K:=by
 refine callP_good fun hgood=>?_
 have drop:∀ (H1 x:List Chunk) e,H1 = h++x→mayW is kind p = e→IntoR h.length (.int .i64 e) H1 K:=fun H1 x e hH he=>by
  rw [he] at hK
  rw [hH]
  exact intoR_drop hgood trivial hK
 have dh:h = h++[]:=by simp
 obtain ⟨NC,hNC⟩:∃ NC:Prop,NC ↔ ¬ (is = false∧0 < p.length):=⟨_,Iff.rfl⟩
 refine callP_of_code tabOk Try.func57 (by kernel_rfl) rfl (Nat.le_of_ble_eq_true rfl) ?_
 rw [Try.ntmps57]
 refine codeP_seq (pl:=np) tabOk follows_mixed (by kernel_rfl) _ ?_ (fun s h=>h)
 simp -implicitDefEqProofs (maxSteps:=1000000) (disch:=omega) only [↓zzP,zzA,reduceIte,Nat.reduceLT,↓reduceIte,Nat.reduceAdd,↓gd,↓opP,↓qv,slot,putS,putO,ofV,tupS,res57]
 repeat (refine ⟨by omega,?_⟩)
 refine into_refl ?_
 refine codeP_seq (pl:=np) tabOk follows_mixed (by kernel_rfl) (fun st=>∃ (j:Nat→Value),NC∧p.length≤64∧st = ⟨⟨38,[(0,.bool is),(1,.int .i64 kind),(2,.osl kp 0 0 73 p.length),(6,.int .i64 0)],j⟩,h,[]⟩) ?_ ?_
 ·by_cases c1:is = false∧0 < p.length
  ·have z1:decide (((p.length:Nat):Int) > 0) = true:=decide_eq_true (by omega)
   have hd:=drop h [] 1 dh (by unfold mayW; rw [if_pos c1])
   obtain ⟨rfl,_⟩:=c1
   simp -implicitDefEqProofs (maxSteps:=1000000) (disch:=omega) only [↓zzP,zzA,zzL,reduceIte,reduceCtorEq,Nat.reduceLT,↓reduceIte,Nat.reduceEqDiff,Array.reduceGetElem?,↓gd,↓opP,↓qv,slot,putS,putO,ofV,unS,lenS,binH,binS2,binS,z1]
   repeat (refine ⟨by omega,?_⟩)
   exact hd
  ·have hc:∀ {P:Prop},(is = true→P)→(is = false→decide (((p.length:Nat):Int) > 0) = false→P)→P:=fun a c=>by
    cases z:is with
    | true=>exact a z
    | false=>exact c z (decide_eq_false (fun h=>c1 ⟨z,by omega⟩))
   have nc:=hNC.2 c1
   by_cases c3:p.length > 64
   ·have z6:decide (((p.length:Nat):Int) > 64) = true:=decide_eq_true (by omega)
    have hd:=drop h [] 18 dh (by unfold mayW; rw [if_neg c1,if_pos c3])
    refine hc (fun z1=>?_) fun z1 z3=>?_
    ·simp -implicitDefEqProofs (maxSteps:=1000000) (disch:=omega) only [↓zzP,zzA,zzL,reduceIte,reduceCtorEq,Nat.reduceLT,↓reduceIte,Nat.reduceEqDiff,Array.reduceGetElem?,↓gd,↓opP,↓qv,slot,putS,putO,ofV,unS,lenS,binH,binS2,binS,z1,z6]
     repeat (refine ⟨by omega,?_⟩)
     exact hd
    ·simp -implicitDefEqProofs (maxSteps:=1000000) (disch:=omega) only [↓zzP,zzA,zzL,reduceIte,reduceCtorEq,Nat.reduceLT,↓reduceIte,Nat.reduceEqDiff,Array.reduceGetElem?,↓gd,↓opP,↓qv,slot,putS,putO,ofV,unS,lenS,binH,binS2,binS,z1,z3,z6]
     repeat (refine ⟨by omega,?_⟩)
     exact hd
   ·have z6:decide (((p.length:Nat):Int) > 64) = false:=decide_eq_false (by omega)
    refine hc (fun z1=>?_) fun z1 z3=>?_
    ·simp -implicitDefEqProofs (maxSteps:=1000000) (disch:=omega) only [↓zzP,zzA,reduceIte,reduceCtorEq,Nat.reduceLT,↓reduceIte,Nat.reduceEqDiff,Array.reduceGetElem?,↓gd,↓opP,↓qv,slot,putS,putO,ofV,unS,lenS,binH,binS2,binS,z1,z6]
     repeat (refine ⟨by omega,?_⟩)
     exact into_keep [(0,.bool true),(1,.int .i64 kind),(2,.osl kp 0 0 73 p.length),(6,.int .i64 0)] (by simp [sameT,slot,lkL]) fun j=>⟨j,nc,by omega,rfl⟩
    ·simp -implicitDefEqProofs (maxSteps:=1000000) (disch:=omega) only [↓zzP,zzA,zzL,reduceIte,reduceCtorEq,Nat.reduceLT,↓reduceIte,Nat.reduceEqDiff,Array.reduceGetElem?,↓gd,↓opP,↓qv,slot,putS,putO,ofV,unS,lenS,binH,binS2,binS,z1,z3,z6]
     repeat (refine ⟨by omega,?_⟩)
     exact into_keep [(0,.bool false),(1,.int .i64 kind),(2,.osl kp 0 0 73 p.length),(6,.int .i64 0)] (by simp [sameT,slot,lkL]) fun j=>⟨j,nc,by omega,rfl⟩
 ·rintro _ ⟨j2,hnc,hl,rfl⟩
  have hmay:mayW is kind p = mayL kind p:=by unfold mayW; rw [if_neg (hNC.1 hnc),if_neg (by omega)]
  refine codeP_of_vc (pl:=np) tabOk follows_mixed (by kernel_rfl) ?_
  simp -implicitDefEqProofs (maxSteps:=1000000) (disch:=omega) only [↓zzP,zzA,reduceIte,reduceCtorEq,Nat.reduceLT,↓reduceIte,Nat.reduceEqDiff,↓gd,↓opP,↓qv,slot,putS,putO,ofV,lenS]
  repeat (refine ⟨by omega,?_⟩)
  refine codeP_loop (pl:=np) tabOk follows_mixed (by kernel_rfl) (fun z st=>∃ (i:Nat) (H1 x:List Chunk) (j:Nat→Value),i+z = p.length∧H1 = h++x∧mayL kind p = mayL kind (p.drop i)∧st = ⟨⟨38,[(0,.bool is),(1,.int .i64 kind),(2,.osl kp 0 0 73 p.length),(6,.int .i64 0),(22,.osl kp 0 0 73 p.length),(23,.int .i64 (p.length:Nat)),(24,.int .i64 (i:Nat))],j⟩,H1,[]⟩) ?_ ?_
  ·refine into_keep [(0,.bool is),(1,.int .i64 kind),(2,.osl kp 0 0 73 p.length),(6,.int .i64 0),(22,.osl kp 0 0 73 p.length),(23,.int .i64 (p.length:Nat)),(24,.int .i64 (0:Nat))] (by simp [sameT,slot,lkL]) fun j=>⟨p.length,0,h,[],j,by omega,dh,rfl,rfl⟩
  ·rintro z st ⟨i,H1,x,j,hiz,hH1,hmi,rfl⟩
   have hE:Ext (fun _=>False) h H1:=by rw [hH1]; exact (Ext.refl _ _).app _
   have hrow1:=hE.look hrow (by simp) fun h=>h
   by_cases hi:i < p.length
   ·have g1:decide ((i:Int) < (p.length:Nat)) = true:=decide_eq_true (by omega)
    have a1:IntKind.i64.wrap ((i:Int)+1) = ((i+1:Nat):Int):=by rw [wrap64 (by omega) (by omega)]; omega
    have hd:=mayL_drop kind p hi
    have hM:=hp.get hi
    have hIH:=IH p[i] (List.getElem_mem hi)
    obtain ⟨mi,hmi2⟩:∃ mi,p[i] = mi:=⟨_,rfl⟩
    rw [hmi2] at hd hM hIH
    have hM0:=hM
    obtain ⟨k',f',v',s',d',b',bs',p',q',key',of'⟩:=mi
    rw [MsgH] at hM
    obtain ⟨sb,sbs,kp',wp',fp',kq',wq',fq',hfi,h1,h2,h3,h4,h5,h6⟩:=hM
    obtain ⟨kb,wb,rfl,_⟩:=h1
    obtain ⟨kbs,wbs,fb,rfl,_,_⟩:=h2
    unfold dig32 at hfi
    rw [hfi] at hM0
    replace hd:mayL kind (p.drop i) = if k' ≠ kind then 1 else if may (.mk k' f' v' s' d' b' bs' p' q' key' of') ≠ 0 then may (.mk k' f' v' s' d' b' bs' p' q' key' of') else mayL kind (p.drop (i+1)):=hd
    by_cases e:k' = kind
    ·have z2:(k' != kind) = false:=by rw [e]; exact bne_self_eq_false _
     rw [if_neg (fun h=>h e)] at hd
     simp -implicitDefEqProofs (maxSteps:=1000000) (disch:=omega) only [↓zzP,zzA,zzL,zzB,Nat.reduceSub,reduceIte,reduceCtorEq,Nat.reduceLT,↓reduceIte,Nat.reduceEqDiff,Nat.reduceLeDiff,Nat.reduceAdd,↓gd,↓opP,↓qv,↓ef,↓stS,slot,putS,putO,fldA,idxA,rdF,Ent.row,ldS,sz,wrF,binH,binS2,binS,stor,g1,hrow1,hfi,z2]
     repeat (refine ⟨by omega,?_⟩)
     refine hIH _ _ ((hM0.ext hE).ext ((Ext.refl _ _).app _)) _ ?_
     by_cases e2:may (.mk k' f' v' s' d' b' bs' p' q' key' of') = 0
     ·have z3:(may (.mk k' f' v' s' d' b' bs' p' q' key' of') != 0) = false:=by rw [e2]; rfl
      rw [if_neg (fun h=>h e2)] at hd
      simp -implicitDefEqProofs (maxSteps:=1000000) (disch:=omega) only [↓zzP,zzA,reduceIte,reduceCtorEq,Nat.reduceLT,↓reduceIte,Nat.reduceEqDiff,↓gd,↓opP,↓qv,slot,putS,putO,ofV,binH,binS2,binS,z3,a1]
      repeat (refine ⟨by omega,?_⟩)
      exact into_keep [(0,.bool is),(1,.int .i64 kind),(2,.osl kp 0 0 73 p.length),(6,.int .i64 0),(22,.osl kp 0 0 73 p.length),(23,.int .i64 (p.length:Nat)),(24,.int .i64 (i+1:Nat))] (by simp [sameT,slot,lkL]) fun j=>⟨z - 1,by omega,i+1,_,_,j,by omega,by rw [hH1,List.append_assoc],hmi.trans hd,rfl⟩
     ·have z3:(may (.mk k' f' v' s' d' b' bs' p' q' key' of') != 0) = true:=bne_iff_ne.2 e2
      rw [if_pos e2] at hd
      simp -implicitDefEqProofs (maxSteps:=1000000) (disch:=omega) only [↓zzP,zzA,reduceIte,reduceCtorEq,Nat.reduceLT,↓reduceIte,Nat.reduceEqDiff,↓gd,↓opP,↓qv,slot,putS,putO,ofV,binH,binS2,binS,z3]
      repeat (refine ⟨by omega,?_⟩)
      exact drop _ _ _ (by rw [hH1,List.append_assoc]) (hmay.trans (hmi.trans hd))
    ·have z2:(k' != kind) = true:=bne_iff_ne.2 e
     rw [if_pos e] at hd
     simp -implicitDefEqProofs (maxSteps:=1000000) (disch:=omega) only [↓zzP,zzA,zzL,zzB,Nat.reduceSub,reduceIte,reduceCtorEq,Nat.reduceLT,↓reduceIte,Nat.reduceEqDiff,Nat.reduceLeDiff,Nat.reduceAdd,↓gd,↓opP,↓qv,↓ef,↓stS,slot,putS,putO,ofV,fldA,idxA,rdF,Ent.row,ldS,sz,wrF,binH,binS2,binS,stor,g1,hrow1,hfi,z2]
     repeat (refine ⟨by omega,?_⟩)
     exact drop _ _ _ (by rw [hH1,List.append_assoc]) (hmay.trans (hmi.trans hd))
   ·have g1:decide ((i:Int) < (p.length:Nat)) = false:=decide_eq_false (by omega)
    have hd:p.drop i = []:=List.drop_of_length_le (by omega)
    rw [hd] at hmi
    simp -implicitDefEqProofs (maxSteps:=1000000) (disch:=omega) only [↓zzP,zzA,zzL,reduceIte,reduceCtorEq,Nat.reduceLT,↓reduceIte,Nat.reduceEqDiff,↓gd,↓opP,↓qv,slot,putS,putO,ofV,binH,binS2,binS,g1]
    repeat (refine ⟨by omega,?_⟩)
    exact drop _ _ _ hH1 (hmay.trans (hmi.trans (by rw [mayL])))
end Go.Proofs.Ytgocfglmideobaa
