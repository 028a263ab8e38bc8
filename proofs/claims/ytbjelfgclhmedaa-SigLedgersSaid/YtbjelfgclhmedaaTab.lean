/- The types of this seat's functions, as far as they matter. No condition. -/
import Derived.Test.YtbjelfgclhmedaaProg
import Derived.Test.YtbjelfgclhmedaaSxs
set_option linter.all false
set_option maxRecDepth 40000
namespace Go.Proofs.Ytbjelfgclhmedaa
open Go Go.Sx

def e2 : Ent := ⟨.int .i64, 1, 8, (.int .i64 0), [.int .i64 0]⟩
def e3 : Ent := ⟨.int .i64, 1, 8, (.int .i64 0), [.int .i64 0]⟩
def e4 : Ent := ⟨.bool, 1, 1, (.bool false), [.bool false]⟩
def e5 : Ent := ⟨.int .u8, 1, 1, (.int .u8 0), [.int .u8 0]⟩
def e9 : Ent := ⟨.str, 1, 16, (.str ByteArray.empty), [.str ByteArray.empty]⟩
def e22 : Ent := ⟨.slice 25, 1, 24, (.v (.slice none 0 0)), [.v (.slice none 0 0)]⟩
def e23 : Ent := ⟨.ptr 80, 1, 8, (.v (.pointer none)), [.v (.pointer none)]⟩
def e25 : Ent := ⟨.slice 5, 1, 24, (.v (.slice none 0 0)), [.v (.slice none 0 0)]⟩
def e29 : Ent := ⟨.arr 32 5, 32, 32, (.fam 32 1 fun _ => .int .u8 0), (List.replicate 32 (.int .u8 0))⟩
def e37 : Ent := ⟨.int .u64, 1, 8, (.int .u64 0), [.int .u64 0]⟩
def e40 : Ent := ⟨.struct [(0, 3), (1, 29)], 33, 40, (.agg [.int .i64 0, .fam 32 1 fun _ => .int .u8 0]), [.int .i64 0, .fam 32 1 fun _ => .int .u8 0]⟩
def e48 : Ent := ⟨.slice 40, 1, 24, (.v (.slice none 0 0)), [.v (.slice none 0 0)]⟩
def e49 : Ent := ⟨.ptr 91, 1, 8, (.v (.pointer none)), [.v (.pointer none)]⟩
def e51 : Ent := ⟨.func, 1, 8, (.v .nilFunc), [.v .nilFunc]⟩
def e53 : Ent := ⟨.slice 3, 1, 24, (.v (.slice none 0 0)), [.v (.slice none 0 0)]⟩
def e57 : Ent := ⟨.slice 4, 1, 24, (.v (.slice none 0 0)), [.v (.slice none 0 0)]⟩
def e64 : Ent := ⟨.slice 29, 1, 24, (.v (.slice none 0 0)), [.v (.slice none 0 0)]⟩
def e65 : Ent := ⟨.int .i64, 1, 8, (.int .i64 0), [.int .i64 0]⟩
def e75 : Ent := ⟨.int .u32, 1, 4, (.int .u32 0), [.int .u32 0]⟩
def e76 : Ent := ⟨.arr 8 75, 8, 32, (.agg [.int .u32 0, .int .u32 0, .int .u32 0, .int .u32 0, .int .u32 0, .int .u32 0, .int .u32 0, .int .u32 0]), [.int .u32 0, .int .u32 0, .int .u32 0, .int .u32 0, .int .u32 0, .int .u32 0, .int .u32 0, .int .u32 0]⟩
def e77 : Ent := ⟨.arr 8 75, 8, 32, (.agg [.int .u32 0, .int .u32 0, .int .u32 0, .int .u32 0, .int .u32 0, .int .u32 0, .int .u32 0, .int .u32 0]), [.int .u32 0, .int .u32 0, .int .u32 0, .int .u32 0, .int .u32 0, .int .u32 0, .int .u32 0, .int .u32 0]⟩
def e80 : Ent := ⟨.struct [(0, 77), (8, 25), (9, 2)], 10, 64, (.agg [.int .u32 0, .int .u32 0, .int .u32 0, .int .u32 0, .int .u32 0, .int .u32 0, .int .u32 0, .int .u32 0, .v (.slice none 0 0), .int .i64 0]), [.int .u32 0, .int .u32 0, .int .u32 0, .int .u32 0, .int .u32 0, .int .u32 0, .int .u32 0, .int .u32 0, .v (.slice none 0 0), .int .i64 0]⟩
def e81 : Ent := ⟨.int .u64, 1, 8, (.int .u64 0), [.int .u64 0]⟩
def e82 : Ent := ⟨.arr 64 75, 64, 256, (.fam 64 1 fun _ => .int .u32 0), (List.replicate 64 (.int .u32 0))⟩
def e83 : Ent := ⟨.arr 64 37, 64, 512, (.fam 64 1 fun _ => .int .u64 0), (List.replicate 64 (.int .u64 0))⟩
def e87 : Ent := ⟨.ptr 82, 1, 8, (.v (.pointer none)), [.v (.pointer none)]⟩
def e89 : Ent := ⟨.map 40 3, 1, 8, (.v (.map none)), [.v (.map none)]⟩
def e91 : Ent := ⟨.struct [(0, 89)], 1, 8, (.agg [.v (.map none)]), [.v (.map none)]⟩
def e99 : Ent := ⟨.slice 37, 1, 24, (.v (.slice none 0 0)), [.v (.slice none 0 0)]⟩

def tab : Tab
  | 2 => some e2
  | 3 => some e3
  | 4 => some e4
  | 5 => some e5
  | 9 => some e9
  | 22 => some e22
  | 23 => some e23
  | 25 => some e25
  | 29 => some e29
  | 37 => some e37
  | 40 => some e40
  | 48 => some e48
  | 49 => some e49
  | 51 => some e51
  | 53 => some e53
  | 57 => some e57
  | 64 => some e64
  | 65 => some e65
  | 75 => some e75
  | 76 => some e76
  | 77 => some e77
  | 80 => some e80
  | 81 => some e81
  | 82 => some e82
  | 83 => some e83
  | 87 => some e87
  | 89 => some e89
  | 91 => some e91
  | 99 => some e99
  | _ => none

theorem fit2 : e2.Fits Try.prog 2 where
  desc := ⟨_, Try.underlying2, rfl⟩
  info := ⟨Try.t2, by kernel_rfl, rfl, rfl, fun ρ => by kernel_rfl⟩
  zok := by simp [e2, ok, okL, sz]
  zstor := by simp [e2, stor, storL, Value.oneCell']
  zsz := by kernel_rfl
  zlok := ⟨by simp [e2, ok, okL, sz, List.replicate], by simp [e2, stor, storL, Value.oneCell', List.replicate], fun ρ => by kernel_rfl⟩
  fld := fun l h => by cases h
  eqs := fun l h => by cases h
  eld := fun n el h => by cases h
theorem fit3 : e3.Fits Try.prog 3 where
  desc := ⟨_, Try.underlying3, rfl⟩
  info := ⟨Try.t3, by kernel_rfl, rfl, rfl, fun ρ => by kernel_rfl⟩
  zok := by simp [e3, ok, okL, sz]
  zstor := by simp [e3, stor, storL, Value.oneCell']
  zsz := by kernel_rfl
  zlok := ⟨by simp [e3, ok, okL, sz, List.replicate], by simp [e3, stor, storL, Value.oneCell', List.replicate], fun ρ => by kernel_rfl⟩
  fld := fun l h => by cases h
  eqs := fun l h => by cases h
  eld := fun n el h => by cases h
theorem fit4 : e4.Fits Try.prog 4 where
  desc := ⟨_, Try.underlying4, rfl⟩
  info := ⟨Try.t4, by kernel_rfl, rfl, rfl, fun ρ => by kernel_rfl⟩
  zok := by simp [e4, ok, okL, sz]
  zstor := by simp [e4, stor, storL, Value.oneCell']
  zsz := by kernel_rfl
  zlok := ⟨by simp [e4, ok, okL, sz, List.replicate], by simp [e4, stor, storL, Value.oneCell', List.replicate], fun ρ => by kernel_rfl⟩
  fld := fun l h => by cases h
  eqs := fun l h => by cases h
  eld := fun n el h => by cases h
theorem fit5 : e5.Fits Try.prog 5 where
  desc := ⟨_, Try.underlying5, rfl⟩
  info := ⟨Try.t5, by kernel_rfl, rfl, rfl, fun ρ => by kernel_rfl⟩
  zok := by simp [e5, ok, okL, sz]
  zstor := by simp [e5, stor, storL, Value.oneCell']
  zsz := by kernel_rfl
  zlok := ⟨by simp [e5, ok, okL, sz, List.replicate], by simp [e5, stor, storL, Value.oneCell', List.replicate], fun ρ => by kernel_rfl⟩
  fld := fun l h => by cases h
  eqs := fun l h => by cases h
  eld := fun n el h => by cases h
theorem fit9 : e9.Fits Try.prog 9 where
  desc := ⟨_, Try.underlying9, rfl⟩
  info := ⟨Try.t9, by kernel_rfl, rfl, rfl, fun ρ => by kernel_rfl⟩
  zok := by simp [e9, ok, okL, sz]
  zstor := by simp [e9, stor, storL, Value.oneCell']
  zsz := by kernel_rfl
  zlok := ⟨by simp [e9, ok, okL, sz, List.replicate], by simp [e9, stor, storL, Value.oneCell', List.replicate], fun ρ => by kernel_rfl⟩
  fld := fun l h => by cases h
  eqs := fun l h => by cases h
  eld := fun n el h => by cases h
theorem fit22 : e22.Fits Try.prog 22 where
  desc := ⟨_, Try.underlying22, rfl⟩
  info := ⟨Try.t22, by kernel_rfl, rfl, rfl, fun ρ => by kernel_rfl⟩
  zok := by simp [e22, ok, okL, sz]
  zstor := by simp [e22, stor, storL, Value.oneCell']
  zsz := by kernel_rfl
  zlok := ⟨by simp [e22, ok, okL, sz, List.replicate], by simp [e22, stor, storL, Value.oneCell', List.replicate], fun ρ => by kernel_rfl⟩
  fld := fun l h => by cases h
  eqs := fun l h => by cases h
  eld := fun n el h => by cases h
theorem fit23 : e23.Fits Try.prog 23 where
  desc := ⟨_, Try.underlying23, rfl⟩
  info := ⟨Try.t23, by kernel_rfl, rfl, rfl, fun ρ => by kernel_rfl⟩
  zok := by simp [e23, ok, okL, sz]
  zstor := by simp [e23, stor, storL, Value.oneCell']
  zsz := by kernel_rfl
  zlok := ⟨by simp [e23, ok, okL, sz, List.replicate], by simp [e23, stor, storL, Value.oneCell', List.replicate], fun ρ => by kernel_rfl⟩
  fld := fun l h => by cases h
  eqs := fun l h => by cases h
  eld := fun n el h => by cases h
theorem fit25 : e25.Fits Try.prog 25 where
  desc := ⟨_, Try.underlying25, rfl⟩
  info := ⟨Try.t25, by kernel_rfl, rfl, rfl, fun ρ => by kernel_rfl⟩
  zok := by simp [e25, ok, okL, sz]
  zstor := by simp [e25, stor, storL, Value.oneCell']
  zsz := by kernel_rfl
  zlok := ⟨by simp [e25, ok, okL, sz, List.replicate], by simp [e25, stor, storL, Value.oneCell', List.replicate], fun ρ => by kernel_rfl⟩
  fld := fun l h => by cases h
  eqs := fun l h => by cases h
  eld := fun n el h => by cases h
theorem fit29 : e29.Fits Try.prog 29 where
  desc := ⟨_, Try.underlying29, rfl⟩
  info := ⟨Try.t29, by kernel_rfl, rfl, rfl, fun ρ => by kernel_rfl⟩
  zok := by simp [e29, ok, okL, sz]
  zstor := by simp [e29, stor, storL, Value.oneCell']
  zsz := by kernel_rfl
  zlok := ⟨by simp [e29, ok, okL, sz, List.replicate], by simp [e29, stor, storL, Value.oneCell', List.replicate], fun ρ => by kernel_rfl⟩
  fld := fun l h => by cases h
  eqs := fun l h => by cases h
  eld := by
    intro n el h
    cases h
    kernel_rfl
theorem fit37 : e37.Fits Try.prog 37 where
  desc := ⟨_, Try.underlying37, rfl⟩
  info := ⟨Try.t37, by kernel_rfl, rfl, rfl, fun ρ => by kernel_rfl⟩
  zok := by simp [e37, ok, okL, sz]
  zstor := by simp [e37, stor, storL, Value.oneCell']
  zsz := by kernel_rfl
  zlok := ⟨by simp [e37, ok, okL, sz, List.replicate], by simp [e37, stor, storL, Value.oneCell', List.replicate], fun ρ => by kernel_rfl⟩
  fld := fun l h => by cases h
  eqs := fun l h => by cases h
  eld := fun n el h => by cases h
theorem fit40 : e40.Fits Try.prog 40 where
  desc := ⟨_, Try.underlying40, _, rfl, rfl⟩
  info := ⟨Try.t40, by kernel_rfl, rfl, rfl, fun ρ => by kernel_rfl⟩
  zok := by simp [e40, ok, okL, sz]
  zstor := by simp [e40, stor, storL, Value.oneCell']
  zsz := by kernel_rfl
  zlok := ⟨by simp [e40, ok, okL, sz, List.replicate], by simp [e40, stor, storL, Value.oneCell', List.replicate], fun ρ => by kernel_rfl⟩
  fld := by
    intro l hl
    cases hl
    intro p hp
    simp only [List.mem_cons, List.not_mem_nil, or_false] at hp
    rcases hp with rfl | rfl <;> kernel_rfl
  eqs := fun l _ => ⟨fun fs h => by rw [Try.underlying40] at h; cases h; simp, by kernel_rfl, by kernel_rfl⟩
  eld := fun n el h => by cases h
theorem fit48 : e48.Fits Try.prog 48 where
  desc := ⟨_, Try.underlying48, rfl⟩
  info := ⟨Try.t48, by kernel_rfl, rfl, rfl, fun ρ => by kernel_rfl⟩
  zok := by simp [e48, ok, okL, sz]
  zstor := by simp [e48, stor, storL, Value.oneCell']
  zsz := by kernel_rfl
  zlok := ⟨by simp [e48, ok, okL, sz, List.replicate], by simp [e48, stor, storL, Value.oneCell', List.replicate], fun ρ => by kernel_rfl⟩
  fld := fun l h => by cases h
  eqs := fun l h => by cases h
  eld := fun n el h => by cases h
theorem fit49 : e49.Fits Try.prog 49 where
  desc := ⟨_, Try.underlying49, rfl⟩
  info := ⟨Try.t49, by kernel_rfl, rfl, rfl, fun ρ => by kernel_rfl⟩
  zok := by simp [e49, ok, okL, sz]
  zstor := by simp [e49, stor, storL, Value.oneCell']
  zsz := by kernel_rfl
  zlok := ⟨by simp [e49, ok, okL, sz, List.replicate], by simp [e49, stor, storL, Value.oneCell', List.replicate], fun ρ => by kernel_rfl⟩
  fld := fun l h => by cases h
  eqs := fun l h => by cases h
  eld := fun n el h => by cases h
theorem fit51 : e51.Fits Try.prog 51 where
  desc := ⟨_, Try.underlying51, _, _, _, rfl⟩
  info := ⟨Try.t51, by kernel_rfl, rfl, rfl, fun ρ => by kernel_rfl⟩
  zok := by simp [e51, ok, okL, sz]
  zstor := by simp [e51, stor, storL, Value.oneCell']
  zsz := by kernel_rfl
  zlok := ⟨by simp [e51, ok, okL, sz, List.replicate], by simp [e51, stor, storL, Value.oneCell', List.replicate], fun ρ => by kernel_rfl⟩
  fld := fun l h => by cases h
  eqs := fun l h => by cases h
  eld := fun n el h => by cases h
theorem fit53 : e53.Fits Try.prog 53 where
  desc := ⟨_, Try.underlying53, rfl⟩
  info := ⟨Try.t53, by kernel_rfl, rfl, rfl, fun ρ => by kernel_rfl⟩
  zok := by simp [e53, ok, okL, sz]
  zstor := by simp [e53, stor, storL, Value.oneCell']
  zsz := by kernel_rfl
  zlok := ⟨by simp [e53, ok, okL, sz, List.replicate], by simp [e53, stor, storL, Value.oneCell', List.replicate], fun ρ => by kernel_rfl⟩
  fld := fun l h => by cases h
  eqs := fun l h => by cases h
  eld := fun n el h => by cases h
theorem fit57 : e57.Fits Try.prog 57 where
  desc := ⟨_, Try.underlying57, rfl⟩
  info := ⟨Try.t57, by kernel_rfl, rfl, rfl, fun ρ => by kernel_rfl⟩
  zok := by simp [e57, ok, okL, sz]
  zstor := by simp [e57, stor, storL, Value.oneCell']
  zsz := by kernel_rfl
  zlok := ⟨by simp [e57, ok, okL, sz, List.replicate], by simp [e57, stor, storL, Value.oneCell', List.replicate], fun ρ => by kernel_rfl⟩
  fld := fun l h => by cases h
  eqs := fun l h => by cases h
  eld := fun n el h => by cases h
theorem fit64 : e64.Fits Try.prog 64 where
  desc := ⟨_, Try.underlying64, rfl⟩
  info := ⟨Try.t64, by kernel_rfl, rfl, rfl, fun ρ => by kernel_rfl⟩
  zok := by simp [e64, ok, okL, sz]
  zstor := by simp [e64, stor, storL, Value.oneCell']
  zsz := by kernel_rfl
  zlok := ⟨by simp [e64, ok, okL, sz, List.replicate], by simp [e64, stor, storL, Value.oneCell', List.replicate], fun ρ => by kernel_rfl⟩
  fld := fun l h => by cases h
  eqs := fun l h => by cases h
  eld := fun n el h => by cases h
theorem fit65 : e65.Fits Try.prog 65 where
  desc := ⟨_, Try.underlying65, rfl⟩
  info := ⟨Try.t65, by kernel_rfl, rfl, rfl, fun ρ => by kernel_rfl⟩
  zok := by simp [e65, ok, okL, sz]
  zstor := by simp [e65, stor, storL, Value.oneCell']
  zsz := by kernel_rfl
  zlok := ⟨by simp [e65, ok, okL, sz, List.replicate], by simp [e65, stor, storL, Value.oneCell', List.replicate], fun ρ => by kernel_rfl⟩
  fld := fun l h => by cases h
  eqs := fun l h => by cases h
  eld := fun n el h => by cases h
theorem fit75 : e75.Fits Try.prog 75 where
  desc := ⟨_, Try.underlying75, rfl⟩
  info := ⟨Try.t75, by kernel_rfl, rfl, rfl, fun ρ => by kernel_rfl⟩
  zok := by simp [e75, ok, okL, sz]
  zstor := by simp [e75, stor, storL, Value.oneCell']
  zsz := by kernel_rfl
  zlok := ⟨by simp [e75, ok, okL, sz, List.replicate], by simp [e75, stor, storL, Value.oneCell', List.replicate], fun ρ => by kernel_rfl⟩
  fld := fun l h => by cases h
  eqs := fun l h => by cases h
  eld := fun n el h => by cases h
theorem fit76 : e76.Fits Try.prog 76 where
  desc := ⟨_, Try.underlying76, rfl⟩
  info := ⟨Try.t76, by kernel_rfl, rfl, rfl, fun ρ => by kernel_rfl⟩
  zok := by simp [e76, ok, okL, sz]
  zstor := by simp [e76, stor, storL, Value.oneCell']
  zsz := by kernel_rfl
  zlok := ⟨by simp [e76, ok, okL, sz, List.replicate], by simp [e76, stor, storL, Value.oneCell', List.replicate], fun ρ => by kernel_rfl⟩
  fld := fun l h => by cases h
  eqs := fun l h => by cases h
  eld := by
    intro n el h
    cases h
    kernel_rfl
theorem fit77 : e77.Fits Try.prog 77 where
  desc := ⟨_, Try.underlying77, rfl⟩
  info := ⟨Try.t77, by kernel_rfl, rfl, rfl, fun ρ => by kernel_rfl⟩
  zok := by simp [e77, ok, okL, sz]
  zstor := by simp [e77, stor, storL, Value.oneCell']
  zsz := by kernel_rfl
  zlok := ⟨by simp [e77, ok, okL, sz, List.replicate], by simp [e77, stor, storL, Value.oneCell', List.replicate], fun ρ => by kernel_rfl⟩
  fld := fun l h => by cases h
  eqs := fun l h => by cases h
  eld := by
    intro n el h
    cases h
    kernel_rfl
theorem fit80 : e80.Fits Try.prog 80 where
  desc := ⟨_, Try.underlying80, _, rfl, rfl⟩
  info := ⟨Try.t80, by kernel_rfl, rfl, rfl, fun ρ => by kernel_rfl⟩
  zok := by simp [e80, ok, okL, sz]
  zstor := by simp [e80, stor, storL, Value.oneCell']
  zsz := by kernel_rfl
  zlok := ⟨by simp [e80, ok, okL, sz, List.replicate], by simp [e80, stor, storL, Value.oneCell', List.replicate], fun ρ => by kernel_rfl⟩
  fld := by
    intro l hl
    cases hl
    intro p hp
    simp only [List.mem_cons, List.not_mem_nil, or_false] at hp
    rcases hp with rfl | rfl | rfl <;> kernel_rfl
  eqs := fun l _ => ⟨fun fs h => by rw [Try.underlying80] at h; cases h; simp, by kernel_rfl, by kernel_rfl⟩
  eld := fun n el h => by cases h
theorem fit81 : e81.Fits Try.prog 81 where
  desc := ⟨_, Try.underlying81, rfl⟩
  info := ⟨Try.t81, by kernel_rfl, rfl, rfl, fun ρ => by kernel_rfl⟩
  zok := by simp [e81, ok, okL, sz]
  zstor := by simp [e81, stor, storL, Value.oneCell']
  zsz := by kernel_rfl
  zlok := ⟨by simp [e81, ok, okL, sz, List.replicate], by simp [e81, stor, storL, Value.oneCell', List.replicate], fun ρ => by kernel_rfl⟩
  fld := fun l h => by cases h
  eqs := fun l h => by cases h
  eld := fun n el h => by cases h
theorem fit82 : e82.Fits Try.prog 82 where
  desc := ⟨_, Try.underlying82, rfl⟩
  info := ⟨Try.t82, by kernel_rfl, rfl, rfl, fun ρ => by kernel_rfl⟩
  zok := by simp [e82, ok, okL, sz]
  zstor := by simp [e82, stor, storL, Value.oneCell']
  zsz := by kernel_rfl
  zlok := ⟨by simp [e82, ok, okL, sz, List.replicate], by simp [e82, stor, storL, Value.oneCell', List.replicate], fun ρ => by kernel_rfl⟩
  fld := fun l h => by cases h
  eqs := fun l h => by cases h
  eld := by
    intro n el h
    cases h
    kernel_rfl
theorem fit83 : e83.Fits Try.prog 83 where
  desc := ⟨_, Try.underlying83, rfl⟩
  info := ⟨Try.t83, by kernel_rfl, rfl, rfl, fun ρ => by kernel_rfl⟩
  zok := by simp [e83, ok, okL, sz]
  zstor := by simp [e83, stor, storL, Value.oneCell']
  zsz := by kernel_rfl
  zlok := ⟨by simp [e83, ok, okL, sz, List.replicate], by simp [e83, stor, storL, Value.oneCell', List.replicate], fun ρ => by kernel_rfl⟩
  fld := fun l h => by cases h
  eqs := fun l h => by cases h
  eld := by
    intro n el h
    cases h
    kernel_rfl
theorem fit87 : e87.Fits Try.prog 87 where
  desc := ⟨_, Try.underlying87, rfl⟩
  info := ⟨Try.t87, by kernel_rfl, rfl, rfl, fun ρ => by kernel_rfl⟩
  zok := by simp [e87, ok, okL, sz]
  zstor := by simp [e87, stor, storL, Value.oneCell']
  zsz := by kernel_rfl
  zlok := ⟨by simp [e87, ok, okL, sz, List.replicate], by simp [e87, stor, storL, Value.oneCell', List.replicate], fun ρ => by kernel_rfl⟩
  fld := fun l h => by cases h
  eqs := fun l h => by cases h
  eld := fun n el h => by cases h
theorem fit89 : e89.Fits Try.prog 89 where
  desc := ⟨_, Try.underlying89, rfl⟩
  info := ⟨Try.t89, by kernel_rfl, rfl, rfl, fun ρ => by kernel_rfl⟩
  zok := by simp [e89, ok, okL, sz]
  zstor := by simp [e89, stor, storL, Value.oneCell']
  zsz := by kernel_rfl
  zlok := ⟨by simp [e89, ok, okL, sz, List.replicate], by simp [e89, stor, storL, Value.oneCell', List.replicate], fun ρ => by kernel_rfl⟩
  fld := fun l h => by cases h
  eqs := fun l h => by cases h
  eld := fun n el h => by cases h
theorem fit91 : e91.Fits Try.prog 91 where
  desc := ⟨_, Try.underlying91, _, rfl, rfl⟩
  info := ⟨Try.t91, by kernel_rfl, rfl, rfl, fun ρ => by kernel_rfl⟩
  zok := by simp [e91, ok, okL, sz]
  zstor := by simp [e91, stor, storL, Value.oneCell']
  zsz := by kernel_rfl
  zlok := ⟨by simp [e91, ok, okL, sz, List.replicate], by simp [e91, stor, storL, Value.oneCell', List.replicate], fun ρ => by kernel_rfl⟩
  fld := by
    intro l hl
    cases hl
    intro p hp
    simp only [List.mem_cons, List.not_mem_nil, or_false] at hp
    rcases hp with rfl <;> kernel_rfl
  eqs := fun l _ => ⟨fun fs h => by rw [Try.underlying91] at h; cases h; simp, by kernel_rfl, by kernel_rfl⟩
  eld := fun n el h => by cases h
theorem fit99 : e99.Fits Try.prog 99 where
  desc := ⟨_, Try.underlying99, rfl⟩
  info := ⟨Try.t99, by kernel_rfl, rfl, rfl, fun ρ => by kernel_rfl⟩
  zok := by simp [e99, ok, okL, sz]
  zstor := by simp [e99, stor, storL, Value.oneCell']
  zsz := by kernel_rfl
  zlok := ⟨by simp [e99, ok, okL, sz, List.replicate], by simp [e99, stor, storL, Value.oneCell', List.replicate], fun ρ => by kernel_rfl⟩
  fld := fun l h => by cases h
  eqs := fun l h => by cases h
  eld := fun n el h => by cases h

theorem tabOk : tab.Ok Try.prog := by
  intro t e h
  unfold tab at h
  split at h <;> cases h
  · exact fit2
  · exact fit3
  · exact fit4
  · exact fit5
  · exact fit9
  · exact fit22
  · exact fit23
  · exact fit25
  · exact fit29
  · exact fit37
  · exact fit40
  · exact fit48
  · exact fit49
  · exact fit51
  · exact fit53
  · exact fit57
  · exact fit64
  · exact fit65
  · exact fit75
  · exact fit76
  · exact fit77
  · exact fit80
  · exact fit81
  · exact fit82
  · exact fit83
  · exact fit87
  · exact fit89
  · exact fit91
  · exact fit99

theorem tab2 : tab 2 = some ⟨.int .i64, 1, 8, (.int .i64 0), [.int .i64 0]⟩ := rfl
theorem tab3 : tab 3 = some ⟨.int .i64, 1, 8, (.int .i64 0), [.int .i64 0]⟩ := rfl
theorem tab4 : tab 4 = some ⟨.bool, 1, 1, (.bool false), [.bool false]⟩ := rfl
theorem tab5 : tab 5 = some ⟨.int .u8, 1, 1, (.int .u8 0), [.int .u8 0]⟩ := rfl
theorem tab9 : tab 9 = some ⟨.str, 1, 16, (.str ByteArray.empty), [.str ByteArray.empty]⟩ := rfl
theorem tab22 : tab 22 = some ⟨.slice 25, 1, 24, (.v (.slice none 0 0)), [.v (.slice none 0 0)]⟩ := rfl
theorem tab23 : tab 23 = some ⟨.ptr 80, 1, 8, (.v (.pointer none)), [.v (.pointer none)]⟩ := rfl
theorem tab25 : tab 25 = some ⟨.slice 5, 1, 24, (.v (.slice none 0 0)), [.v (.slice none 0 0)]⟩ := rfl
theorem tab29 : tab 29 = some ⟨.arr 32 5, 32, 32, (.fam 32 1 fun _ => .int .u8 0), (List.replicate 32 (.int .u8 0))⟩ := rfl
theorem tab37 : tab 37 = some ⟨.int .u64, 1, 8, (.int .u64 0), [.int .u64 0]⟩ := rfl
theorem tab40 : tab 40 = some ⟨.struct [(0, 3), (1, 29)], 33, 40, (.agg [.int .i64 0, .fam 32 1 fun _ => .int .u8 0]), [.int .i64 0, .fam 32 1 fun _ => .int .u8 0]⟩ := rfl
theorem tab48 : tab 48 = some ⟨.slice 40, 1, 24, (.v (.slice none 0 0)), [.v (.slice none 0 0)]⟩ := rfl
theorem tab49 : tab 49 = some ⟨.ptr 91, 1, 8, (.v (.pointer none)), [.v (.pointer none)]⟩ := rfl
theorem tab51 : tab 51 = some ⟨.func, 1, 8, (.v .nilFunc), [.v .nilFunc]⟩ := rfl
theorem tab53 : tab 53 = some ⟨.slice 3, 1, 24, (.v (.slice none 0 0)), [.v (.slice none 0 0)]⟩ := rfl
theorem tab57 : tab 57 = some ⟨.slice 4, 1, 24, (.v (.slice none 0 0)), [.v (.slice none 0 0)]⟩ := rfl
theorem tab64 : tab 64 = some ⟨.slice 29, 1, 24, (.v (.slice none 0 0)), [.v (.slice none 0 0)]⟩ := rfl
theorem tab65 : tab 65 = some ⟨.int .i64, 1, 8, (.int .i64 0), [.int .i64 0]⟩ := rfl
theorem tab75 : tab 75 = some ⟨.int .u32, 1, 4, (.int .u32 0), [.int .u32 0]⟩ := rfl
theorem tab76 : tab 76 = some ⟨.arr 8 75, 8, 32, (.agg [.int .u32 0, .int .u32 0, .int .u32 0, .int .u32 0, .int .u32 0, .int .u32 0, .int .u32 0, .int .u32 0]), [.int .u32 0, .int .u32 0, .int .u32 0, .int .u32 0, .int .u32 0, .int .u32 0, .int .u32 0, .int .u32 0]⟩ := rfl
theorem tab77 : tab 77 = some ⟨.arr 8 75, 8, 32, (.agg [.int .u32 0, .int .u32 0, .int .u32 0, .int .u32 0, .int .u32 0, .int .u32 0, .int .u32 0, .int .u32 0]), [.int .u32 0, .int .u32 0, .int .u32 0, .int .u32 0, .int .u32 0, .int .u32 0, .int .u32 0, .int .u32 0]⟩ := rfl
theorem tab80 : tab 80 = some ⟨.struct [(0, 77), (8, 25), (9, 2)], 10, 64, (.agg [.int .u32 0, .int .u32 0, .int .u32 0, .int .u32 0, .int .u32 0, .int .u32 0, .int .u32 0, .int .u32 0, .v (.slice none 0 0), .int .i64 0]), [.int .u32 0, .int .u32 0, .int .u32 0, .int .u32 0, .int .u32 0, .int .u32 0, .int .u32 0, .int .u32 0, .v (.slice none 0 0), .int .i64 0]⟩ := rfl
theorem tab81 : tab 81 = some ⟨.int .u64, 1, 8, (.int .u64 0), [.int .u64 0]⟩ := rfl
theorem tab82 : tab 82 = some ⟨.arr 64 75, 64, 256, (.fam 64 1 fun _ => .int .u32 0), (List.replicate 64 (.int .u32 0))⟩ := rfl
theorem tab83 : tab 83 = some ⟨.arr 64 37, 64, 512, (.fam 64 1 fun _ => .int .u64 0), (List.replicate 64 (.int .u64 0))⟩ := rfl
theorem tab87 : tab 87 = some ⟨.ptr 82, 1, 8, (.v (.pointer none)), [.v (.pointer none)]⟩ := rfl
theorem tab89 : tab 89 = some ⟨.map 40 3, 1, 8, (.v (.map none)), [.v (.map none)]⟩ := rfl
theorem tab91 : tab 91 = some ⟨.struct [(0, 89)], 1, 8, (.agg [.v (.map none)]), [.v (.map none)]⟩ := rfl
theorem tab99 : tab 99 = some ⟨.slice 37, 1, 24, (.v (.slice none 0 0)), [.v (.slice none 0 0)]⟩ := rfl
/-- The rules in one. -/
def tabB := And.intro @tab2 (And.intro @tab3 (And.intro @tab4 (And.intro @tab5 (And.intro @tab9 (And.intro @tab22 (And.intro @tab23 (And.intro @tab25 (And.intro @tab29 (And.intro @tab37 (And.intro @tab40 (And.intro @tab48 (And.intro @tab49 (And.intro @tab51 (And.intro @tab53 (And.intro @tab57 (And.intro @tab64 (And.intro @tab65 (And.intro @tab75 (And.intro @tab76 (And.intro @tab77 (And.intro @tab80 (And.intro @tab81 (And.intro @tab82 (And.intro @tab83 (And.intro @tab87 (And.intro @tab89 (And.intro @tab91 (@tab99))))))))))))))))))))))))))))
end Go.Proofs.Ytbjelfgclhmedaa
