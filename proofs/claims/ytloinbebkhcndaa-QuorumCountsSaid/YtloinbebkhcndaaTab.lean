/- The types of this seat's functions, as far as they matter. No condition. -/
import Derived.Test.YtloinbebkhcndaaProg
import Derived.Test.YtloinbebkhcndaaSxs
set_option linter.all false
set_option maxRecDepth 40000
namespace Go.Proofs.Ytloinbebkhcndaa
open Go Go.Sx

def e3 : Ent := ⟨.int .i64, 1, 8, (.int .i64 0), [.int .i64 0]⟩
def e4 : Ent := ⟨.bool, 1, 1, (.bool false), [.bool false]⟩
def e9 : Ent := ⟨.str, 1, 16, (.str ByteArray.empty), [.str ByteArray.empty]⟩
def e22 : Ent := ⟨.func, 1, 8, (.v .nilFunc), [.v .nilFunc]⟩
def e24 : Ent := ⟨.func, 1, 8, (.v .nilFunc), [.v .nilFunc]⟩
def e25 : Ent := ⟨.slice 3, 1, 24, (.v (.slice none 0 0)), [.v (.slice none 0 0)]⟩
def e30 : Ent := ⟨.func, 1, 8, (.v .nilFunc), [.v .nilFunc]⟩
def e32 : Ent := ⟨.func, 1, 8, (.v .nilFunc), [.v .nilFunc]⟩
def e42 : Ent := ⟨.func, 1, 8, (.v .nilFunc), [.v .nilFunc]⟩
def e46 : Ent := ⟨.ptr 86, 1, 8, (.v (.pointer none)), [.v (.pointer none)]⟩
def e51 : Ent := ⟨.slice 56, 1, 24, (.v (.slice none 0 0)), [.v (.slice none 0 0)]⟩
def e52 : Ent := ⟨.ptr 91, 1, 8, (.v (.pointer none)), [.v (.pointer none)]⟩
def e54 : Ent := ⟨.slice 9, 1, 24, (.v (.slice none 0 0)), [.v (.slice none 0 0)]⟩
def e56 : Ent := ⟨.struct [(0, 3), (1, 9), (2, 3)], 3, 32, (.agg [.int .i64 0, .str ByteArray.empty, .int .i64 0]), [.int .i64 0, .str ByteArray.empty, .int .i64 0]⟩
def e57 : Ent := ⟨.func, 1, 8, (.v .nilFunc), [.v .nilFunc]⟩
def e60 : Ent := ⟨.func, 1, 8, (.v .nilFunc), [.v .nilFunc]⟩
def e63 : Ent := ⟨.ptr 97, 1, 8, (.v (.pointer none)), [.v (.pointer none)]⟩
def e67 : Ent := ⟨.slice 73, 1, 24, (.v (.slice none 0 0)), [.v (.slice none 0 0)]⟩
def e68 : Ent := ⟨.int .u64, 1, 8, (.int .u64 0), [.int .u64 0]⟩
def e69 : Ent := ⟨.ptr 102, 1, 8, (.v (.pointer none)), [.v (.pointer none)]⟩
def e73 : Ent := ⟨.struct [(0, 3), (1, 9)], 2, 24, (.agg [.int .i64 0, .str ByteArray.empty]), [.int .i64 0, .str ByteArray.empty]⟩
def e82 : Ent := ⟨.slice 30, 1, 24, (.v (.slice none 0 0)), [.v (.slice none 0 0)]⟩
def e84 : Ent := ⟨.map 3 3, 1, 8, (.v (.map none)), [.v (.map none)]⟩
def e86 : Ent := ⟨.struct [(0, 84)], 1, 8, (.agg [.v (.map none)]), [.v (.map none)]⟩
def e89 : Ent := ⟨.map 9 3, 1, 8, (.v (.map none)), [.v (.map none)]⟩
def e91 : Ent := ⟨.struct [(0, 89)], 1, 8, (.agg [.v (.map none)]), [.v (.map none)]⟩
def e97 : Ent := ⟨.struct [(0, 89)], 1, 8, (.agg [.v (.map none)]), [.v (.map none)]⟩
def e98 : Ent := ⟨.map 9 46, 1, 8, (.v (.map none)), [.v (.map none)]⟩
def e100 : Ent := ⟨.struct [(0, 98)], 1, 8, (.agg [.v (.map none)]), [.v (.map none)]⟩
def e102 : Ent := ⟨.struct [(0, 3), (1, 100)], 2, 16, (.agg [.int .i64 0, .v (.map none)]), [.int .i64 0, .v (.map none)]⟩
def e110 : Ent := ⟨.ptr 100, 1, 8, (.v (.pointer none)), [.v (.pointer none)]⟩
def e117 : Ent := ⟨.int .u64, 1, 8, (.int .u64 0), [.int .u64 0]⟩

def tab : Tab
  | 3 => some e3
  | 4 => some e4
  | 9 => some e9
  | 22 => some e22
  | 24 => some e24
  | 25 => some e25
  | 30 => some e30
  | 32 => some e32
  | 42 => some e42
  | 46 => some e46
  | 51 => some e51
  | 52 => some e52
  | 54 => some e54
  | 56 => some e56
  | 57 => some e57
  | 60 => some e60
  | 63 => some e63
  | 67 => some e67
  | 68 => some e68
  | 69 => some e69
  | 73 => some e73
  | 82 => some e82
  | 84 => some e84
  | 86 => some e86
  | 89 => some e89
  | 91 => some e91
  | 97 => some e97
  | 98 => some e98
  | 100 => some e100
  | 102 => some e102
  | 110 => some e110
  | 117 => some e117
  | _ => none

theorem fit3 : e3.Fits Try.prog 3 where
  desc := ⟨_, Try.underlying3, rfl⟩
  info := ⟨Try.t3, by kernel_rfl, rfl, rfl, fun ρ => by kernel_rfl⟩
  zok := by simp [e3, ok, okL, sz]
  zstor := by simp [e3, stor, storL, Value.oneCell']
  zsz := by kernel_rfl
  zlok := ⟨by simp [e3, ok, okL, sz, List.replicate], by simp [e3, stor, storL, Value.oneCell', List.replicate], fun ρ => by kernel_rfl⟩
  fld := fun l h => by cases h
  eqs := fun l h => by cases h
  eld := fun n el h => by cases h
theorem fit4 : e4.Fits Try.prog 4 where
  desc := ⟨_, Try.underlying4, rfl⟩
  info := ⟨Try.t4, by kernel_rfl, rfl, rfl, fun ρ => by kernel_rfl⟩
  zok := by simp [e4, ok, okL, sz]
  zstor := by simp [e4, stor, storL, Value.oneCell']
  zsz := by kernel_rfl
  zlok := ⟨by simp [e4, ok, okL, sz, List.replicate], by simp [e4, stor, storL, Value.oneCell', List.replicate], fun ρ => by kernel_rfl⟩
  fld := fun l h => by cases h
  eqs := fun l h => by cases h
  eld := fun n el h => by cases h
theorem fit9 : e9.Fits Try.prog 9 where
  desc := ⟨_, Try.underlying9, rfl⟩
  info := ⟨Try.t9, by kernel_rfl, rfl, rfl, fun ρ => by kernel_rfl⟩
  zok := by simp [e9, ok, okL, sz]
  zstor := by simp [e9, stor, storL, Value.oneCell']
  zsz := by kernel_rfl
  zlok := ⟨by simp [e9, ok, okL, sz, List.replicate], by simp [e9, stor, storL, Value.oneCell', List.replicate], fun ρ => by kernel_rfl⟩
  fld := fun l h => by cases h
  eqs := fun l h => by cases h
  eld := fun n el h => by cases h
theorem fit22 : e22.Fits Try.prog 22 where
  desc := ⟨_, Try.underlying22, _, _, _, rfl⟩
  info := ⟨Try.t22, by kernel_rfl, rfl, rfl, fun ρ => by kernel_rfl⟩
  zok := by simp [e22, ok, okL, sz]
  zstor := by simp [e22, stor, storL, Value.oneCell']
  zsz := by kernel_rfl
  zlok := ⟨by simp [e22, ok, okL, sz, List.replicate], by simp [e22, stor, storL, Value.oneCell', List.replicate], fun ρ => by kernel_rfl⟩
  fld := fun l h => by cases h
  eqs := fun l h => by cases h
  eld := fun n el h => by cases h
theorem fit24 : e24.Fits Try.prog 24 where
  desc := ⟨_, Try.underlying24, _, _, _, rfl⟩
  info := ⟨Try.t24, by kernel_rfl, rfl, rfl, fun ρ => by kernel_rfl⟩
  zok := by simp [e24, ok, okL, sz]
  zstor := by simp [e24, stor, storL, Value.oneCell']
  zsz := by kernel_rfl
  zlok := ⟨by simp [e24, ok, okL, sz, List.replicate], by simp [e24, stor, storL, Value.oneCell', List.replicate], fun ρ => by kernel_rfl⟩
  fld := fun l h => by cases h
  eqs := fun l h => by cases h
  eld := fun n el h => by cases h
theorem fit25 : e25.Fits Try.prog 25 where
  desc := ⟨_, Try.underlying25, rfl⟩
  info := ⟨Try.t25, by kernel_rfl, rfl, rfl, fun ρ => by kernel_rfl⟩
  zok := by simp [e25, ok, okL, sz]
  zstor := by simp [e25, stor, storL, Value.oneCell']
  zsz := by kernel_rfl
  zlok := ⟨by simp [e25, ok, okL, sz, List.replicate], by simp [e25, stor, storL, Value.oneCell', List.replicate], fun ρ => by kernel_rfl⟩
  fld := fun l h => by cases h
  eqs := fun l h => by cases h
  eld := fun n el h => by cases h
theorem fit30 : e30.Fits Try.prog 30 where
  desc := ⟨_, Try.underlying30, _, _, _, rfl⟩
  info := ⟨Try.t30, by kernel_rfl, rfl, rfl, fun ρ => by kernel_rfl⟩
  zok := by simp [e30, ok, okL, sz]
  zstor := by simp [e30, stor, storL, Value.oneCell']
  zsz := by kernel_rfl
  zlok := ⟨by simp [e30, ok, okL, sz, List.replicate], by simp [e30, stor, storL, Value.oneCell', List.replicate], fun ρ => by kernel_rfl⟩
  fld := fun l h => by cases h
  eqs := fun l h => by cases h
  eld := fun n el h => by cases h
theorem fit32 : e32.Fits Try.prog 32 where
  desc := ⟨_, Try.underlying32, _, _, _, rfl⟩
  info := ⟨Try.t32, by kernel_rfl, rfl, rfl, fun ρ => by kernel_rfl⟩
  zok := by simp [e32, ok, okL, sz]
  zstor := by simp [e32, stor, storL, Value.oneCell']
  zsz := by kernel_rfl
  zlok := ⟨by simp [e32, ok, okL, sz, List.replicate], by simp [e32, stor, storL, Value.oneCell', List.replicate], fun ρ => by kernel_rfl⟩
  fld := fun l h => by cases h
  eqs := fun l h => by cases h
  eld := fun n el h => by cases h
theorem fit42 : e42.Fits Try.prog 42 where
  desc := ⟨_, Try.underlying42, _, _, _, rfl⟩
  info := ⟨Try.t42, by kernel_rfl, rfl, rfl, fun ρ => by kernel_rfl⟩
  zok := by simp [e42, ok, okL, sz]
  zstor := by simp [e42, stor, storL, Value.oneCell']
  zsz := by kernel_rfl
  zlok := ⟨by simp [e42, ok, okL, sz, List.replicate], by simp [e42, stor, storL, Value.oneCell', List.replicate], fun ρ => by kernel_rfl⟩
  fld := fun l h => by cases h
  eqs := fun l h => by cases h
  eld := fun n el h => by cases h
theorem fit46 : e46.Fits Try.prog 46 where
  desc := ⟨_, Try.underlying46, rfl⟩
  info := ⟨Try.t46, by kernel_rfl, rfl, rfl, fun ρ => by kernel_rfl⟩
  zok := by simp [e46, ok, okL, sz]
  zstor := by simp [e46, stor, storL, Value.oneCell']
  zsz := by kernel_rfl
  zlok := ⟨by simp [e46, ok, okL, sz, List.replicate], by simp [e46, stor, storL, Value.oneCell', List.replicate], fun ρ => by kernel_rfl⟩
  fld := fun l h => by cases h
  eqs := fun l h => by cases h
  eld := fun n el h => by cases h
theorem fit51 : e51.Fits Try.prog 51 where
  desc := ⟨_, Try.underlying51, rfl⟩
  info := ⟨Try.t51, by kernel_rfl, rfl, rfl, fun ρ => by kernel_rfl⟩
  zok := by simp [e51, ok, okL, sz]
  zstor := by simp [e51, stor, storL, Value.oneCell']
  zsz := by kernel_rfl
  zlok := ⟨by simp [e51, ok, okL, sz, List.replicate], by simp [e51, stor, storL, Value.oneCell', List.replicate], fun ρ => by kernel_rfl⟩
  fld := fun l h => by cases h
  eqs := fun l h => by cases h
  eld := fun n el h => by cases h
theorem fit52 : e52.Fits Try.prog 52 where
  desc := ⟨_, Try.underlying52, rfl⟩
  info := ⟨Try.t52, by kernel_rfl, rfl, rfl, fun ρ => by kernel_rfl⟩
  zok := by simp [e52, ok, okL, sz]
  zstor := by simp [e52, stor, storL, Value.oneCell']
  zsz := by kernel_rfl
  zlok := ⟨by simp [e52, ok, okL, sz, List.replicate], by simp [e52, stor, storL, Value.oneCell', List.replicate], fun ρ => by kernel_rfl⟩
  fld := fun l h => by cases h
  eqs := fun l h => by cases h
  eld := fun n el h => by cases h
theorem fit54 : e54.Fits Try.prog 54 where
  desc := ⟨_, Try.underlying54, rfl⟩
  info := ⟨Try.t54, by kernel_rfl, rfl, rfl, fun ρ => by kernel_rfl⟩
  zok := by simp [e54, ok, okL, sz]
  zstor := by simp [e54, stor, storL, Value.oneCell']
  zsz := by kernel_rfl
  zlok := ⟨by simp [e54, ok, okL, sz, List.replicate], by simp [e54, stor, storL, Value.oneCell', List.replicate], fun ρ => by kernel_rfl⟩
  fld := fun l h => by cases h
  eqs := fun l h => by cases h
  eld := fun n el h => by cases h
theorem fit56 : e56.Fits Try.prog 56 where
  desc := ⟨_, Try.underlying56, _, rfl, rfl⟩
  info := ⟨Try.t56, by kernel_rfl, rfl, rfl, fun ρ => by kernel_rfl⟩
  zok := by simp [e56, ok, okL, sz]
  zstor := by simp [e56, stor, storL, Value.oneCell']
  zsz := by kernel_rfl
  zlok := ⟨by simp [e56, ok, okL, sz, List.replicate], by simp [e56, stor, storL, Value.oneCell', List.replicate], fun ρ => by kernel_rfl⟩
  fld := by
    intro l hl
    cases hl
    intro p hp
    simp only [List.mem_cons, List.not_mem_nil, or_false] at hp
    rcases hp with rfl | rfl | rfl <;> kernel_rfl
  eqs := fun l _ => ⟨fun fs h => by rw [Try.underlying56] at h; cases h; simp, by kernel_rfl, by kernel_rfl⟩
  eld := fun n el h => by cases h
theorem fit57 : e57.Fits Try.prog 57 where
  desc := ⟨_, Try.underlying57, _, _, _, rfl⟩
  info := ⟨Try.t57, by kernel_rfl, rfl, rfl, fun ρ => by kernel_rfl⟩
  zok := by simp [e57, ok, okL, sz]
  zstor := by simp [e57, stor, storL, Value.oneCell']
  zsz := by kernel_rfl
  zlok := ⟨by simp [e57, ok, okL, sz, List.replicate], by simp [e57, stor, storL, Value.oneCell', List.replicate], fun ρ => by kernel_rfl⟩
  fld := fun l h => by cases h
  eqs := fun l h => by cases h
  eld := fun n el h => by cases h
theorem fit60 : e60.Fits Try.prog 60 where
  desc := ⟨_, Try.underlying60, _, _, _, rfl⟩
  info := ⟨Try.t60, by kernel_rfl, rfl, rfl, fun ρ => by kernel_rfl⟩
  zok := by simp [e60, ok, okL, sz]
  zstor := by simp [e60, stor, storL, Value.oneCell']
  zsz := by kernel_rfl
  zlok := ⟨by simp [e60, ok, okL, sz, List.replicate], by simp [e60, stor, storL, Value.oneCell', List.replicate], fun ρ => by kernel_rfl⟩
  fld := fun l h => by cases h
  eqs := fun l h => by cases h
  eld := fun n el h => by cases h
theorem fit63 : e63.Fits Try.prog 63 where
  desc := ⟨_, Try.underlying63, rfl⟩
  info := ⟨Try.t63, by kernel_rfl, rfl, rfl, fun ρ => by kernel_rfl⟩
  zok := by simp [e63, ok, okL, sz]
  zstor := by simp [e63, stor, storL, Value.oneCell']
  zsz := by kernel_rfl
  zlok := ⟨by simp [e63, ok, okL, sz, List.replicate], by simp [e63, stor, storL, Value.oneCell', List.replicate], fun ρ => by kernel_rfl⟩
  fld := fun l h => by cases h
  eqs := fun l h => by cases h
  eld := fun n el h => by cases h
theorem fit67 : e67.Fits Try.prog 67 where
  desc := ⟨_, Try.underlying67, rfl⟩
  info := ⟨Try.t67, by kernel_rfl, rfl, rfl, fun ρ => by kernel_rfl⟩
  zok := by simp [e67, ok, okL, sz]
  zstor := by simp [e67, stor, storL, Value.oneCell']
  zsz := by kernel_rfl
  zlok := ⟨by simp [e67, ok, okL, sz, List.replicate], by simp [e67, stor, storL, Value.oneCell', List.replicate], fun ρ => by kernel_rfl⟩
  fld := fun l h => by cases h
  eqs := fun l h => by cases h
  eld := fun n el h => by cases h
theorem fit68 : e68.Fits Try.prog 68 where
  desc := ⟨_, Try.underlying68, rfl⟩
  info := ⟨Try.t68, by kernel_rfl, rfl, rfl, fun ρ => by kernel_rfl⟩
  zok := by simp [e68, ok, okL, sz]
  zstor := by simp [e68, stor, storL, Value.oneCell']
  zsz := by kernel_rfl
  zlok := ⟨by simp [e68, ok, okL, sz, List.replicate], by simp [e68, stor, storL, Value.oneCell', List.replicate], fun ρ => by kernel_rfl⟩
  fld := fun l h => by cases h
  eqs := fun l h => by cases h
  eld := fun n el h => by cases h
theorem fit69 : e69.Fits Try.prog 69 where
  desc := ⟨_, Try.underlying69, rfl⟩
  info := ⟨Try.t69, by kernel_rfl, rfl, rfl, fun ρ => by kernel_rfl⟩
  zok := by simp [e69, ok, okL, sz]
  zstor := by simp [e69, stor, storL, Value.oneCell']
  zsz := by kernel_rfl
  zlok := ⟨by simp [e69, ok, okL, sz, List.replicate], by simp [e69, stor, storL, Value.oneCell', List.replicate], fun ρ => by kernel_rfl⟩
  fld := fun l h => by cases h
  eqs := fun l h => by cases h
  eld := fun n el h => by cases h
theorem fit73 : e73.Fits Try.prog 73 where
  desc := ⟨_, Try.underlying73, _, rfl, rfl⟩
  info := ⟨Try.t73, by kernel_rfl, rfl, rfl, fun ρ => by kernel_rfl⟩
  zok := by simp [e73, ok, okL, sz]
  zstor := by simp [e73, stor, storL, Value.oneCell']
  zsz := by kernel_rfl
  zlok := ⟨by simp [e73, ok, okL, sz, List.replicate], by simp [e73, stor, storL, Value.oneCell', List.replicate], fun ρ => by kernel_rfl⟩
  fld := by
    intro l hl
    cases hl
    intro p hp
    simp only [List.mem_cons, List.not_mem_nil, or_false] at hp
    rcases hp with rfl | rfl <;> kernel_rfl
  eqs := fun l _ => ⟨fun fs h => by rw [Try.underlying73] at h; cases h; simp, by kernel_rfl, by kernel_rfl⟩
  eld := fun n el h => by cases h
theorem fit82 : e82.Fits Try.prog 82 where
  desc := ⟨_, Try.underlying82, rfl⟩
  info := ⟨Try.t82, by kernel_rfl, rfl, rfl, fun ρ => by kernel_rfl⟩
  zok := by simp [e82, ok, okL, sz]
  zstor := by simp [e82, stor, storL, Value.oneCell']
  zsz := by kernel_rfl
  zlok := ⟨by simp [e82, ok, okL, sz, List.replicate], by simp [e82, stor, storL, Value.oneCell', List.replicate], fun ρ => by kernel_rfl⟩
  fld := fun l h => by cases h
  eqs := fun l h => by cases h
  eld := fun n el h => by cases h
theorem fit84 : e84.Fits Try.prog 84 where
  desc := ⟨_, Try.underlying84, rfl⟩
  info := ⟨Try.t84, by kernel_rfl, rfl, rfl, fun ρ => by kernel_rfl⟩
  zok := by simp [e84, ok, okL, sz]
  zstor := by simp [e84, stor, storL, Value.oneCell']
  zsz := by kernel_rfl
  zlok := ⟨by simp [e84, ok, okL, sz, List.replicate], by simp [e84, stor, storL, Value.oneCell', List.replicate], fun ρ => by kernel_rfl⟩
  fld := fun l h => by cases h
  eqs := fun l h => by cases h
  eld := fun n el h => by cases h
theorem fit86 : e86.Fits Try.prog 86 where
  desc := ⟨_, Try.underlying86, _, rfl, rfl⟩
  info := ⟨Try.t86, by kernel_rfl, rfl, rfl, fun ρ => by kernel_rfl⟩
  zok := by simp [e86, ok, okL, sz]
  zstor := by simp [e86, stor, storL, Value.oneCell']
  zsz := by kernel_rfl
  zlok := ⟨by simp [e86, ok, okL, sz, List.replicate], by simp [e86, stor, storL, Value.oneCell', List.replicate], fun ρ => by kernel_rfl⟩
  fld := by
    intro l hl
    cases hl
    intro p hp
    simp only [List.mem_cons, List.not_mem_nil, or_false] at hp
    rcases hp with rfl <;> kernel_rfl
  eqs := fun l _ => ⟨fun fs h => by rw [Try.underlying86] at h; cases h; simp, by kernel_rfl, by kernel_rfl⟩
  eld := fun n el h => by cases h
theorem fit89 : e89.Fits Try.prog 89 where
  desc := ⟨_, Try.underlying89, rfl⟩
  info := ⟨Try.t89, by kernel_rfl, rfl, rfl, fun ρ => by kernel_rfl⟩
  zok := by simp [e89, ok, okL, sz]
  zstor := by simp [e89, stor, storL, Value.oneCell']
  zsz := by kernel_rfl
  zlok := ⟨by simp [e89, ok, okL, sz, List.replicate], by simp [e89, stor, storL, Value.oneCell', List.replicate], fun ρ => by kernel_rfl⟩
  fld := fun l h => by cases h
  eqs := fun l h => by cases h
  eld := fun n el h => by cases h
theorem fit91 : e91.Fits Try.prog 91 where
  desc := ⟨_, Try.underlying91, _, rfl, rfl⟩
  info := ⟨Try.t91, by kernel_rfl, rfl, rfl, fun ρ => by kernel_rfl⟩
  zok := by simp [e91, ok, okL, sz]
  zstor := by simp [e91, stor, storL, Value.oneCell']
  zsz := by kernel_rfl
  zlok := ⟨by simp [e91, ok, okL, sz, List.replicate], by simp [e91, stor, storL, Value.oneCell', List.replicate], fun ρ => by kernel_rfl⟩
  fld := by
    intro l hl
    cases hl
    intro p hp
    simp only [List.mem_cons, List.not_mem_nil, or_false] at hp
    rcases hp with rfl <;> kernel_rfl
  eqs := fun l _ => ⟨fun fs h => by rw [Try.underlying91] at h; cases h; simp, by kernel_rfl, by kernel_rfl⟩
  eld := fun n el h => by cases h
theorem fit97 : e97.Fits Try.prog 97 where
  desc := ⟨_, Try.underlying97, _, rfl, rfl⟩
  info := ⟨Try.t97, by kernel_rfl, rfl, rfl, fun ρ => by kernel_rfl⟩
  zok := by simp [e97, ok, okL, sz]
  zstor := by simp [e97, stor, storL, Value.oneCell']
  zsz := by kernel_rfl
  zlok := ⟨by simp [e97, ok, okL, sz, List.replicate], by simp [e97, stor, storL, Value.oneCell', List.replicate], fun ρ => by kernel_rfl⟩
  fld := by
    intro l hl
    cases hl
    intro p hp
    simp only [List.mem_cons, List.not_mem_nil, or_false] at hp
    rcases hp with rfl <;> kernel_rfl
  eqs := fun l _ => ⟨fun fs h => by rw [Try.underlying97] at h; cases h; simp, by kernel_rfl, by kernel_rfl⟩
  eld := fun n el h => by cases h
theorem fit98 : e98.Fits Try.prog 98 where
  desc := ⟨_, Try.underlying98, rfl⟩
  info := ⟨Try.t98, by kernel_rfl, rfl, rfl, fun ρ => by kernel_rfl⟩
  zok := by simp [e98, ok, okL, sz]
  zstor := by simp [e98, stor, storL, Value.oneCell']
  zsz := by kernel_rfl
  zlok := ⟨by simp [e98, ok, okL, sz, List.replicate], by simp [e98, stor, storL, Value.oneCell', List.replicate], fun ρ => by kernel_rfl⟩
  fld := fun l h => by cases h
  eqs := fun l h => by cases h
  eld := fun n el h => by cases h
theorem fit100 : e100.Fits Try.prog 100 where
  desc := ⟨_, Try.underlying100, _, rfl, rfl⟩
  info := ⟨Try.t100, by kernel_rfl, rfl, rfl, fun ρ => by kernel_rfl⟩
  zok := by simp [e100, ok, okL, sz]
  zstor := by simp [e100, stor, storL, Value.oneCell']
  zsz := by kernel_rfl
  zlok := ⟨by simp [e100, ok, okL, sz, List.replicate], by simp [e100, stor, storL, Value.oneCell', List.replicate], fun ρ => by kernel_rfl⟩
  fld := by
    intro l hl
    cases hl
    intro p hp
    simp only [List.mem_cons, List.not_mem_nil, or_false] at hp
    rcases hp with rfl <;> kernel_rfl
  eqs := fun l _ => ⟨fun fs h => by rw [Try.underlying100] at h; cases h; simp, by kernel_rfl, by kernel_rfl⟩
  eld := fun n el h => by cases h
theorem fit102 : e102.Fits Try.prog 102 where
  desc := ⟨_, Try.underlying102, _, rfl, rfl⟩
  info := ⟨Try.t102, by kernel_rfl, rfl, rfl, fun ρ => by kernel_rfl⟩
  zok := by simp [e102, ok, okL, sz]
  zstor := by simp [e102, stor, storL, Value.oneCell']
  zsz := by kernel_rfl
  zlok := ⟨by simp [e102, ok, okL, sz, List.replicate], by simp [e102, stor, storL, Value.oneCell', List.replicate], fun ρ => by kernel_rfl⟩
  fld := by
    intro l hl
    cases hl
    intro p hp
    simp only [List.mem_cons, List.not_mem_nil, or_false] at hp
    rcases hp with rfl | rfl <;> kernel_rfl
  eqs := fun l _ => ⟨fun fs h => by rw [Try.underlying102] at h; cases h; simp, by kernel_rfl, by kernel_rfl⟩
  eld := fun n el h => by cases h
theorem fit110 : e110.Fits Try.prog 110 where
  desc := ⟨_, Try.underlying110, rfl⟩
  info := ⟨Try.t110, by kernel_rfl, rfl, rfl, fun ρ => by kernel_rfl⟩
  zok := by simp [e110, ok, okL, sz]
  zstor := by simp [e110, stor, storL, Value.oneCell']
  zsz := by kernel_rfl
  zlok := ⟨by simp [e110, ok, okL, sz, List.replicate], by simp [e110, stor, storL, Value.oneCell', List.replicate], fun ρ => by kernel_rfl⟩
  fld := fun l h => by cases h
  eqs := fun l h => by cases h
  eld := fun n el h => by cases h
theorem fit117 : e117.Fits Try.prog 117 where
  desc := ⟨_, Try.underlying117, rfl⟩
  info := ⟨Try.t117, by kernel_rfl, rfl, rfl, fun ρ => by kernel_rfl⟩
  zok := by simp [e117, ok, okL, sz]
  zstor := by simp [e117, stor, storL, Value.oneCell']
  zsz := by kernel_rfl
  zlok := ⟨by simp [e117, ok, okL, sz, List.replicate], by simp [e117, stor, storL, Value.oneCell', List.replicate], fun ρ => by kernel_rfl⟩
  fld := fun l h => by cases h
  eqs := fun l h => by cases h
  eld := fun n el h => by cases h

theorem tabOk : tab.Ok Try.prog := by
  intro t e h
  unfold tab at h
  split at h <;> cases h
  · exact fit3
  · exact fit4
  · exact fit9
  · exact fit22
  · exact fit24
  · exact fit25
  · exact fit30
  · exact fit32
  · exact fit42
  · exact fit46
  · exact fit51
  · exact fit52
  · exact fit54
  · exact fit56
  · exact fit57
  · exact fit60
  · exact fit63
  · exact fit67
  · exact fit68
  · exact fit69
  · exact fit73
  · exact fit82
  · exact fit84
  · exact fit86
  · exact fit89
  · exact fit91
  · exact fit97
  · exact fit98
  · exact fit100
  · exact fit102
  · exact fit110
  · exact fit117

theorem tab3 : tab 3 = some ⟨.int .i64, 1, 8, (.int .i64 0), [.int .i64 0]⟩ := rfl
theorem tab4 : tab 4 = some ⟨.bool, 1, 1, (.bool false), [.bool false]⟩ := rfl
theorem tab9 : tab 9 = some ⟨.str, 1, 16, (.str ByteArray.empty), [.str ByteArray.empty]⟩ := rfl
theorem tab22 : tab 22 = some ⟨.func, 1, 8, (.v .nilFunc), [.v .nilFunc]⟩ := rfl
theorem tab24 : tab 24 = some ⟨.func, 1, 8, (.v .nilFunc), [.v .nilFunc]⟩ := rfl
theorem tab25 : tab 25 = some ⟨.slice 3, 1, 24, (.v (.slice none 0 0)), [.v (.slice none 0 0)]⟩ := rfl
theorem tab30 : tab 30 = some ⟨.func, 1, 8, (.v .nilFunc), [.v .nilFunc]⟩ := rfl
theorem tab32 : tab 32 = some ⟨.func, 1, 8, (.v .nilFunc), [.v .nilFunc]⟩ := rfl
theorem tab42 : tab 42 = some ⟨.func, 1, 8, (.v .nilFunc), [.v .nilFunc]⟩ := rfl
theorem tab46 : tab 46 = some ⟨.ptr 86, 1, 8, (.v (.pointer none)), [.v (.pointer none)]⟩ := rfl
theorem tab51 : tab 51 = some ⟨.slice 56, 1, 24, (.v (.slice none 0 0)), [.v (.slice none 0 0)]⟩ := rfl
theorem tab52 : tab 52 = some ⟨.ptr 91, 1, 8, (.v (.pointer none)), [.v (.pointer none)]⟩ := rfl
theorem tab54 : tab 54 = some ⟨.slice 9, 1, 24, (.v (.slice none 0 0)), [.v (.slice none 0 0)]⟩ := rfl
theorem tab56 : tab 56 = some ⟨.struct [(0, 3), (1, 9), (2, 3)], 3, 32, (.agg [.int .i64 0, .str ByteArray.empty, .int .i64 0]), [.int .i64 0, .str ByteArray.empty, .int .i64 0]⟩ := rfl
theorem tab57 : tab 57 = some ⟨.func, 1, 8, (.v .nilFunc), [.v .nilFunc]⟩ := rfl
theorem tab60 : tab 60 = some ⟨.func, 1, 8, (.v .nilFunc), [.v .nilFunc]⟩ := rfl
theorem tab63 : tab 63 = some ⟨.ptr 97, 1, 8, (.v (.pointer none)), [.v (.pointer none)]⟩ := rfl
theorem tab67 : tab 67 = some ⟨.slice 73, 1, 24, (.v (.slice none 0 0)), [.v (.slice none 0 0)]⟩ := rfl
theorem tab68 : tab 68 = some ⟨.int .u64, 1, 8, (.int .u64 0), [.int .u64 0]⟩ := rfl
theorem tab69 : tab 69 = some ⟨.ptr 102, 1, 8, (.v (.pointer none)), [.v (.pointer none)]⟩ := rfl
theorem tab73 : tab 73 = some ⟨.struct [(0, 3), (1, 9)], 2, 24, (.agg [.int .i64 0, .str ByteArray.empty]), [.int .i64 0, .str ByteArray.empty]⟩ := rfl
theorem tab82 : tab 82 = some ⟨.slice 30, 1, 24, (.v (.slice none 0 0)), [.v (.slice none 0 0)]⟩ := rfl
theorem tab84 : tab 84 = some ⟨.map 3 3, 1, 8, (.v (.map none)), [.v (.map none)]⟩ := rfl
theorem tab86 : tab 86 = some ⟨.struct [(0, 84)], 1, 8, (.agg [.v (.map none)]), [.v (.map none)]⟩ := rfl
theorem tab89 : tab 89 = some ⟨.map 9 3, 1, 8, (.v (.map none)), [.v (.map none)]⟩ := rfl
theorem tab91 : tab 91 = some ⟨.struct [(0, 89)], 1, 8, (.agg [.v (.map none)]), [.v (.map none)]⟩ := rfl
theorem tab97 : tab 97 = some ⟨.struct [(0, 89)], 1, 8, (.agg [.v (.map none)]), [.v (.map none)]⟩ := rfl
theorem tab98 : tab 98 = some ⟨.map 9 46, 1, 8, (.v (.map none)), [.v (.map none)]⟩ := rfl
theorem tab100 : tab 100 = some ⟨.struct [(0, 98)], 1, 8, (.agg [.v (.map none)]), [.v (.map none)]⟩ := rfl
theorem tab102 : tab 102 = some ⟨.struct [(0, 3), (1, 100)], 2, 16, (.agg [.int .i64 0, .v (.map none)]), [.int .i64 0, .v (.map none)]⟩ := rfl
theorem tab110 : tab 110 = some ⟨.ptr 100, 1, 8, (.v (.pointer none)), [.v (.pointer none)]⟩ := rfl
theorem tab117 : tab 117 = some ⟨.int .u64, 1, 8, (.int .u64 0), [.int .u64 0]⟩ := rfl
/-- The rules in one. -/
def tabB := And.intro @tab3 (And.intro @tab4 (And.intro @tab9 (And.intro @tab22 (And.intro @tab24 (And.intro @tab25 (And.intro @tab30 (And.intro @tab32 (And.intro @tab42 (And.intro @tab46 (And.intro @tab51 (And.intro @tab52 (And.intro @tab54 (And.intro @tab56 (And.intro @tab57 (And.intro @tab60 (And.intro @tab63 (And.intro @tab67 (And.intro @tab68 (And.intro @tab69 (And.intro @tab73 (And.intro @tab82 (And.intro @tab84 (And.intro @tab86 (And.intro @tab89 (And.intro @tab91 (And.intro @tab97 (And.intro @tab98 (And.intro @tab100 (And.intro @tab102 (And.intro @tab110 (@tab117)))))))))))))))))))))))))))))))
end Go.Proofs.Ytloinbebkhcndaa
