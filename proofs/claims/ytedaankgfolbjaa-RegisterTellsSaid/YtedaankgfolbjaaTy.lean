/- The types of the program, as far as the evaluator asks for them. Printed by gen_ty.py. -/
import Derived.Test.YtedaankgfolbjaaChecked
import Derived.Test.YtedaankgfolbjaaAv15
set_option linter.unusedVariables false
set_option linter.unusedSimpArgs false
namespace Go.Proofs.Av
open Go.Proofs

def ty : TypeId → Option TyI
  | 1 => some ⟨.other, 1, 8, [.nilFunc]⟩
  | 3 => some ⟨.int .i64, 1, 8, [.int .i64 0]⟩
  | 4 => some ⟨.bool, 1, 1, [.bool false]⟩
  | 5 => some ⟨.int .u8, 1, 1, [.int .u8 0]⟩
  | 9 => some ⟨.str, 1, 16, [.string ⟨#[]⟩]⟩
  | 21 => some ⟨.int .i32, 1, 4, [.int .i32 0]⟩
  | 23 => some ⟨.struct [(0, 3), (1, 3)], 2, 16, [.int .i64 0, .int .i64 0]⟩
  | 25 => some ⟨.struct [(0, 3), (1, 3), (2, 3)], 3, 24, [.int .i64 0, .int .i64 0, .int .i64 0]⟩
  | 26 => some ⟨.slice 111, 1, 24, [.slice none 0 0]⟩
  | 27 => some ⟨.slice 23, 1, 24, [.slice none 0 0]⟩
  | 29 => some ⟨.struct [(0, 23), (2, 25), (5, 26), (6, 27)], 7, 88, [.int .i64 0, .int .i64 0, .int .i64 0, .int .i64 0, .int .i64 0, .slice none 0 0, .slice none 0 0]⟩
  | 32 => some ⟨.int .i64, 1, 8, [.int .i64 0]⟩
  | 41 => some ⟨.slice 51, 1, 24, [.slice none 0 0]⟩
  | 42 => some ⟨.ptr 163, 1, 8, [.pointer none]⟩
  | 45 => some ⟨.slice 176, 1, 24, [.slice none 0 0]⟩
  | 47 => some ⟨.struct [(0, 3), (1, 45), (2, 4), (3, 3)], 4, 48, [.int .i64 0, .slice none 0 0, .bool false, .int .i64 0]⟩
  | 51 => some ⟨.struct [(0, 3), (1, 9), (2, 9), (3, 9), (4, 3)], 5, 64, [.int .i64 0, .string ⟨#[]⟩, .string ⟨#[]⟩, .string ⟨#[]⟩, .int .i64 0]⟩
  | 57 => some ⟨.slice 9, 1, 24, [.slice none 0 0]⟩
  | 68 => some ⟨.slice 80, 1, 24, [.slice none 0 0]⟩
  | 69 => some ⟨.ptr 182, 1, 8, [.pointer none]⟩
  | 73 => some ⟨.slice 78, 1, 24, [.slice none 0 0]⟩
  | 76 => some ⟨.arr 16 3, 16, 128, [.int .i64 0, .int .i64 0, .int .i64 0, .int .i64 0, .int .i64 0, .int .i64 0, .int .i64 0, .int .i64 0, .int .i64 0, .int .i64 0, .int .i64 0, .int .i64 0, .int .i64 0, .int .i64 0, .int .i64 0, .int .i64 0]⟩
  | 78 => some ⟨.struct [(0, 76), (16, 27)], 17, 152, [.int .i64 0, .int .i64 0, .int .i64 0, .int .i64 0, .int .i64 0, .int .i64 0, .int .i64 0, .int .i64 0, .int .i64 0, .int .i64 0, .int .i64 0, .int .i64 0, .int .i64 0, .int .i64 0, .int .i64 0, .int .i64 0, .slice none 0 0]⟩
  | 80 => some ⟨.struct [(0, 3), (1, 78)], 18, 160, [.int .i64 0, .int .i64 0, .int .i64 0, .int .i64 0, .int .i64 0, .int .i64 0, .int .i64 0, .int .i64 0, .int .i64 0, .int .i64 0, .int .i64 0, .int .i64 0, .int .i64 0, .int .i64 0, .int .i64 0, .int .i64 0, .int .i64 0, .slice none 0 0]⟩
  | 111 => some ⟨.struct [(0, 23), (2, 25), (5, 3), (6, 9), (7, 9)], 8, 80, [.int .i64 0, .int .i64 0, .int .i64 0, .int .i64 0, .int .i64 0, .int .i64 0, .string ⟨#[]⟩, .string ⟨#[]⟩]⟩
  | 124 => some ⟨.struct [(0, 3), (1, 29), (8, 78), (25, 3)], 26, 256, [.int .i64 0, .int .i64 0, .int .i64 0, .int .i64 0, .int .i64 0, .int .i64 0, .slice none 0 0, .slice none 0 0, .int .i64 0, .int .i64 0, .int .i64 0, .int .i64 0, .int .i64 0, .int .i64 0, .int .i64 0, .int .i64 0, .int .i64 0, .int .i64 0, .int .i64 0, .int .i64 0, .int .i64 0, .int .i64 0, .int .i64 0, .int .i64 0, .slice none 0 0, .int .i64 0]⟩
  | 125 => some ⟨.ptr 223, 1, 8, [.pointer none]⟩
  | 126 => some ⟨.slice 29, 1, 24, [.slice none 0 0]⟩
  | 139 => some ⟨.ptr 143, 1, 8, [.pointer none]⟩
  | 140 => some ⟨.ptr 237, 1, 8, [.pointer none]⟩
  | 143 => some ⟨.struct [(0, 140), (1, 32)], 2, 16, [.pointer none, .int .i64 0]⟩
  | 145 => some ⟨.other, 1, 8, [.nilFunc]⟩
  | 149 => some ⟨.struct [(0, 9), (1, 3)], 2, 24, [.string ⟨#[]⟩, .int .i64 0]⟩
  | 157 => some ⟨.arr 4 3, 4, 32, [.int .i64 0, .int .i64 0, .int .i64 0, .int .i64 0]⟩
  | 160 => some ⟨.arr 2 9, 2, 32, [.string ⟨#[]⟩, .string ⟨#[]⟩]⟩
  | 163 => some ⟨.struct [(0, 3), (1, 161), (2, 4), (3, 3), (4, 4)], 5, 40, [.int .i64 0, .map none, .bool false, .int .i64 0, .bool false]⟩
  | 166 => some ⟨.struct [(0, 9), (1, 3)], 2, 24, [.string ⟨#[]⟩, .int .i64 0]⟩
  | 172 => some ⟨.other, 1, 8, [.nilFunc]⟩
  | 176 => some ⟨.struct [(0, 9), (1, 9), (2, 3)], 3, 40, [.string ⟨#[]⟩, .string ⟨#[]⟩, .int .i64 0]⟩
  | 179 => some ⟨.other, 1, 8, [.nilFunc]⟩
  | 204 => some ⟨.ptr 207, 1, 8, [.pointer none]⟩
  | 205 => some ⟨.slice 5, 1, 24, [.slice none 0 0]⟩
  | 207 => some ⟨.struct [(0, 204), (1, 205)], 2, 32, [.pointer none, .slice none 0 0]⟩
  | 212 => some ⟨.arr 5 3, 5, 40, [.int .i64 0, .int .i64 0, .int .i64 0, .int .i64 0, .int .i64 0]⟩
  | 214 => some ⟨.other, 1, 8, [.nilFunc]⟩
  | 218 => some ⟨.other, 1, 8, [.nilFunc]⟩
  | 223 => some ⟨.struct [(0, 221)], 1, 8, [.map none]⟩
  | 226 => some ⟨.other, 1, 8, [.nilFunc]⟩
  | 235 => some ⟨.other, 1, 8, [.nilFunc]⟩
  | 237 => some ⟨.struct [(0, 9), (1, 32)], 2, 24, [.string ⟨#[]⟩, .int .i64 0]⟩
  | 239 => some ⟨.other, 1, 8, [.nilFunc]⟩
  | 243 => some ⟨.int .u64, 1, 8, [.int .u64 0]⟩
  | 250 => some ⟨.struct [], 0, 0, []⟩
  | 252 => some ⟨.struct [(0, 78), (17, 78)], 34, 304, [.int .i64 0, .int .i64 0, .int .i64 0, .int .i64 0, .int .i64 0, .int .i64 0, .int .i64 0, .int .i64 0, .int .i64 0, .int .i64 0, .int .i64 0, .int .i64 0, .int .i64 0, .int .i64 0, .int .i64 0, .int .i64 0, .slice none 0 0, .int .i64 0, .int .i64 0, .int .i64 0, .int .i64 0, .int .i64 0, .int .i64 0, .int .i64 0, .int .i64 0, .int .i64 0, .int .i64 0, .int .i64 0, .int .i64 0, .int .i64 0, .int .i64 0, .int .i64 0, .int .i64 0, .slice none 0 0]⟩
  | 256 => some ⟨.other, 1, 8, [.nilFunc]⟩
  | 257 => some ⟨.slice 27, 1, 24, [.slice none 0 0]⟩
  | 261 => some ⟨.ptr 5, 1, 8, [.pointer none]⟩
  | 267 => some ⟨.other, 1, 8, [.nilFunc]⟩
  | 269 => some ⟨.other, 1, 8, [.nilFunc]⟩
  | 271 => some ⟨.other, 1, 8, [.nilFunc]⟩
  | 285 => some ⟨.struct [(0, 3), (1, 3), (2, 57)], 3, 40, [.int .i64 0, .int .i64 0, .slice none 0 0]⟩
  | 300 => some ⟨.int .u32, 1, 4, [.int .u32 0]⟩
  | 302 => some ⟨.int .u64, 1, 8, [.int .u64 0]⟩
  | 303 => some ⟨.slice 3, 1, 24, [.slice none 0 0]⟩
  | 306 => some ⟨.struct [(0, 3), (1, 3), (2, 3)], 3, 24, [.int .i64 0, .int .i64 0, .int .i64 0]⟩
  | 318 => some ⟨.int .u64, 1, 8, [.int .u64 0]⟩
  | 332 => some ⟨.other, 1, 8, [.nilFunc]⟩
  | 334 => some ⟨.ptr 318, 1, 8, [.pointer none]⟩
  | _ => none

theorem ty_1 : ty 1 = some ⟨.other, 1, 8, [.nilFunc]⟩ := rfl -- func()
theorem tyOk_1 : TyOk Try.prog 1 ⟨.other, 1, 8, [.nilFunc]⟩ := ⟨⟨Try.t1, by kernel_rfl, rfl, rfl, _, rfl, rfl⟩, ⟨_, Try.underlying1, trivial⟩, by simp [Value.oneCell'], rfl, by kernel_rfl⟩
theorem ty_3 : ty 3 = some ⟨.int .i64, 1, 8, [.int .i64 0]⟩ := rfl -- int
theorem tyOk_3 : TyOk Try.prog 3 ⟨.int .i64, 1, 8, [.int .i64 0]⟩ := ⟨⟨Try.t3, by kernel_rfl, rfl, rfl, _, rfl, rfl⟩, ⟨_, Try.underlying3, rfl⟩, by simp [Value.oneCell'], rfl, by kernel_rfl⟩
theorem ty_4 : ty 4 = some ⟨.bool, 1, 1, [.bool false]⟩ := rfl -- bool
theorem tyOk_4 : TyOk Try.prog 4 ⟨.bool, 1, 1, [.bool false]⟩ := ⟨⟨Try.t4, by kernel_rfl, rfl, rfl, _, rfl, rfl⟩, ⟨_, Try.underlying4, trivial⟩, by simp [Value.oneCell'], rfl, by kernel_rfl⟩
theorem ty_5 : ty 5 = some ⟨.int .u8, 1, 1, [.int .u8 0]⟩ := rfl -- uint8
theorem tyOk_5 : TyOk Try.prog 5 ⟨.int .u8, 1, 1, [.int .u8 0]⟩ := ⟨⟨Try.t5, by kernel_rfl, rfl, rfl, _, rfl, rfl⟩, ⟨_, Try.underlying5, rfl⟩, by simp [Value.oneCell'], rfl, by kernel_rfl⟩
theorem ty_9 : ty 9 = some ⟨.str, 1, 16, [.string ⟨#[]⟩]⟩ := rfl -- string
theorem tyOk_9 : TyOk Try.prog 9 ⟨.str, 1, 16, [.string ⟨#[]⟩]⟩ := ⟨⟨Try.t9, by kernel_rfl, rfl, rfl, _, rfl, rfl⟩, ⟨_, Try.underlying9, trivial⟩, by simp [Value.oneCell'], rfl, by kernel_rfl⟩
theorem ty_21 : ty 21 = some ⟨.int .i32, 1, 4, [.int .i32 0]⟩ := rfl -- int32
theorem tyOk_21 : TyOk Try.prog 21 ⟨.int .i32, 1, 4, [.int .i32 0]⟩ := ⟨⟨Try.t21, by kernel_rfl, rfl, rfl, _, rfl, rfl⟩, ⟨_, Try.underlying21, rfl⟩, by simp [Value.oneCell'], rfl, by kernel_rfl⟩
theorem ty_23 : ty 23 = some ⟨.struct [(0, 3), (1, 3)], 2, 16, [.int .i64 0, .int .i64 0]⟩ := rfl -- api.Dot
theorem tyOk_23 : TyOk Try.prog 23 ⟨.struct [(0, 3), (1, 3)], 2, 16, [.int .i64 0, .int .i64 0]⟩ := ⟨⟨Try.t23, by kernel_rfl, rfl, rfl, _, rfl, rfl⟩, ⟨_, Try.underlying23, rfl⟩, by simp [Value.oneCell'], rfl, by kernel_rfl⟩
theorem ty_25 : ty 25 = some ⟨.struct [(0, 3), (1, 3), (2, 3)], 3, 24, [.int .i64 0, .int .i64 0, .int .i64 0]⟩ := rfl -- api.Stamp
theorem tyOk_25 : TyOk Try.prog 25 ⟨.struct [(0, 3), (1, 3), (2, 3)], 3, 24, [.int .i64 0, .int .i64 0, .int .i64 0]⟩ := ⟨⟨Try.t25, by kernel_rfl, rfl, rfl, _, rfl, rfl⟩, ⟨_, Try.underlying25, rfl⟩, by simp [Value.oneCell'], rfl, by kernel_rfl⟩
theorem ty_26 : ty 26 = some ⟨.slice 111, 1, 24, [.slice none 0 0]⟩ := rfl -- []api.Fact
theorem tyOk_26 : TyOk Try.prog 26 ⟨.slice 111, 1, 24, [.slice none 0 0]⟩ := ⟨⟨Try.t26, by kernel_rfl, rfl, rfl, _, rfl, rfl⟩, ⟨_, Try.underlying26, rfl⟩, by simp [Value.oneCell'], rfl, by kernel_rfl⟩
theorem ty_27 : ty 27 = some ⟨.slice 23, 1, 24, [.slice none 0 0]⟩ := rfl -- []api.Dot
theorem tyOk_27 : TyOk Try.prog 27 ⟨.slice 23, 1, 24, [.slice none 0 0]⟩ := ⟨⟨Try.t27, by kernel_rfl, rfl, rfl, _, rfl, rfl⟩, ⟨_, Try.underlying27, rfl⟩, by simp [Value.oneCell'], rfl, by kernel_rfl⟩
theorem ty_29 : ty 29 = some ⟨.struct [(0, 23), (2, 25), (5, 26), (6, 27)], 7, 88, [.int .i64 0, .int .i64 0, .int .i64 0, .int .i64 0, .int .i64 0, .slice none 0 0, .slice none 0 0]⟩ := rfl -- api.Delta
theorem tyOk_29 : TyOk Try.prog 29 ⟨.struct [(0, 23), (2, 25), (5, 26), (6, 27)], 7, 88, [.int .i64 0, .int .i64 0, .int .i64 0, .int .i64 0, .int .i64 0, .slice none 0 0, .slice none 0 0]⟩ := ⟨⟨Try.t29, by kernel_rfl, rfl, rfl, _, rfl, rfl⟩, ⟨_, Try.underlying29, rfl⟩, by simp [Value.oneCell'], rfl, by kernel_rfl⟩
theorem ty_32 : ty 32 = some ⟨.int .i64, 1, 8, [.int .i64 0]⟩ := rfl -- api.Errno
theorem tyOk_32 : TyOk Try.prog 32 ⟨.int .i64, 1, 8, [.int .i64 0]⟩ := ⟨⟨Try.t32, by kernel_rfl, rfl, rfl, _, rfl, rfl⟩, ⟨_, Try.underlying32, rfl⟩, by simp [Value.oneCell'], rfl, by kernel_rfl⟩
theorem ty_41 : ty 41 = some ⟨.slice 51, 1, 24, [.slice none 0 0]⟩ := rfl -- []almonrylaw06.Deed
theorem tyOk_41 : TyOk Try.prog 41 ⟨.slice 51, 1, 24, [.slice none 0 0]⟩ := ⟨⟨Try.t41, by kernel_rfl, rfl, rfl, _, rfl, rfl⟩, ⟨_, Try.underlying41, rfl⟩, by simp [Value.oneCell'], rfl, by kernel_rfl⟩
theorem ty_42 : ty 42 = some ⟨.ptr 163, 1, 8, [.pointer none]⟩ := rfl -- *disk.Disk
theorem tyOk_42 : TyOk Try.prog 42 ⟨.ptr 163, 1, 8, [.pointer none]⟩ := ⟨⟨Try.t42, by kernel_rfl, rfl, rfl, _, rfl, rfl⟩, ⟨_, Try.underlying42, rfl⟩, by simp [Value.oneCell'], rfl, by kernel_rfl⟩
theorem ty_45 : ty 45 = some ⟨.slice 176, 1, 24, [.slice none 0 0]⟩ := rfl -- []almonryref06.F
theorem tyOk_45 : TyOk Try.prog 45 ⟨.slice 176, 1, 24, [.slice none 0 0]⟩ := ⟨⟨Try.t45, by kernel_rfl, rfl, rfl, _, rfl, rfl⟩, ⟨_, Try.underlying45, rfl⟩, by simp [Value.oneCell'], rfl, by kernel_rfl⟩
theorem ty_47 : ty 47 = some ⟨.struct [(0, 3), (1, 45), (2, 4), (3, 3)], 4, 48, [.int .i64 0, .slice none 0 0, .bool false, .int .i64 0]⟩ := rfl -- almonryref06.D
theorem tyOk_47 : TyOk Try.prog 47 ⟨.struct [(0, 3), (1, 45), (2, 4), (3, 3)], 4, 48, [.int .i64 0, .slice none 0 0, .bool false, .int .i64 0]⟩ := ⟨⟨Try.t47, by kernel_rfl, rfl, rfl, _, rfl, rfl⟩, ⟨_, Try.underlying47, rfl⟩, by simp [Value.oneCell'], rfl, by kernel_rfl⟩
theorem ty_51 : ty 51 = some ⟨.struct [(0, 3), (1, 9), (2, 9), (3, 9), (4, 3)], 5, 64, [.int .i64 0, .string ⟨#[]⟩, .string ⟨#[]⟩, .string ⟨#[]⟩, .int .i64 0]⟩ := rfl -- almonrylaw06.Deed
theorem tyOk_51 : TyOk Try.prog 51 ⟨.struct [(0, 3), (1, 9), (2, 9), (3, 9), (4, 3)], 5, 64, [.int .i64 0, .string ⟨#[]⟩, .string ⟨#[]⟩, .string ⟨#[]⟩, .int .i64 0]⟩ := ⟨⟨Try.t51, by kernel_rfl, rfl, rfl, _, rfl, rfl⟩, ⟨_, Try.underlying51, rfl⟩, by simp [Value.oneCell'], rfl, by kernel_rfl⟩
theorem ty_57 : ty 57 = some ⟨.slice 9, 1, 24, [.slice none 0 0]⟩ := rfl -- []string
theorem tyOk_57 : TyOk Try.prog 57 ⟨.slice 9, 1, 24, [.slice none 0 0]⟩ := ⟨⟨Try.t57, by kernel_rfl, rfl, rfl, _, rfl, rfl⟩, ⟨_, Try.underlying57, rfl⟩, by simp [Value.oneCell'], rfl, by kernel_rfl⟩
theorem ty_68 : ty 68 = some ⟨.slice 80, 1, 24, [.slice none 0 0]⟩ := rfl -- []almonrylaw24.Deed
theorem tyOk_68 : TyOk Try.prog 68 ⟨.slice 80, 1, 24, [.slice none 0 0]⟩ := ⟨⟨Try.t68, by kernel_rfl, rfl, rfl, _, rfl, rfl⟩, ⟨_, Try.underlying68, rfl⟩, by simp [Value.oneCell'], rfl, by kernel_rfl⟩
theorem ty_69 : ty 69 = some ⟨.ptr 182, 1, 8, [.pointer none]⟩ := rfl -- *matrix.Matrix
theorem tyOk_69 : TyOk Try.prog 69 ⟨.ptr 182, 1, 8, [.pointer none]⟩ := ⟨⟨Try.t69, by kernel_rfl, rfl, rfl, _, rfl, rfl⟩, ⟨_, Try.underlying69, rfl⟩, by simp [Value.oneCell'], rfl, by kernel_rfl⟩
theorem ty_73 : ty 73 = some ⟨.slice 78, 1, 24, [.slice none 0 0]⟩ := rfl -- almonryref24.M
theorem tyOk_73 : TyOk Try.prog 73 ⟨.slice 78, 1, 24, [.slice none 0 0]⟩ := ⟨⟨Try.t73, by kernel_rfl, rfl, rfl, _, rfl, rfl⟩, ⟨_, Try.underlying73, rfl⟩, by simp [Value.oneCell'], rfl, by kernel_rfl⟩
theorem ty_76 : ty 76 = some ⟨.arr 16 3, 16, 128, [.int .i64 0, .int .i64 0, .int .i64 0, .int .i64 0, .int .i64 0, .int .i64 0, .int .i64 0, .int .i64 0, .int .i64 0, .int .i64 0, .int .i64 0, .int .i64 0, .int .i64 0, .int .i64 0, .int .i64 0, .int .i64 0]⟩ := rfl -- api.Vector
theorem tyOk_76 : TyOk Try.prog 76 ⟨.arr 16 3, 16, 128, [.int .i64 0, .int .i64 0, .int .i64 0, .int .i64 0, .int .i64 0, .int .i64 0, .int .i64 0, .int .i64 0, .int .i64 0, .int .i64 0, .int .i64 0, .int .i64 0, .int .i64 0, .int .i64 0, .int .i64 0, .int .i64 0]⟩ := ⟨⟨Try.t76, by kernel_rfl, rfl, rfl, _, rfl, rfl⟩, ⟨_, Try.underlying76, ⟨rfl, rfl⟩⟩, by simp [Value.oneCell'], rfl, by kernel_rfl⟩
theorem ty_78 : ty 78 = some ⟨.struct [(0, 76), (16, 27)], 17, 152, [.int .i64 0, .int .i64 0, .int .i64 0, .int .i64 0, .int .i64 0, .int .i64 0, .int .i64 0, .int .i64 0, .int .i64 0, .int .i64 0, .int .i64 0, .int .i64 0, .int .i64 0, .int .i64 0, .int .i64 0, .int .i64 0, .slice none 0 0]⟩ := rfl -- api.Context
theorem tyOk_78 : TyOk Try.prog 78 ⟨.struct [(0, 76), (16, 27)], 17, 152, [.int .i64 0, .int .i64 0, .int .i64 0, .int .i64 0, .int .i64 0, .int .i64 0, .int .i64 0, .int .i64 0, .int .i64 0, .int .i64 0, .int .i64 0, .int .i64 0, .int .i64 0, .int .i64 0, .int .i64 0, .int .i64 0, .slice none 0 0]⟩ := ⟨⟨Try.t78, by kernel_rfl, rfl, rfl, _, rfl, rfl⟩, ⟨_, Try.underlying78, rfl⟩, by simp [Value.oneCell'], rfl, by kernel_rfl⟩
theorem ty_80 : ty 80 = some ⟨.struct [(0, 3), (1, 78)], 18, 160, [.int .i64 0, .int .i64 0, .int .i64 0, .int .i64 0, .int .i64 0, .int .i64 0, .int .i64 0, .int .i64 0, .int .i64 0, .int .i64 0, .int .i64 0, .int .i64 0, .int .i64 0, .int .i64 0, .int .i64 0, .int .i64 0, .int .i64 0, .slice none 0 0]⟩ := rfl -- almonrylaw24.Deed
theorem tyOk_80 : TyOk Try.prog 80 ⟨.struct [(0, 3), (1, 78)], 18, 160, [.int .i64 0, .int .i64 0, .int .i64 0, .int .i64 0, .int .i64 0, .int .i64 0, .int .i64 0, .int .i64 0, .int .i64 0, .int .i64 0, .int .i64 0, .int .i64 0, .int .i64 0, .int .i64 0, .int .i64 0, .int .i64 0, .int .i64 0, .slice none 0 0]⟩ := ⟨⟨Try.t80, by kernel_rfl, rfl, rfl, _, rfl, rfl⟩, ⟨_, Try.underlying80, rfl⟩, by simp [Value.oneCell'], rfl, by kernel_rfl⟩
theorem ty_111 : ty 111 = some ⟨.struct [(0, 23), (2, 25), (5, 3), (6, 9), (7, 9)], 8, 80, [.int .i64 0, .int .i64 0, .int .i64 0, .int .i64 0, .int .i64 0, .int .i64 0, .string ⟨#[]⟩, .string ⟨#[]⟩]⟩ := rfl -- api.Fact
theorem tyOk_111 : TyOk Try.prog 111 ⟨.struct [(0, 23), (2, 25), (5, 3), (6, 9), (7, 9)], 8, 80, [.int .i64 0, .int .i64 0, .int .i64 0, .int .i64 0, .int .i64 0, .int .i64 0, .string ⟨#[]⟩, .string ⟨#[]⟩]⟩ := ⟨⟨Try.t111, by kernel_rfl, rfl, rfl, _, rfl, rfl⟩, ⟨_, Try.underlying111, rfl⟩, by simp [Value.oneCell'], rfl, by kernel_rfl⟩
theorem ty_124 : ty 124 = some ⟨.struct [(0, 3), (1, 29), (8, 78), (25, 3)], 26, 256, [.int .i64 0, .int .i64 0, .int .i64 0, .int .i64 0, .int .i64 0, .int .i64 0, .slice none 0 0, .slice none 0 0, .int .i64 0, .int .i64 0, .int .i64 0, .int .i64 0, .int .i64 0, .int .i64 0, .int .i64 0, .int .i64 0, .int .i64 0, .int .i64 0, .int .i64 0, .int .i64 0, .int .i64 0, .int .i64 0, .int .i64 0, .int .i64 0, .slice none 0 0, .int .i64 0]⟩ := rfl -- almonrylaw25.Deed
theorem tyOk_124 : TyOk Try.prog 124 ⟨.struct [(0, 3), (1, 29), (8, 78), (25, 3)], 26, 256, [.int .i64 0, .int .i64 0, .int .i64 0, .int .i64 0, .int .i64 0, .int .i64 0, .slice none 0 0, .slice none 0 0, .int .i64 0, .int .i64 0, .int .i64 0, .int .i64 0, .int .i64 0, .int .i64 0, .int .i64 0, .int .i64 0, .int .i64 0, .int .i64 0, .int .i64 0, .int .i64 0, .int .i64 0, .int .i64 0, .int .i64 0, .int .i64 0, .slice none 0 0, .int .i64 0]⟩ := ⟨⟨Try.t124, by kernel_rfl, rfl, rfl, _, rfl, rfl⟩, ⟨_, Try.underlying124, rfl⟩, by simp [Value.oneCell'], rfl, by kernel_rfl⟩
theorem ty_125 : ty 125 = some ⟨.ptr 223, 1, 8, [.pointer none]⟩ := rfl -- *buffer.Buffer
theorem tyOk_125 : TyOk Try.prog 125 ⟨.ptr 223, 1, 8, [.pointer none]⟩ := ⟨⟨Try.t125, by kernel_rfl, rfl, rfl, _, rfl, rfl⟩, ⟨_, Try.underlying125, rfl⟩, by simp [Value.oneCell'], rfl, by kernel_rfl⟩
theorem ty_126 : ty 126 = some ⟨.slice 29, 1, 24, [.slice none 0 0]⟩ := rfl -- []api.Delta
theorem tyOk_126 : TyOk Try.prog 126 ⟨.slice 29, 1, 24, [.slice none 0 0]⟩ := ⟨⟨Try.t126, by kernel_rfl, rfl, rfl, _, rfl, rfl⟩, ⟨_, Try.underlying126, rfl⟩, by simp [Value.oneCell'], rfl, by kernel_rfl⟩
theorem ty_139 : ty 139 = some ⟨.ptr 143, 1, 8, [.pointer none]⟩ := rfl -- *delta.reader
theorem tyOk_139 : TyOk Try.prog 139 ⟨.ptr 143, 1, 8, [.pointer none]⟩ := ⟨⟨Try.t139, by kernel_rfl, rfl, rfl, _, rfl, rfl⟩, ⟨_, Try.underlying139, rfl⟩, by simp [Value.oneCell'], rfl, by kernel_rfl⟩
theorem ty_140 : ty 140 = some ⟨.ptr 237, 1, 8, [.pointer none]⟩ := rfl -- *wire.Reader
theorem tyOk_140 : TyOk Try.prog 140 ⟨.ptr 237, 1, 8, [.pointer none]⟩ := ⟨⟨Try.t140, by kernel_rfl, rfl, rfl, _, rfl, rfl⟩, ⟨_, Try.underlying140, rfl⟩, by simp [Value.oneCell'], rfl, by kernel_rfl⟩
theorem ty_143 : ty 143 = some ⟨.struct [(0, 140), (1, 32)], 2, 16, [.pointer none, .int .i64 0]⟩ := rfl -- delta.reader
theorem tyOk_143 : TyOk Try.prog 143 ⟨.struct [(0, 140), (1, 32)], 2, 16, [.pointer none, .int .i64 0]⟩ := ⟨⟨Try.t143, by kernel_rfl, rfl, rfl, _, rfl, rfl⟩, ⟨_, Try.underlying143, rfl⟩, by simp [Value.oneCell'], rfl, by kernel_rfl⟩
theorem ty_145 : ty 145 = some ⟨.other, 1, 8, [.nilFunc]⟩ := rfl -- func() api.Errno
theorem tyOk_145 : TyOk Try.prog 145 ⟨.other, 1, 8, [.nilFunc]⟩ := ⟨⟨Try.t145, by kernel_rfl, rfl, rfl, _, rfl, rfl⟩, ⟨_, Try.underlying145, trivial⟩, by simp [Value.oneCell'], rfl, by kernel_rfl⟩
theorem ty_149 : ty 149 = some ⟨.struct [(0, 9), (1, 3)], 2, 24, [.string ⟨#[]⟩, .int .i64 0]⟩ := rfl -- almonryref01.R
theorem tyOk_149 : TyOk Try.prog 149 ⟨.struct [(0, 9), (1, 3)], 2, 24, [.string ⟨#[]⟩, .int .i64 0]⟩ := ⟨⟨Try.t149, by kernel_rfl, rfl, rfl, _, rfl, rfl⟩, ⟨_, Try.underlying149, rfl⟩, by simp [Value.oneCell'], rfl, by kernel_rfl⟩
theorem ty_157 : ty 157 = some ⟨.arr 4 3, 4, 32, [.int .i64 0, .int .i64 0, .int .i64 0, .int .i64 0]⟩ := rfl -- [4]int
theorem tyOk_157 : TyOk Try.prog 157 ⟨.arr 4 3, 4, 32, [.int .i64 0, .int .i64 0, .int .i64 0, .int .i64 0]⟩ := ⟨⟨Try.t157, by kernel_rfl, rfl, rfl, _, rfl, rfl⟩, ⟨_, Try.underlying157, ⟨rfl, rfl⟩⟩, by simp [Value.oneCell'], rfl, by kernel_rfl⟩
theorem ty_160 : ty 160 = some ⟨.arr 2 9, 2, 32, [.string ⟨#[]⟩, .string ⟨#[]⟩]⟩ := rfl -- [2]string
theorem tyOk_160 : TyOk Try.prog 160 ⟨.arr 2 9, 2, 32, [.string ⟨#[]⟩, .string ⟨#[]⟩]⟩ := ⟨⟨Try.t160, by kernel_rfl, rfl, rfl, _, rfl, rfl⟩, ⟨_, Try.underlying160, ⟨rfl, rfl⟩⟩, by simp [Value.oneCell'], rfl, by kernel_rfl⟩
theorem ty_163 : ty 163 = some ⟨.struct [(0, 3), (1, 161), (2, 4), (3, 3), (4, 4)], 5, 40, [.int .i64 0, .map none, .bool false, .int .i64 0, .bool false]⟩ := rfl -- disk.Disk
theorem tyOk_163 : TyOk Try.prog 163 ⟨.struct [(0, 3), (1, 161), (2, 4), (3, 3), (4, 4)], 5, 40, [.int .i64 0, .map none, .bool false, .int .i64 0, .bool false]⟩ := ⟨⟨Try.t163, by kernel_rfl, rfl, rfl, _, rfl, rfl⟩, ⟨_, Try.underlying163, rfl⟩, by simp [Value.oneCell'], rfl, by kernel_rfl⟩
theorem ty_166 : ty 166 = some ⟨.struct [(0, 9), (1, 3)], 2, 24, [.string ⟨#[]⟩, .int .i64 0]⟩ := rfl -- disk.file
theorem tyOk_166 : TyOk Try.prog 166 ⟨.struct [(0, 9), (1, 3)], 2, 24, [.string ⟨#[]⟩, .int .i64 0]⟩ := ⟨⟨Try.t166, by kernel_rfl, rfl, rfl, _, rfl, rfl⟩, ⟨_, Try.underlying166, rfl⟩, by simp [Value.oneCell'], rfl, by kernel_rfl⟩
theorem ty_172 : ty 172 = some ⟨.other, 1, 8, [.nilFunc]⟩ := rfl -- iter.Seq[string]
theorem tyOk_172 : TyOk Try.prog 172 ⟨.other, 1, 8, [.nilFunc]⟩ := ⟨⟨Try.t172, by kernel_rfl, rfl, rfl, _, rfl, rfl⟩, ⟨_, Try.underlying172, trivial⟩, by simp [Value.oneCell'], rfl, by kernel_rfl⟩
theorem ty_176 : ty 176 = some ⟨.struct [(0, 9), (1, 9), (2, 3)], 3, 40, [.string ⟨#[]⟩, .string ⟨#[]⟩, .int .i64 0]⟩ := rfl -- almonryref06.F
theorem tyOk_176 : TyOk Try.prog 176 ⟨.struct [(0, 9), (1, 9), (2, 3)], 3, 40, [.string ⟨#[]⟩, .string ⟨#[]⟩, .int .i64 0]⟩ := ⟨⟨Try.t176, by kernel_rfl, rfl, rfl, _, rfl, rfl⟩, ⟨_, Try.underlying176, rfl⟩, by simp [Value.oneCell'], rfl, by kernel_rfl⟩
theorem ty_179 : ty 179 = some ⟨.other, 1, 8, [.nilFunc]⟩ := rfl -- func(string) bool
theorem tyOk_179 : TyOk Try.prog 179 ⟨.other, 1, 8, [.nilFunc]⟩ := ⟨⟨Try.t179, by kernel_rfl, rfl, rfl, _, rfl, rfl⟩, ⟨_, Try.underlying179, trivial⟩, by simp [Value.oneCell'], rfl, by kernel_rfl⟩
theorem ty_204 : ty 204 = some ⟨.ptr 207, 1, 8, [.pointer none]⟩ := rfl -- *strings.Builder
theorem tyOk_204 : TyOk Try.prog 204 ⟨.ptr 207, 1, 8, [.pointer none]⟩ := ⟨⟨Try.t204, by kernel_rfl, rfl, rfl, _, rfl, rfl⟩, ⟨_, Try.underlying204, rfl⟩, by simp [Value.oneCell'], rfl, by kernel_rfl⟩
theorem ty_205 : ty 205 = some ⟨.slice 5, 1, 24, [.slice none 0 0]⟩ := rfl -- []uint8
theorem tyOk_205 : TyOk Try.prog 205 ⟨.slice 5, 1, 24, [.slice none 0 0]⟩ := ⟨⟨Try.t205, by kernel_rfl, rfl, rfl, _, rfl, rfl⟩, ⟨_, Try.underlying205, rfl⟩, by simp [Value.oneCell'], rfl, by kernel_rfl⟩
theorem ty_207 : ty 207 = some ⟨.struct [(0, 204), (1, 205)], 2, 32, [.pointer none, .slice none 0 0]⟩ := rfl -- strings.Builder
theorem tyOk_207 : TyOk Try.prog 207 ⟨.struct [(0, 204), (1, 205)], 2, 32, [.pointer none, .slice none 0 0]⟩ := ⟨⟨Try.t207, by kernel_rfl, rfl, rfl, _, rfl, rfl⟩, ⟨_, Try.underlying207, rfl⟩, by simp [Value.oneCell'], rfl, by kernel_rfl⟩
theorem ty_212 : ty 212 = some ⟨.arr 5 3, 5, 40, [.int .i64 0, .int .i64 0, .int .i64 0, .int .i64 0, .int .i64 0]⟩ := rfl -- [5]int
theorem tyOk_212 : TyOk Try.prog 212 ⟨.arr 5 3, 5, 40, [.int .i64 0, .int .i64 0, .int .i64 0, .int .i64 0, .int .i64 0]⟩ := ⟨⟨Try.t212, by kernel_rfl, rfl, rfl, _, rfl, rfl⟩, ⟨_, Try.underlying212, ⟨rfl, rfl⟩⟩, by simp [Value.oneCell'], rfl, by kernel_rfl⟩
theorem ty_214 : ty 214 = some ⟨.other, 1, 8, [.nilFunc]⟩ := rfl -- func(api.Fact, api.Fact) int
theorem tyOk_214 : TyOk Try.prog 214 ⟨.other, 1, 8, [.nilFunc]⟩ := ⟨⟨Try.t214, by kernel_rfl, rfl, rfl, _, rfl, rfl⟩, ⟨_, Try.underlying214, trivial⟩, by simp [Value.oneCell'], rfl, by kernel_rfl⟩
theorem ty_218 : ty 218 = some ⟨.other, 1, 8, [.nilFunc]⟩ := rfl -- func(api.Dot) bool
theorem tyOk_218 : TyOk Try.prog 218 ⟨.other, 1, 8, [.nilFunc]⟩ := ⟨⟨Try.t218, by kernel_rfl, rfl, rfl, _, rfl, rfl⟩, ⟨_, Try.underlying218, trivial⟩, by simp [Value.oneCell'], rfl, by kernel_rfl⟩
theorem ty_223 : ty 223 = some ⟨.struct [(0, 221)], 1, 8, [.map none]⟩ := rfl -- buffer.Buffer
theorem tyOk_223 : TyOk Try.prog 223 ⟨.struct [(0, 221)], 1, 8, [.map none]⟩ := ⟨⟨Try.t223, by kernel_rfl, rfl, rfl, _, rfl, rfl⟩, ⟨_, Try.underlying223, rfl⟩, by simp [Value.oneCell'], rfl, by kernel_rfl⟩
theorem ty_226 : ty 226 = some ⟨.other, 1, 8, [.nilFunc]⟩ := rfl -- iter.Seq[almonry/api.Dot]
theorem tyOk_226 : TyOk Try.prog 226 ⟨.other, 1, 8, [.nilFunc]⟩ := ⟨⟨Try.t226, by kernel_rfl, rfl, rfl, _, rfl, rfl⟩, ⟨_, Try.underlying226, trivial⟩, by simp [Value.oneCell'], rfl, by kernel_rfl⟩
theorem ty_235 : ty 235 = some ⟨.other, 1, 8, [.nilFunc]⟩ := rfl -- func(api.Dot, api.Dot) bool
theorem tyOk_235 : TyOk Try.prog 235 ⟨.other, 1, 8, [.nilFunc]⟩ := ⟨⟨Try.t235, by kernel_rfl, rfl, rfl, _, rfl, rfl⟩, ⟨_, Try.underlying235, trivial⟩, by simp [Value.oneCell'], rfl, by kernel_rfl⟩
theorem ty_237 : ty 237 = some ⟨.struct [(0, 9), (1, 32)], 2, 24, [.string ⟨#[]⟩, .int .i64 0]⟩ := rfl -- wire.Reader
theorem tyOk_237 : TyOk Try.prog 237 ⟨.struct [(0, 9), (1, 32)], 2, 24, [.string ⟨#[]⟩, .int .i64 0]⟩ := ⟨⟨Try.t237, by kernel_rfl, rfl, rfl, _, rfl, rfl⟩, ⟨_, Try.underlying237, rfl⟩, by simp [Value.oneCell'], rfl, by kernel_rfl⟩
theorem ty_239 : ty 239 = some ⟨.other, 1, 8, [.nilFunc]⟩ := rfl -- func(string) (string, int, api.Errno)
theorem tyOk_239 : TyOk Try.prog 239 ⟨.other, 1, 8, [.nilFunc]⟩ := ⟨⟨Try.t239, by kernel_rfl, rfl, rfl, _, rfl, rfl⟩, ⟨_, Try.underlying239, trivial⟩, by simp [Value.oneCell'], rfl, by kernel_rfl⟩
theorem ty_243 : ty 243 = some ⟨.int .u64, 1, 8, [.int .u64 0]⟩ := rfl -- uint
theorem tyOk_243 : TyOk Try.prog 243 ⟨.int .u64, 1, 8, [.int .u64 0]⟩ := ⟨⟨Try.t243, by kernel_rfl, rfl, rfl, _, rfl, rfl⟩, ⟨_, Try.underlying243, rfl⟩, by simp [Value.oneCell'], rfl, by kernel_rfl⟩
theorem ty_250 : ty 250 = some ⟨.struct [], 0, 0, []⟩ := rfl -- disk.gone
theorem tyOk_250 : TyOk Try.prog 250 ⟨.struct [], 0, 0, []⟩ := ⟨⟨Try.t250, by kernel_rfl, rfl, rfl, _, rfl, rfl⟩, ⟨_, Try.underlying250, rfl⟩, by simp [Value.oneCell'], rfl, by kernel_rfl⟩
theorem ty_252 : ty 252 = some ⟨.struct [(0, 78), (17, 78)], 34, 304, [.int .i64 0, .int .i64 0, .int .i64 0, .int .i64 0, .int .i64 0, .int .i64 0, .int .i64 0, .int .i64 0, .int .i64 0, .int .i64 0, .int .i64 0, .int .i64 0, .int .i64 0, .int .i64 0, .int .i64 0, .int .i64 0, .slice none 0 0, .int .i64 0, .int .i64 0, .int .i64 0, .int .i64 0, .int .i64 0, .int .i64 0, .int .i64 0, .int .i64 0, .int .i64 0, .int .i64 0, .int .i64 0, .int .i64 0, .int .i64 0, .int .i64 0, .int .i64 0, .int .i64 0, .slice none 0 0]⟩ := rfl -- struct { from api.Context; other api.Context }
theorem tyOk_252 : TyOk Try.prog 252 ⟨.struct [(0, 78), (17, 78)], 34, 304, [.int .i64 0, .int .i64 0, .int .i64 0, .int .i64 0, .int .i64 0, .int .i64 0, .int .i64 0, .int .i64 0, .int .i64 0, .int .i64 0, .int .i64 0, .int .i64 0, .int .i64 0, .int .i64 0, .int .i64 0, .int .i64 0, .slice none 0 0, .int .i64 0, .int .i64 0, .int .i64 0, .int .i64 0, .int .i64 0, .int .i64 0, .int .i64 0, .int .i64 0, .int .i64 0, .int .i64 0, .int .i64 0, .int .i64 0, .int .i64 0, .int .i64 0, .int .i64 0, .int .i64 0, .slice none 0 0]⟩ := ⟨⟨Try.t252, by kernel_rfl, rfl, rfl, _, rfl, rfl⟩, ⟨_, Try.underlying252, rfl⟩, by simp [Value.oneCell'], rfl, by kernel_rfl⟩
theorem ty_256 : ty 256 = some ⟨.other, 1, 8, [.nilFunc]⟩ := rfl -- func(string) (int, int, api.Errno)
theorem tyOk_256 : TyOk Try.prog 256 ⟨.other, 1, 8, [.nilFunc]⟩ := ⟨⟨Try.t256, by kernel_rfl, rfl, rfl, _, rfl, rfl⟩, ⟨_, Try.underlying256, trivial⟩, by simp [Value.oneCell'], rfl, by kernel_rfl⟩
theorem ty_257 : ty 257 = some ⟨.slice 27, 1, 24, [.slice none 0 0]⟩ := rfl -- [][]api.Dot
theorem tyOk_257 : TyOk Try.prog 257 ⟨.slice 27, 1, 24, [.slice none 0 0]⟩ := ⟨⟨Try.t257, by kernel_rfl, rfl, rfl, _, rfl, rfl⟩, ⟨_, Try.underlying257, rfl⟩, by simp [Value.oneCell'], rfl, by kernel_rfl⟩
theorem ty_261 : ty 261 = some ⟨.ptr 5, 1, 8, [.pointer none]⟩ := rfl -- *uint8
theorem tyOk_261 : TyOk Try.prog 261 ⟨.ptr 5, 1, 8, [.pointer none]⟩ := ⟨⟨Try.t261, by kernel_rfl, rfl, rfl, _, rfl, rfl⟩, ⟨_, Try.underlying261, rfl⟩, by simp [Value.oneCell'], rfl, by kernel_rfl⟩
theorem ty_267 : ty 267 = some ⟨.other, 1, 8, [.nilFunc]⟩ := rfl -- func(api.Dot, api.Dot) int
theorem tyOk_267 : TyOk Try.prog 267 ⟨.other, 1, 8, [.nilFunc]⟩ := ⟨⟨Try.t267, by kernel_rfl, rfl, rfl, _, rfl, rfl⟩, ⟨_, Try.underlying267, trivial⟩, by simp [Value.oneCell'], rfl, by kernel_rfl⟩
theorem ty_269 : ty 269 = some ⟨.other, 1, 8, [.nilFunc]⟩ := rfl -- func(api.Stamp, api.Stamp) int
theorem tyOk_269 : TyOk Try.prog 269 ⟨.other, 1, 8, [.nilFunc]⟩ := ⟨⟨Try.t269, by kernel_rfl, rfl, rfl, _, rfl, rfl⟩, ⟨_, Try.underlying269, trivial⟩, by simp [Value.oneCell'], rfl, by kernel_rfl⟩
theorem ty_271 : ty 271 = some ⟨.other, 1, 8, [.nilFunc]⟩ := rfl -- func(api.Stamp, api.Stamp) bool
theorem tyOk_271 : TyOk Try.prog 271 ⟨.other, 1, 8, [.nilFunc]⟩ := ⟨⟨Try.t271, by kernel_rfl, rfl, rfl, _, rfl, rfl⟩, ⟨_, Try.underlying271, trivial⟩, by simp [Value.oneCell'], rfl, by kernel_rfl⟩
theorem ty_285 : ty 285 = some ⟨.struct [(0, 3), (1, 3), (2, 57)], 3, 40, [.int .i64 0, .int .i64 0, .slice none 0 0]⟩ := rfl -- api.Manifest
theorem tyOk_285 : TyOk Try.prog 285 ⟨.struct [(0, 3), (1, 3), (2, 57)], 3, 40, [.int .i64 0, .int .i64 0, .slice none 0 0]⟩ := ⟨⟨Try.t285, by kernel_rfl, rfl, rfl, _, rfl, rfl⟩, ⟨_, Try.underlying285, rfl⟩, by simp [Value.oneCell'], rfl, by kernel_rfl⟩
theorem ty_300 : ty 300 = some ⟨.int .u32, 1, 4, [.int .u32 0]⟩ := rfl -- uint32
theorem tyOk_300 : TyOk Try.prog 300 ⟨.int .u32, 1, 4, [.int .u32 0]⟩ := ⟨⟨Try.t300, by kernel_rfl, rfl, rfl, _, rfl, rfl⟩, ⟨_, Try.underlying300, rfl⟩, by simp [Value.oneCell'], rfl, by kernel_rfl⟩
theorem ty_302 : ty 302 = some ⟨.int .u64, 1, 8, [.int .u64 0]⟩ := rfl -- uint64
theorem tyOk_302 : TyOk Try.prog 302 ⟨.int .u64, 1, 8, [.int .u64 0]⟩ := ⟨⟨Try.t302, by kernel_rfl, rfl, rfl, _, rfl, rfl⟩, ⟨_, Try.underlying302, rfl⟩, by simp [Value.oneCell'], rfl, by kernel_rfl⟩
theorem ty_303 : ty 303 = some ⟨.slice 3, 1, 24, [.slice none 0 0]⟩ := rfl -- []int
theorem tyOk_303 : TyOk Try.prog 303 ⟨.slice 3, 1, 24, [.slice none 0 0]⟩ := ⟨⟨Try.t303, by kernel_rfl, rfl, rfl, _, rfl, rfl⟩, ⟨_, Try.underlying303, rfl⟩, by simp [Value.oneCell'], rfl, by kernel_rfl⟩
theorem ty_306 : ty 306 = some ⟨.struct [(0, 3), (1, 3), (2, 3)], 3, 24, [.int .i64 0, .int .i64 0, .int .i64 0]⟩ := rfl -- stamp.when
theorem tyOk_306 : TyOk Try.prog 306 ⟨.struct [(0, 3), (1, 3), (2, 3)], 3, 24, [.int .i64 0, .int .i64 0, .int .i64 0]⟩ := ⟨⟨Try.t306, by kernel_rfl, rfl, rfl, _, rfl, rfl⟩, ⟨_, Try.underlying306, rfl⟩, by simp [Value.oneCell'], rfl, by kernel_rfl⟩
theorem ty_318 : ty 318 = some ⟨.int .u64, 1, 8, [.int .u64 0]⟩ := rfl -- slices.xorshift
theorem tyOk_318 : TyOk Try.prog 318 ⟨.int .u64, 1, 8, [.int .u64 0]⟩ := ⟨⟨Try.t318, by kernel_rfl, rfl, rfl, _, rfl, rfl⟩, ⟨_, Try.underlying318, rfl⟩, by simp [Value.oneCell'], rfl, by kernel_rfl⟩
theorem ty_332 : ty 332 = some ⟨.other, 1, 8, [.nilFunc]⟩ := rfl -- func(string) ([]string, int, api.Errno)
theorem tyOk_332 : TyOk Try.prog 332 ⟨.other, 1, 8, [.nilFunc]⟩ := ⟨⟨Try.t332, by kernel_rfl, rfl, rfl, _, rfl, rfl⟩, ⟨_, Try.underlying332, trivial⟩, by simp [Value.oneCell'], rfl, by kernel_rfl⟩
theorem ty_334 : ty 334 = some ⟨.ptr 318, 1, 8, [.pointer none]⟩ := rfl -- *slices.xorshift
theorem tyOk_334 : TyOk Try.prog 334 ⟨.ptr 318, 1, 8, [.pointer none]⟩ := ⟨⟨Try.t334, by kernel_rfl, rfl, rfl, _, rfl, rfl⟩, ⟨_, Try.underlying334, rfl⟩, by simp [Value.oneCell'], rfl, by kernel_rfl⟩

theorem tyOk : ∀ t i, ty t = some i → TyOk Try.prog t i := by
  intro t i h
  unfold ty at h
  split at h
  · cases h; exact tyOk_1
  · cases h; exact tyOk_3
  · cases h; exact tyOk_4
  · cases h; exact tyOk_5
  · cases h; exact tyOk_9
  · cases h; exact tyOk_21
  · cases h; exact tyOk_23
  · cases h; exact tyOk_25
  · cases h; exact tyOk_26
  · cases h; exact tyOk_27
  · cases h; exact tyOk_29
  · cases h; exact tyOk_32
  · cases h; exact tyOk_41
  · cases h; exact tyOk_42
  · cases h; exact tyOk_45
  · cases h; exact tyOk_47
  · cases h; exact tyOk_51
  · cases h; exact tyOk_57
  · cases h; exact tyOk_68
  · cases h; exact tyOk_69
  · cases h; exact tyOk_73
  · cases h; exact tyOk_76
  · cases h; exact tyOk_78
  · cases h; exact tyOk_80
  · cases h; exact tyOk_111
  · cases h; exact tyOk_124
  · cases h; exact tyOk_125
  · cases h; exact tyOk_126
  · cases h; exact tyOk_139
  · cases h; exact tyOk_140
  · cases h; exact tyOk_143
  · cases h; exact tyOk_145
  · cases h; exact tyOk_149
  · cases h; exact tyOk_157
  · cases h; exact tyOk_160
  · cases h; exact tyOk_163
  · cases h; exact tyOk_166
  · cases h; exact tyOk_172
  · cases h; exact tyOk_176
  · cases h; exact tyOk_179
  · cases h; exact tyOk_204
  · cases h; exact tyOk_205
  · cases h; exact tyOk_207
  · cases h; exact tyOk_212
  · cases h; exact tyOk_214
  · cases h; exact tyOk_218
  · cases h; exact tyOk_223
  · cases h; exact tyOk_226
  · cases h; exact tyOk_235
  · cases h; exact tyOk_237
  · cases h; exact tyOk_239
  · cases h; exact tyOk_243
  · cases h; exact tyOk_250
  · cases h; exact tyOk_252
  · cases h; exact tyOk_256
  · cases h; exact tyOk_257
  · cases h; exact tyOk_261
  · cases h; exact tyOk_267
  · cases h; exact tyOk_269
  · cases h; exact tyOk_271
  · cases h; exact tyOk_285
  · cases h; exact tyOk_300
  · cases h; exact tyOk_302
  · cases h; exact tyOk_303
  · cases h; exact tyOk_306
  · cases h; exact tyOk_318
  · cases h; exact tyOk_332
  · cases h; exact tyOk_334
  · cases h

end Go.Proofs.Av
