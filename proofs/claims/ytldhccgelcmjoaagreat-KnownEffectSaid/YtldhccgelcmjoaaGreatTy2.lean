/- By program: how the values of structs and arrays are laid out. -/
import Derived.Test.YtldhccgelcmjoaaGreatHx
import Derived.Test.YtldhccgelcmjoaaGreatTy
namespace Go.Sx
open Go Go.Proofs
instance : BTy Tryz.prog 7 [(0, 1), (1, 1), (2, 1), (3, 1)] [(Go.Value.int Go.IntKind.i64 0), (Go.Value.int Go.IntKind.i64 0), (Go.Value.bool Bool.false), (Go.Value.int Go.IntKind.u8 0)] := ⟨by kernel_rfl⟩
instance : BTy Tryz.prog 8 [(0, 1), (1, 1), (2, 1), (3, 1)] [(Go.Value.int Go.IntKind.i64 0), (Go.Value.int Go.IntKind.i64 0), (Go.Value.bool Bool.false), (Go.Value.int Go.IntKind.u8 0)] := ⟨by kernel_rfl⟩
instance : BTy Tryz.prog 13 [(0, 1), (1, 1)] [(Go.Value.string (ByteArray.mk #[])), (Go.Value.int Go.IntKind.u64 0)] := ⟨by kernel_rfl⟩
instance : BTy Tryz.prog 14 [(0, 1), (1, 1)] [(Go.Value.string (ByteArray.mk #[])), (Go.Value.int Go.IntKind.u64 0)] := ⟨by kernel_rfl⟩
instance : BTy Tryz.prog 18 [(0, 1)] [(Go.Value.pointer none)] := ⟨by kernel_rfl⟩
instance : BTy Tryz.prog 19 [(0, 1)] [(Go.Value.pointer none)] := ⟨by kernel_rfl⟩
instance : BTy Tryz.prog 23 [(0, 1), (1, 1), (2, 1), (3, 1), (4, 1), (5, 1), (6, 1), (7, 1), (8, 1), (9, 1), (10, 1), (11, 1), (12, 1), (13, 1), (14, 1)] [(Go.Value.int Go.IntKind.i64 0), (Go.Value.int Go.IntKind.i64 0), (Go.Value.int Go.IntKind.i64 0), (Go.Value.int Go.IntKind.i64 0), (Go.Value.bool Bool.false), (Go.Value.int Go.IntKind.i64 0), (Go.Value.int Go.IntKind.i64 0), (Go.Value.int Go.IntKind.i64 0), (Go.Value.int Go.IntKind.i64 0), (Go.Value.int Go.IntKind.i64 0), (Go.Value.int Go.IntKind.i64 0), (Go.Value.int Go.IntKind.i64 0), (Go.Value.bool Bool.false), (Go.Value.int Go.IntKind.i64 0), (Go.Value.string (ByteArray.mk #[]))] := ⟨by kernel_rfl⟩
instance : BTy Tryz.prog 24 [(0, 1), (1, 1), (2, 1), (3, 1), (4, 1), (5, 1), (6, 1), (7, 1), (8, 1), (9, 1), (10, 1), (11, 1), (12, 1), (13, 1), (14, 1)] [(Go.Value.int Go.IntKind.i64 0), (Go.Value.int Go.IntKind.i64 0), (Go.Value.int Go.IntKind.i64 0), (Go.Value.int Go.IntKind.i64 0), (Go.Value.bool Bool.false), (Go.Value.int Go.IntKind.i64 0), (Go.Value.int Go.IntKind.i64 0), (Go.Value.int Go.IntKind.i64 0), (Go.Value.int Go.IntKind.i64 0), (Go.Value.int Go.IntKind.i64 0), (Go.Value.int Go.IntKind.i64 0), (Go.Value.int Go.IntKind.i64 0), (Go.Value.bool Bool.false), (Go.Value.int Go.IntKind.i64 0), (Go.Value.string (ByteArray.mk #[]))] := ⟨by kernel_rfl⟩
instance : BTy Tryz.prog 32 [(0, 1), (1, 1), (2, 1), (3, 1), (4, 1), (5, 1), (6, 1), (7, 1)] [(Go.Value.slice none 0 0), (Go.Value.slice none 0 0), (Go.Value.slice none 0 0), (Go.Value.slice none 0 0), (Go.Value.slice none 0 0), (Go.Value.slice none 0 0), (Go.Value.slice none 0 0), (Go.Value.slice none 0 0)] := ⟨by kernel_rfl⟩
instance : BTy Tryz.prog 33 [(0, 1), (1, 1), (2, 1), (3, 1), (4, 1), (5, 1), (6, 1), (7, 1)] [(Go.Value.slice none 0 0), (Go.Value.slice none 0 0), (Go.Value.slice none 0 0), (Go.Value.slice none 0 0), (Go.Value.slice none 0 0), (Go.Value.slice none 0 0), (Go.Value.slice none 0 0), (Go.Value.slice none 0 0)] := ⟨by kernel_rfl⟩
instance : BTy Tryz.prog 49 [(0, 1), (1, 1), (2, 1), (3, 1), (4, 1), (5, 1)] [(Go.Value.int Go.IntKind.i64 0), (Go.Value.int Go.IntKind.i64 0), (Go.Value.int Go.IntKind.i64 0), (Go.Value.int Go.IntKind.i64 0), (Go.Value.int Go.IntKind.i64 0), (Go.Value.int Go.IntKind.i64 0)] := ⟨by kernel_rfl⟩
instance : BTy Tryz.prog 63 [(0, 1), (1, 1), (2, 1)] [Go.Value.nilFunc, (Go.Value.int Go.IntKind.i64 0), (Go.Value.int Go.IntKind.i64 0)] := ⟨by kernel_rfl⟩
instance : BTy Tryz.prog 64 [(0, 1), (1, 1), (2, 1)] [Go.Value.nilFunc, (Go.Value.int Go.IntKind.i64 0), (Go.Value.int Go.IntKind.i64 0)] := ⟨by kernel_rfl⟩
instance : BTy Tryz.prog 65 [(0, 1), (1, 3), (4, 1)] [(Go.Value.slice none 0 0), Go.Value.nilFunc, (Go.Value.int Go.IntKind.i64 0), (Go.Value.int Go.IntKind.i64 0), Go.Value.nilFunc] := ⟨by kernel_rfl⟩
instance : BTy Tryz.prog 66 [(0, 1), (1, 3), (4, 1)] [(Go.Value.slice none 0 0), Go.Value.nilFunc, (Go.Value.int Go.IntKind.i64 0), (Go.Value.int Go.IntKind.i64 0), Go.Value.nilFunc] := ⟨by kernel_rfl⟩
instance : BTy Tryz.prog 76 [(0, 1), (1, 1)] [(Go.Value.pointer none), (Go.Value.slice none 0 0)] := ⟨by kernel_rfl⟩
instance : BTy Tryz.prog 77 [(0, 1), (1, 1)] [(Go.Value.pointer none), (Go.Value.slice none 0 0)] := ⟨by kernel_rfl⟩
instance : BTy Tryz.prog 78 [(0, 2)] [(Go.Value.pointer none), (Go.Value.slice none 0 0)] := ⟨by kernel_rfl⟩
instance : BTy Tryz.prog 79 [(0, 2)] [(Go.Value.pointer none), (Go.Value.slice none 0 0)] := ⟨by kernel_rfl⟩
instance : BTy Tryz.prog 83 [(0, 1), (1, 1), (2, 1)] [(Go.Value.int Go.IntKind.i64 0), (Go.Value.int Go.IntKind.i64 0), (Go.Value.int Go.IntKind.i64 0)] := ⟨by kernel_rfl⟩
instance : BTy Tryz.prog 84 [(0, 1), (1, 1), (2, 1)] [(Go.Value.int Go.IntKind.i64 0), (Go.Value.int Go.IntKind.i64 0), (Go.Value.int Go.IntKind.i64 0)] := ⟨by kernel_rfl⟩
instance : BTy Tryz.prog 93 [(0, 1), (1, 1), (2, 1), (3, 1), (4, 1), (5, 1), (6, 1), (7, 1), (8, 1)] [(Go.Value.pointer none), (Go.Value.pointer none), (Go.Value.pointer none), (Go.Value.pointer none), (Go.Value.pointer none), (Go.Value.pointer none), (Go.Value.pointer none), (Go.Value.pointer none), (Go.Value.pointer none)] := ⟨by kernel_rfl⟩
instance : BTy Tryz.prog 147 [(0, 1), (1, 1), (2, 1), (3, 1)] [(Go.Value.pointer none), (Go.Value.pointer none), (Go.Value.pointer none), (Go.Value.string (ByteArray.mk #[]))] := ⟨by kernel_rfl⟩
instance : BTy Tryz.prog 148 [(0, 1), (1, 1), (2, 1), (3, 1)] [(Go.Value.pointer none), (Go.Value.pointer none), (Go.Value.pointer none), (Go.Value.string (ByteArray.mk #[]))] := ⟨by kernel_rfl⟩
instance : BTy Tryz.prog 149 [] [] := ⟨by kernel_rfl⟩
instance : BTy Tryz.prog 150 [(0, 0)] [] := ⟨by kernel_rfl⟩
instance : BTy Tryz.prog 151 [(0, 0)] [] := ⟨by kernel_rfl⟩
instance : BTy Tryz.prog 158 [(0, 1), (1, 1), (2, 1), (3, 1), (4, 1), (5, 1), (6, 1), (7, 1), (8, 1), (9, 1), (10, 1)] [(Go.Value.int Go.IntKind.u64 0), (Go.Value.int Go.IntKind.u64 0), (Go.Value.int Go.IntKind.u32 0), (Go.Value.int Go.IntKind.u8 0), (Go.Value.int Go.IntKind.u8 0), (Go.Value.int Go.IntKind.u8 0), (Go.Value.int Go.IntKind.u8 0), Go.Value.nilFunc, (Go.Value.pointer none), (Go.Value.int Go.IntKind.i32 0), (Go.Value.int Go.IntKind.i32 0)] := ⟨by kernel_rfl⟩
instance : BTy Tryz.prog 159 [(0, 1), (1, 1), (2, 1), (3, 1), (4, 1), (5, 1), (6, 1), (7, 1), (8, 1), (9, 1), (10, 1)] [(Go.Value.int Go.IntKind.u64 0), (Go.Value.int Go.IntKind.u64 0), (Go.Value.int Go.IntKind.u32 0), (Go.Value.int Go.IntKind.u8 0), (Go.Value.int Go.IntKind.u8 0), (Go.Value.int Go.IntKind.u8 0), (Go.Value.int Go.IntKind.u8 0), Go.Value.nilFunc, (Go.Value.pointer none), (Go.Value.int Go.IntKind.i32 0), (Go.Value.int Go.IntKind.i32 0)] := ⟨by kernel_rfl⟩
end Go.Sx
