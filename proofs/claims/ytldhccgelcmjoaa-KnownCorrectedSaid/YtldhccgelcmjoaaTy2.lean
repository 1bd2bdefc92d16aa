/- By program: how the values of structs and arrays are laid out. -/
import Derived.Test.YtldhccgelcmjoaaHx
import Derived.Test.YtldhccgelcmjoaaTy
namespace Go.Sx
open Go Go.Proofs
instance : BTy Try.prog 7 [(0, 1), (1, 1), (2, 1), (3, 1)] [(Go.Value.int Go.IntKind.i64 0), (Go.Value.int Go.IntKind.i64 0), (Go.Value.bool Bool.false), (Go.Value.int Go.IntKind.u8 0)] := ⟨by kernel_rfl⟩
instance : BTy Try.prog 8 [(0, 1), (1, 1), (2, 1), (3, 1)] [(Go.Value.int Go.IntKind.i64 0), (Go.Value.int Go.IntKind.i64 0), (Go.Value.bool Bool.false), (Go.Value.int Go.IntKind.u8 0)] := ⟨by kernel_rfl⟩
instance : BTy Try.prog 13 [(0, 1), (1, 1)] [(Go.Value.string (ByteArray.mk #[])), (Go.Value.int Go.IntKind.u64 0)] := ⟨by kernel_rfl⟩
instance : BTy Try.prog 14 [(0, 1), (1, 1)] [(Go.Value.string (ByteArray.mk #[])), (Go.Value.int Go.IntKind.u64 0)] := ⟨by kernel_rfl⟩
instance : BTy Try.prog 18 [(0, 1)] [(Go.Value.pointer none)] := ⟨by kernel_rfl⟩
instance : BTy Try.prog 19 [(0, 1)] [(Go.Value.pointer none)] := ⟨by kernel_rfl⟩
instance : BTy Try.prog 26 [(0, 1), (1, 1), (2, 1), (3, 1), (4, 1), (5, 1), (6, 1), (7, 1), (8, 1), (9, 1), (10, 1), (11, 1), (12, 1), (13, 1), (14, 1)] [(Go.Value.int Go.IntKind.i64 0), (Go.Value.int Go.IntKind.i64 0), (Go.Value.int Go.IntKind.i64 0), (Go.Value.int Go.IntKind.i64 0), (Go.Value.bool Bool.false), (Go.Value.int Go.IntKind.i64 0), (Go.Value.int Go.IntKind.i64 0), (Go.Value.int Go.IntKind.i64 0), (Go.Value.int Go.IntKind.i64 0), (Go.Value.int Go.IntKind.i64 0), (Go.Value.int Go.IntKind.i64 0), (Go.Value.int Go.IntKind.i64 0), (Go.Value.bool Bool.false), (Go.Value.int Go.IntKind.i64 0), (Go.Value.string (ByteArray.mk #[]))] := ⟨by kernel_rfl⟩
instance : BTy Try.prog 27 [(0, 1), (1, 1), (2, 1), (3, 1), (4, 1), (5, 1), (6, 1), (7, 1), (8, 1), (9, 1), (10, 1), (11, 1), (12, 1), (13, 1), (14, 1)] [(Go.Value.int Go.IntKind.i64 0), (Go.Value.int Go.IntKind.i64 0), (Go.Value.int Go.IntKind.i64 0), (Go.Value.int Go.IntKind.i64 0), (Go.Value.bool Bool.false), (Go.Value.int Go.IntKind.i64 0), (Go.Value.int Go.IntKind.i64 0), (Go.Value.int Go.IntKind.i64 0), (Go.Value.int Go.IntKind.i64 0), (Go.Value.int Go.IntKind.i64 0), (Go.Value.int Go.IntKind.i64 0), (Go.Value.int Go.IntKind.i64 0), (Go.Value.bool Bool.false), (Go.Value.int Go.IntKind.i64 0), (Go.Value.string (ByteArray.mk #[]))] := ⟨by kernel_rfl⟩
instance : BTy Try.prog 29 [(0, 1), (1, 1), (2, 1), (3, 1), (4, 1), (5, 1), (6, 1), (7, 1)] [(Go.Value.slice none 0 0), (Go.Value.slice none 0 0), (Go.Value.slice none 0 0), (Go.Value.slice none 0 0), (Go.Value.slice none 0 0), (Go.Value.slice none 0 0), (Go.Value.slice none 0 0), (Go.Value.slice none 0 0)] := ⟨by kernel_rfl⟩
instance : BTy Try.prog 30 [(0, 1), (1, 1), (2, 1), (3, 1), (4, 1), (5, 1), (6, 1), (7, 1)] [(Go.Value.slice none 0 0), (Go.Value.slice none 0 0), (Go.Value.slice none 0 0), (Go.Value.slice none 0 0), (Go.Value.slice none 0 0), (Go.Value.slice none 0 0), (Go.Value.slice none 0 0), (Go.Value.slice none 0 0)] := ⟨by kernel_rfl⟩
instance : BTy Try.prog 38 [(0, 1), (1, 1), (2, 1)] [(Go.Value.int Go.IntKind.i64 0), (Go.Value.int Go.IntKind.i64 0), (Go.Value.int Go.IntKind.i64 0)] := ⟨by kernel_rfl⟩
instance : BTy Try.prog 39 [(0, 1), (1, 1)] [(Go.Value.int Go.IntKind.i64 0), (Go.Value.int Go.IntKind.i64 0)] := ⟨by kernel_rfl⟩
instance : BTy Try.prog 49 [(0, 1), (1, 1), (2, 1), (3, 1), (4, 1), (5, 1)] [(Go.Value.int Go.IntKind.i64 0), (Go.Value.int Go.IntKind.i64 0), (Go.Value.int Go.IntKind.i64 0), (Go.Value.int Go.IntKind.i64 0), (Go.Value.int Go.IntKind.i64 0), (Go.Value.int Go.IntKind.i64 0)] := ⟨by kernel_rfl⟩
instance : BTy Try.prog 66 [(0, 1), (1, 1), (2, 1)] [Go.Value.nilFunc, (Go.Value.int Go.IntKind.i64 0), (Go.Value.int Go.IntKind.i64 0)] := ⟨by kernel_rfl⟩
instance : BTy Try.prog 67 [(0, 1), (1, 1), (2, 1)] [Go.Value.nilFunc, (Go.Value.int Go.IntKind.i64 0), (Go.Value.int Go.IntKind.i64 0)] := ⟨by kernel_rfl⟩
instance : BTy Try.prog 68 [(0, 1), (1, 3), (4, 1)] [(Go.Value.slice none 0 0), Go.Value.nilFunc, (Go.Value.int Go.IntKind.i64 0), (Go.Value.int Go.IntKind.i64 0), Go.Value.nilFunc] := ⟨by kernel_rfl⟩
instance : BTy Try.prog 69 [(0, 1), (1, 3), (4, 1)] [(Go.Value.slice none 0 0), Go.Value.nilFunc, (Go.Value.int Go.IntKind.i64 0), (Go.Value.int Go.IntKind.i64 0), Go.Value.nilFunc] := ⟨by kernel_rfl⟩
instance : BTy Try.prog 74 [(0, 1), (1, 1)] [(Go.Value.pointer none), (Go.Value.slice none 0 0)] := ⟨by kernel_rfl⟩
instance : BTy Try.prog 75 [(0, 1), (1, 1)] [(Go.Value.pointer none), (Go.Value.slice none 0 0)] := ⟨by kernel_rfl⟩
instance : BTy Try.prog 76 [(0, 2)] [(Go.Value.pointer none), (Go.Value.slice none 0 0)] := ⟨by kernel_rfl⟩
instance : BTy Try.prog 77 [(0, 2)] [(Go.Value.pointer none), (Go.Value.slice none 0 0)] := ⟨by kernel_rfl⟩
instance : BTy Try.prog 82 [(0, 1), (1, 1), (2, 1)] [(Go.Value.int Go.IntKind.i64 0), (Go.Value.int Go.IntKind.i64 0), (Go.Value.int Go.IntKind.i64 0)] := ⟨by kernel_rfl⟩
instance : BTy Try.prog 83 [(0, 1), (1, 1), (2, 1)] [(Go.Value.int Go.IntKind.i64 0), (Go.Value.int Go.IntKind.i64 0), (Go.Value.int Go.IntKind.i64 0)] := ⟨by kernel_rfl⟩
instance : BTy Try.prog 93 [(0, 1), (1, 1), (2, 1), (3, 1), (4, 1), (5, 1), (6, 1), (7, 1), (8, 1)] [(Go.Value.pointer none), (Go.Value.pointer none), (Go.Value.pointer none), (Go.Value.pointer none), (Go.Value.pointer none), (Go.Value.pointer none), (Go.Value.pointer none), (Go.Value.pointer none), (Go.Value.pointer none)] := ⟨by kernel_rfl⟩
instance : BTy Try.prog 150 [(0, 1), (1, 1), (2, 1), (3, 1)] [(Go.Value.pointer none), (Go.Value.pointer none), (Go.Value.pointer none), (Go.Value.string (ByteArray.mk #[]))] := ⟨by kernel_rfl⟩
instance : BTy Try.prog 151 [(0, 1), (1, 1), (2, 1), (3, 1)] [(Go.Value.pointer none), (Go.Value.pointer none), (Go.Value.pointer none), (Go.Value.string (ByteArray.mk #[]))] := ⟨by kernel_rfl⟩
instance : BTy Try.prog 152 [] [] := ⟨by kernel_rfl⟩
instance : BTy Try.prog 153 [(0, 0)] [] := ⟨by kernel_rfl⟩
instance : BTy Try.prog 154 [(0, 0)] [] := ⟨by kernel_rfl⟩
instance : BTy Try.prog 161 [(0, 1), (1, 1), (2, 1), (3, 1), (4, 1), (5, 1), (6, 1), (7, 1), (8, 1), (9, 1), (10, 1)] [(Go.Value.int Go.IntKind.u64 0), (Go.Value.int Go.IntKind.u64 0), (Go.Value.int Go.IntKind.u32 0), (Go.Value.int Go.IntKind.u8 0), (Go.Value.int Go.IntKind.u8 0), (Go.Value.int Go.IntKind.u8 0), (Go.Value.int Go.IntKind.u8 0), Go.Value.nilFunc, (Go.Value.pointer none), (Go.Value.int Go.IntKind.i32 0), (Go.Value.int Go.IntKind.i32 0)] := ⟨by kernel_rfl⟩
instance : BTy Try.prog 162 [(0, 1), (1, 1), (2, 1), (3, 1), (4, 1), (5, 1), (6, 1), (7, 1), (8, 1), (9, 1), (10, 1)] [(Go.Value.int Go.IntKind.u64 0), (Go.Value.int Go.IntKind.u64 0), (Go.Value.int Go.IntKind.u32 0), (Go.Value.int Go.IntKind.u8 0), (Go.Value.int Go.IntKind.u8 0), (Go.Value.int Go.IntKind.u8 0), (Go.Value.int Go.IntKind.u8 0), Go.Value.nilFunc, (Go.Value.pointer none), (Go.Value.int Go.IntKind.i32 0), (Go.Value.int Go.IntKind.i32 0)] := ⟨by kernel_rfl⟩
end Go.Sx
