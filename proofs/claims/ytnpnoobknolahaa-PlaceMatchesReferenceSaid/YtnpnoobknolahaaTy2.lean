/- By program: how the values of structs and arrays are laid out. -/
import Derived.Test.YtnpnoobknolahaaHx
import Derived.Test.YtnpnoobknolahaaTy
namespace Go.Sx
open Go Go.Proofs
instance : BTy Try.prog 7 [(0, 1), (1, 1), (2, 1), (3, 1)] [(Go.Value.int Go.IntKind.i64 0), (Go.Value.int Go.IntKind.i64 0), (Go.Value.bool Bool.false), (Go.Value.int Go.IntKind.u8 0)] := ⟨by kernel_rfl⟩
instance : BTy Try.prog 8 [(0, 1), (1, 1), (2, 1), (3, 1)] [(Go.Value.int Go.IntKind.i64 0), (Go.Value.int Go.IntKind.i64 0), (Go.Value.bool Bool.false), (Go.Value.int Go.IntKind.u8 0)] := ⟨by kernel_rfl⟩
instance : BTy Try.prog 13 [(0, 1), (1, 1)] [(Go.Value.string (ByteArray.mk #[])), (Go.Value.int Go.IntKind.u64 0)] := ⟨by kernel_rfl⟩
instance : BTy Try.prog 14 [(0, 1), (1, 1)] [(Go.Value.string (ByteArray.mk #[])), (Go.Value.int Go.IntKind.u64 0)] := ⟨by kernel_rfl⟩
instance : BTy Try.prog 18 [(0, 1)] [(Go.Value.pointer none)] := ⟨by kernel_rfl⟩
instance : BTy Try.prog 19 [(0, 1)] [(Go.Value.pointer none)] := ⟨by kernel_rfl⟩
instance : BTy Try.prog 23 [(0, 1), (1, 1), (2, 1), (3, 1), (4, 1)] [(Go.Value.int Go.IntKind.i64 0), (Go.Value.int Go.IntKind.i64 0), (Go.Value.int Go.IntKind.i64 0), (Go.Value.int Go.IntKind.i64 0), (Go.Value.int Go.IntKind.i64 0)] := ⟨by kernel_rfl⟩
instance : BTy Try.prog 24 [(0, 1), (1, 1), (2, 1), (3, 1), (4, 1)] [(Go.Value.int Go.IntKind.i64 0), (Go.Value.int Go.IntKind.i64 0), (Go.Value.int Go.IntKind.i64 0), (Go.Value.int Go.IntKind.i64 0), (Go.Value.int Go.IntKind.i64 0)] := ⟨by kernel_rfl⟩
instance : BTy Try.prog 27 [(0, 1), (1, 1), (2, 1), (3, 1), (4, 1)] [(Go.Value.int Go.IntKind.i64 0), (Go.Value.int Go.IntKind.i64 0), (Go.Value.int Go.IntKind.i64 0), (Go.Value.int Go.IntKind.i64 0), (Go.Value.int Go.IntKind.i64 0)] := ⟨by kernel_rfl⟩
instance : BTy Try.prog 28 [(0, 1), (1, 5), (6, 1), (7, 1)] [(Go.Value.slice none 0 0), (Go.Value.int Go.IntKind.i64 0), (Go.Value.int Go.IntKind.i64 0), (Go.Value.int Go.IntKind.i64 0), (Go.Value.int Go.IntKind.i64 0), (Go.Value.int Go.IntKind.i64 0), (Go.Value.int Go.IntKind.i64 0), (Go.Value.int Go.IntKind.i64 0)] := ⟨by kernel_rfl⟩
instance : BTy Try.prog 29 [(0, 1), (1, 5), (6, 1), (7, 1)] [(Go.Value.slice none 0 0), (Go.Value.int Go.IntKind.i64 0), (Go.Value.int Go.IntKind.i64 0), (Go.Value.int Go.IntKind.i64 0), (Go.Value.int Go.IntKind.i64 0), (Go.Value.int Go.IntKind.i64 0), (Go.Value.int Go.IntKind.i64 0), (Go.Value.int Go.IntKind.i64 0)] := ⟨by kernel_rfl⟩
instance : BTy Try.prog 32 [(0, 1), (1, 1), (2, 1), (3, 1)] [(Go.Value.slice none 0 0), (Go.Value.slice none 0 0), (Go.Value.slice none 0 0), (Go.Value.slice none 0 0)] := ⟨by kernel_rfl⟩
instance : BTy Try.prog 44 [(0, 1), (1, 1), (2, 1), (3, 1)] [(Go.Value.int Go.IntKind.i64 0), (Go.Value.int Go.IntKind.i64 0), (Go.Value.int Go.IntKind.i64 0), (Go.Value.int Go.IntKind.i64 0)] := ⟨by kernel_rfl⟩
instance : BTy Try.prog 53 [(0, 1), (1, 1), (2, 1), (3, 1)] [(Go.Value.int Go.IntKind.i64 0), (Go.Value.int Go.IntKind.i64 0), (Go.Value.int Go.IntKind.i64 0), (Go.Value.int Go.IntKind.i64 0)] := ⟨by kernel_rfl⟩
instance : BTy Try.prog 54 [(0, 1), (1, 1), (2, 1), (3, 1)] [(Go.Value.int Go.IntKind.i64 0), (Go.Value.int Go.IntKind.i64 0), (Go.Value.int Go.IntKind.i64 0), (Go.Value.int Go.IntKind.i64 0)] := ⟨by kernel_rfl⟩
instance : BTy Try.prog 84 [(0, 1), (1, 1), (2, 1), (3, 1)] [(Go.Value.map none), (Go.Value.map none), (Go.Value.map none), (Go.Value.map none)] := ⟨by kernel_rfl⟩
instance : BTy Try.prog 85 [(0, 1), (1, 4)] [(Go.Value.slice none 0 0), (Go.Value.map none), (Go.Value.map none), (Go.Value.map none), (Go.Value.map none)] := ⟨by kernel_rfl⟩
instance : BTy Try.prog 86 [(0, 1), (1, 4)] [(Go.Value.slice none 0 0), (Go.Value.map none), (Go.Value.map none), (Go.Value.map none), (Go.Value.map none)] := ⟨by kernel_rfl⟩
instance : BTy Try.prog 115 [(0, 1), (1, 1), (2, 1), (3, 1)] [(Go.Value.pointer none), (Go.Value.pointer none), (Go.Value.pointer none), (Go.Value.string (ByteArray.mk #[]))] := ⟨by kernel_rfl⟩
instance : BTy Try.prog 116 [(0, 1), (1, 1), (2, 1), (3, 1)] [(Go.Value.pointer none), (Go.Value.pointer none), (Go.Value.pointer none), (Go.Value.string (ByteArray.mk #[]))] := ⟨by kernel_rfl⟩
instance : BTy Try.prog 117 [] [] := ⟨by kernel_rfl⟩
instance : BTy Try.prog 118 [(0, 0)] [] := ⟨by kernel_rfl⟩
instance : BTy Try.prog 119 [(0, 0)] [] := ⟨by kernel_rfl⟩
instance : BTy Try.prog 126 [(0, 1), (1, 1), (2, 1), (3, 1), (4, 1), (5, 1), (6, 1), (7, 1), (8, 1), (9, 1), (10, 1)] [(Go.Value.int Go.IntKind.u64 0), (Go.Value.int Go.IntKind.u64 0), (Go.Value.int Go.IntKind.u32 0), (Go.Value.int Go.IntKind.u8 0), (Go.Value.int Go.IntKind.u8 0), (Go.Value.int Go.IntKind.u8 0), (Go.Value.int Go.IntKind.u8 0), Go.Value.nilFunc, (Go.Value.pointer none), (Go.Value.int Go.IntKind.i32 0), (Go.Value.int Go.IntKind.i32 0)] := ⟨by kernel_rfl⟩
instance : BTy Try.prog 127 [(0, 1), (1, 1), (2, 1), (3, 1), (4, 1), (5, 1), (6, 1), (7, 1), (8, 1), (9, 1), (10, 1)] [(Go.Value.int Go.IntKind.u64 0), (Go.Value.int Go.IntKind.u64 0), (Go.Value.int Go.IntKind.u32 0), (Go.Value.int Go.IntKind.u8 0), (Go.Value.int Go.IntKind.u8 0), (Go.Value.int Go.IntKind.u8 0), (Go.Value.int Go.IntKind.u8 0), Go.Value.nilFunc, (Go.Value.pointer none), (Go.Value.int Go.IntKind.i32 0), (Go.Value.int Go.IntKind.i32 0)] := ⟨by kernel_rfl⟩
end Go.Sx
