/-
  By program: the facts of this seat about functions and types, as instances of the layer's classes.
-/
import Derived.Test.YtionfblneloaiaaGreatDoorQB02
import Derived.Test.YtionfblneloaiaaGreatDoorProg
import Derived.Laws.CopyRow
import Derived.RecoverIn
import Derived.LaidEql
import Derived.Stop.Asserts
import Derived.RowKitTokens
import Derived.Laws.IdiomCopy
namespace Go.Sx
open Go Go.Proofs
instance : FnIs Tryz.prog 9 Tryz.f9 := ⟨Tryz.func9⟩
instance : CallOk Tryz.prog 10 := ⟨Tryz.call10⟩
instance : FnIs Tryz.prog 10 Tryz.f10 := ⟨Tryz.func10⟩
instance : CallOk Tryz.prog 11 := ⟨Tryz.call11⟩
instance : FnIs Tryz.prog 11 Tryz.f11 := ⟨Tryz.func11⟩
instance : CallOk Tryz.prog 12 := ⟨Tryz.call12⟩
instance : FnIs Tryz.prog 12 Tryz.f12 := ⟨Tryz.func12⟩
instance : CallOk Tryz.prog 13 := ⟨Tryz.call13⟩
instance : FnIs Tryz.prog 13 Tryz.f13 := ⟨Tryz.func13⟩
instance : CallOk Tryz.prog 14 := ⟨Tryz.call14⟩
instance : FnIs Tryz.prog 14 Tryz.f14 := ⟨Tryz.func14⟩
instance : CallOk Tryz.prog 15 := ⟨Tryz.call15⟩
instance : FnIs Tryz.prog 15 Tryz.f15 := ⟨Tryz.func15⟩
instance : CallOk Tryz.prog 18 := ⟨Tryz.call18⟩
instance : FnIs Tryz.prog 18 Tryz.f18 := ⟨Tryz.func18⟩
instance : CallOk Tryz.prog 20 := ⟨Tryz.call20⟩
instance : FnIs Tryz.prog 20 Tryz.f20 := ⟨Tryz.func20⟩
instance : CallOk Tryz.prog 21 := ⟨Tryz.call21⟩
instance : FnIs Tryz.prog 21 Tryz.f21 := ⟨Tryz.func21⟩
instance : CallOk Tryz.prog 23 := ⟨Tryz.call23⟩
instance : FnIs Tryz.prog 23 Tryz.f23 := ⟨Tryz.func23⟩
instance : CallOk Tryz.prog 24 := ⟨Tryz.call24⟩
instance : FnIs Tryz.prog 24 Tryz.f24 := ⟨Tryz.func24⟩
instance : CallOk Tryz.prog 25 := ⟨Tryz.call25⟩
instance : FnIs Tryz.prog 25 Tryz.f25 := ⟨Tryz.func25⟩
instance : CallOk Tryz.prog 26 := ⟨Tryz.call26⟩
instance : FnIs Tryz.prog 26 Tryz.f26 := ⟨Tryz.func26⟩
instance : CallOk Tryz.prog 27 := ⟨Tryz.call27⟩
instance : FnIs Tryz.prog 27 Tryz.f27 := ⟨Tryz.func27⟩
instance : CallOk Tryz.prog 33 := ⟨Tryz.call33⟩
instance : FnIs Tryz.prog 33 Tryz.f33 := ⟨Tryz.func33⟩
instance : CallOk Tryz.prog 38 := ⟨Tryz.call38⟩
instance : FnIs Tryz.prog 38 Tryz.f38 := ⟨Tryz.func38⟩
instance : CallOk Tryz.prog 40 := ⟨Tryz.call40⟩
instance : FnIs Tryz.prog 40 Tryz.f40 := ⟨Tryz.func40⟩
instance : CallOk Tryz.prog 41 := ⟨Tryz.call41⟩
instance : FnIs Tryz.prog 41 Tryz.f41 := ⟨Tryz.func41⟩
instance : CallOk Tryz.prog 42 := ⟨Tryz.call42⟩
instance : FnIs Tryz.prog 42 Tryz.f42 := ⟨Tryz.func42⟩
instance : CallOk Tryz.prog 43 := ⟨Tryz.call43⟩
instance : FnIs Tryz.prog 43 Tryz.f43 := ⟨Tryz.func43⟩
instance : CallOk Tryz.prog 44 := ⟨Tryz.call44⟩
instance : FnIs Tryz.prog 44 Tryz.f44 := ⟨Tryz.func44⟩
instance : CallOk Tryz.prog 45 := ⟨Tryz.call45⟩
instance : FnIs Tryz.prog 45 Tryz.f45 := ⟨Tryz.func45⟩
instance : CallOk Tryz.prog 46 := ⟨Tryz.call46⟩
instance : FnIs Tryz.prog 46 Tryz.f46 := ⟨Tryz.func46⟩
instance : CallOk Tryz.prog 50 := ⟨Tryz.call50⟩
instance : FnIs Tryz.prog 50 Tryz.f50 := ⟨Tryz.func50⟩
instance : CallOk Tryz.prog 51 := ⟨Tryz.call51⟩
instance : FnIs Tryz.prog 51 Tryz.f51 := ⟨Tryz.func51⟩
instance : CallOk Tryz.prog 52 := ⟨Tryz.call52⟩
instance : FnIs Tryz.prog 52 Tryz.f52 := ⟨Tryz.func52⟩
instance : CallOk Tryz.prog 53 := ⟨Tryz.call53⟩
instance : CallOk Tryz.prog 54 := ⟨Tryz.call54⟩
instance : FnIs Tryz.prog 54 Tryz.f54 := ⟨Tryz.func54⟩
instance : CallOk Tryz.prog 55 := ⟨Tryz.call55⟩
instance : FnIs Tryz.prog 55 Tryz.f55 := ⟨Tryz.func55⟩
instance : CallOk Tryz.prog 56 := ⟨Tryz.call56⟩
instance : FnIs Tryz.prog 56 Tryz.f56 := ⟨Tryz.func56⟩
instance : CallOk Tryz.prog 57 := ⟨Tryz.call57⟩
instance : FnIs Tryz.prog 57 Tryz.f57 := ⟨Tryz.func57⟩
instance : CallOk Tryz.prog 58 := ⟨Tryz.call58⟩
instance : FnIs Tryz.prog 58 Tryz.f58 := ⟨Tryz.func58⟩
instance : CallOk Tryz.prog 59 := ⟨Tryz.call59⟩
instance : FnIs Tryz.prog 59 Tryz.f59 := ⟨Tryz.func59⟩
instance : CallOk Tryz.prog 60 := ⟨Tryz.call60⟩
instance : CallOk Tryz.prog 61 := ⟨Tryz.call61⟩
instance : CallOk Tryz.prog 62 := ⟨Tryz.call62⟩
instance : FnIs Tryz.prog 62 Tryz.f62 := ⟨Tryz.func62⟩
instance : CallOk Tryz.prog 63 := ⟨Tryz.call63⟩
instance : FnIs Tryz.prog 63 Tryz.f63 := ⟨Tryz.func63⟩
instance : CallOk Tryz.prog 72 := ⟨Tryz.call72⟩
instance : CallOk Tryz.prog 73 := ⟨Tryz.call73⟩
instance : FnIs Tryz.prog 73 Tryz.f73 := ⟨Tryz.func73⟩
instance : CallOk Tryz.prog 74 := ⟨Tryz.call74⟩
instance : FnIs Tryz.prog 74 Tryz.f74 := ⟨Tryz.func74⟩
instance : CallOk Tryz.prog 75 := ⟨Tryz.call75⟩
instance : FnIs Tryz.prog 75 Tryz.f75 := ⟨Tryz.func75⟩
instance : CallOk Tryz.prog 76 := ⟨Tryz.call76⟩
instance : FnIs Tryz.prog 76 Tryz.f76 := ⟨Tryz.func76⟩
instance : CallOk Tryz.prog 77 := ⟨Tryz.call77⟩
instance : FnIs Tryz.prog 77 Tryz.f77 := ⟨Tryz.func77⟩
instance : CallOk Tryz.prog 81 := ⟨Tryz.call81⟩
instance : FnIs Tryz.prog 81 Tryz.f81 := ⟨Tryz.func81⟩
instance : CallOk Tryz.prog 82 := ⟨Tryz.call82⟩
instance : CallOk Tryz.prog 83 := ⟨Tryz.call83⟩
instance : FnIs Tryz.prog 83 Tryz.f83 := ⟨Tryz.func83⟩
instance : CallOk Tryz.prog 84 := ⟨Tryz.call84⟩
instance : FnIs Tryz.prog 84 Tryz.f84 := ⟨Tryz.func84⟩
instance : CallOk Tryz.prog 85 := ⟨Tryz.call85⟩
instance : FnIs Tryz.prog 85 Tryz.f85 := ⟨Tryz.func85⟩
instance : CallOk Tryz.prog 86 := ⟨Tryz.call86⟩
instance : CallOk Tryz.prog 87 := ⟨Tryz.call87⟩
instance : CallOk Tryz.prog 88 := ⟨Tryz.call88⟩
instance : FnIs Tryz.prog 88 Tryz.f88 := ⟨Tryz.func88⟩
instance : CallOk Tryz.prog 89 := ⟨Tryz.call89⟩
instance : FnIs Tryz.prog 89 Tryz.f89 := ⟨Tryz.func89⟩
instance : CallOk Tryz.prog 90 := ⟨Tryz.call90⟩
instance : FnIs Tryz.prog 90 Tryz.f90 := ⟨Tryz.func90⟩
instance : CallOk Tryz.prog 91 := ⟨Tryz.call91⟩
instance : FnIs Tryz.prog 91 Tryz.f91 := ⟨Tryz.func91⟩
instance : CallOk Tryz.prog 92 := ⟨Tryz.call92⟩
instance : FnIs Tryz.prog 92 Tryz.f92 := ⟨Tryz.func92⟩
instance : CallOk Tryz.prog 96 := ⟨Tryz.call96⟩
instance : FnIs Tryz.prog 96 Tryz.f96 := ⟨Tryz.func96⟩
instance : CallOk Tryz.prog 97 := ⟨Tryz.call97⟩
instance : CallOk Tryz.prog 98 := ⟨Tryz.call98⟩
instance : FnIs Tryz.prog 98 Tryz.f98 := ⟨Tryz.func98⟩
instance : CallOk Tryz.prog 99 := ⟨Tryz.call99⟩
instance : FnIs Tryz.prog 99 Tryz.f99 := ⟨Tryz.func99⟩
instance : CallOk Tryz.prog 100 := ⟨Tryz.call100⟩
instance : CallOk Tryz.prog 102 := ⟨Tryz.call102⟩
instance : FnIs Tryz.prog 102 Tryz.f102 := ⟨Tryz.func102⟩
instance : CallOk Tryz.prog 103 := ⟨Tryz.call103⟩
instance : FnIs Tryz.prog 103 Tryz.f103 := ⟨Tryz.func103⟩
instance : CallOk Tryz.prog 104 := ⟨Tryz.call104⟩
instance : FnIs Tryz.prog 104 Tryz.f104 := ⟨Tryz.func104⟩
instance : CallOk Tryz.prog 105 := ⟨Tryz.call105⟩
instance : FnIs Tryz.prog 105 Tryz.f105 := ⟨Tryz.func105⟩
instance : CallOk Tryz.prog 106 := ⟨Tryz.call106⟩
instance : FnIs Tryz.prog 106 Tryz.f106 := ⟨Tryz.func106⟩
instance : CallOk Tryz.prog 107 := ⟨Tryz.call107⟩
instance : FnIs Tryz.prog 107 Tryz.f107 := ⟨Tryz.func107⟩
instance : CallOk Tryz.prog 108 := ⟨Tryz.call108⟩
instance : FnIs Tryz.prog 108 Tryz.f108 := ⟨Tryz.func108⟩
instance : CallOk Tryz.prog 111 := ⟨Tryz.call111⟩
instance : CallOk Tryz.prog 112 := ⟨Tryz.call112⟩
instance : FnIs Tryz.prog 112 Tryz.f112 := ⟨Tryz.func112⟩
instance : CallOk Tryz.prog 113 := ⟨Tryz.call113⟩
instance : FnIs Tryz.prog 113 Tryz.f113 := ⟨Tryz.func113⟩
instance : CallOk Tryz.prog 114 := ⟨Tryz.call114⟩
instance : FnIs Tryz.prog 114 Tryz.f114 := ⟨Tryz.func114⟩
instance : CallOk Tryz.prog 125 := ⟨Tryz.call125⟩
instance : FnIs Tryz.prog 125 Tryz.f125 := ⟨Tryz.func125⟩
instance : CallOk Tryz.prog 126 := ⟨Tryz.call126⟩
instance : CallOk Tryz.prog 127 := ⟨Tryz.call127⟩
instance : FnIs Tryz.prog 127 Tryz.f127 := ⟨Tryz.func127⟩
instance : CallOk Tryz.prog 128 := ⟨Tryz.call128⟩
instance : FnIs Tryz.prog 128 Tryz.f128 := ⟨Tryz.func128⟩
instance : CallOk Tryz.prog 132 := ⟨Tryz.call132⟩
instance : FnIs Tryz.prog 132 Tryz.f132 := ⟨Tryz.func132⟩
instance : CallOk Tryz.prog 134 := ⟨Tryz.call134⟩
instance : FnIs Tryz.prog 134 Tryz.f134 := ⟨Tryz.func134⟩
instance : CallOk Tryz.prog 135 := ⟨Tryz.call135⟩
instance : FnIs Tryz.prog 135 Tryz.f135 := ⟨Tryz.func135⟩
instance : CallOk Tryz.prog 136 := ⟨Tryz.call136⟩
instance : FnIs Tryz.prog 136 Tryz.f136 := ⟨Tryz.func136⟩
instance : CallOk Tryz.prog 137 := ⟨Tryz.call137⟩
instance : FnIs Tryz.prog 137 Tryz.f137 := ⟨Tryz.func137⟩
instance : CallOk Tryz.prog 138 := ⟨Tryz.call138⟩
instance : FnIs Tryz.prog 138 Tryz.f138 := ⟨Tryz.func138⟩
instance : CallOk Tryz.prog 146 := ⟨Tryz.call146⟩
instance : FnIs Tryz.prog 146 Tryz.f146 := ⟨Tryz.func146⟩
instance : CallOk Tryz.prog 147 := ⟨Tryz.call147⟩
instance : FnIs Tryz.prog 147 Tryz.f147 := ⟨Tryz.func147⟩
instance : CallOk Tryz.prog 148 := ⟨Tryz.call148⟩
instance : FnIs Tryz.prog 148 Tryz.f148 := ⟨Tryz.func148⟩
instance : CallOk Tryz.prog 149 := ⟨Tryz.call149⟩
instance : FnIs Tryz.prog 149 Tryz.f149 := ⟨Tryz.func149⟩
instance : CallOk Tryz.prog 150 := ⟨Tryz.call150⟩
instance : FnIs Tryz.prog 150 Tryz.f150 := ⟨Tryz.func150⟩
instance : CallOk Tryz.prog 151 := ⟨Tryz.call151⟩
instance : FnIs Tryz.prog 151 Tryz.f151 := ⟨Tryz.func151⟩
instance : CallOk Tryz.prog 152 := ⟨Tryz.call152⟩
instance : FnIs Tryz.prog 152 Tryz.f152 := ⟨Tryz.func152⟩
instance : CallOk Tryz.prog 153 := ⟨Tryz.call153⟩
instance : FnIs Tryz.prog 153 Tryz.f153 := ⟨Tryz.func153⟩
instance : CallOk Tryz.prog 154 := ⟨Tryz.call154⟩
instance : FnIs Tryz.prog 154 Tryz.f154 := ⟨Tryz.func154⟩
instance : CallOk Tryz.prog 158 := ⟨Tryz.call158⟩
instance : CallOk Tryz.prog 159 := ⟨Tryz.call159⟩
instance : FnIs Tryz.prog 159 Tryz.f159 := ⟨Tryz.func159⟩
instance : CallOk Tryz.prog 160 := ⟨Tryz.call160⟩
instance : FnIs Tryz.prog 160 Tryz.f160 := ⟨Tryz.func160⟩
instance : CallOk Tryz.prog 161 := ⟨Tryz.call161⟩
instance : FnIs Tryz.prog 161 Tryz.f161 := ⟨Tryz.func161⟩
instance : CallOk Tryz.prog 162 := ⟨Tryz.call162⟩
instance : FnIs Tryz.prog 162 Tryz.f162 := ⟨Tryz.func162⟩
instance : CallOk Tryz.prog 165 := ⟨Tryz.call165⟩
instance : FnIs Tryz.prog 165 Tryz.f165 := ⟨Tryz.func165⟩
instance : CallOk Tryz.prog 170 := ⟨Tryz.call170⟩
instance : FnIs Tryz.prog 170 Tryz.f170 := ⟨Tryz.func170⟩
instance : CallOk Tryz.prog 172 := ⟨Tryz.call172⟩
instance : FnIs Tryz.prog 172 Tryz.f172 := ⟨Tryz.func172⟩
instance : CallOk Tryz.prog 173 := ⟨Tryz.call173⟩
instance : FnIs Tryz.prog 173 Tryz.f173 := ⟨Tryz.func173⟩
instance : CallOk Tryz.prog 174 := ⟨Tryz.call174⟩
instance : FnIs Tryz.prog 174 Tryz.f174 := ⟨Tryz.func174⟩
instance : CallOk Tryz.prog 175 := ⟨Tryz.call175⟩
instance : FnIs Tryz.prog 175 Tryz.f175 := ⟨Tryz.func175⟩
instance : CallOk Tryz.prog 180 := ⟨Tryz.call180⟩
instance : FnIs Tryz.prog 180 Tryz.f180 := ⟨Tryz.func180⟩
instance : CallOk Tryz.prog 181 := ⟨Tryz.call181⟩
instance : FnIs Tryz.prog 181 Tryz.f181 := ⟨Tryz.func181⟩
instance : CallOk Tryz.prog 182 := ⟨Tryz.call182⟩
instance : FnIs Tryz.prog 182 Tryz.f182 := ⟨Tryz.func182⟩
instance : CallOk Tryz.prog 183 := ⟨Tryz.call183⟩
instance : FnIs Tryz.prog 183 Tryz.f183 := ⟨Tryz.func183⟩
instance : CallOk Tryz.prog 194 := ⟨Tryz.call194⟩
instance : FnIs Tryz.prog 194 Tryz.f194 := ⟨Tryz.func194⟩
instance : CallOk Tryz.prog 209 := ⟨Tryz.call209⟩
instance : FnIs Tryz.prog 209 Tryz.f209 := ⟨Tryz.func209⟩
instance : CallOk Tryz.prog 222 := ⟨Tryz.call222⟩
instance : FnIs Tryz.prog 222 Tryz.f222 := ⟨Tryz.func222⟩
instance : UTy Tryz.prog 3 (.int .i64) := ⟨Tryz.underlying3⟩
instance : ITy Tryz.prog 3 (Go.Value.int Go.IntKind.i64 0) 1 8 := ⟨by kernel_rfl⟩
instance : ATy Tryz.prog 3 false := ⟨by kernel_rfl⟩
instance : UTy Tryz.prog 4 .bool := ⟨Tryz.underlying4⟩
instance : ITy Tryz.prog 4 (Go.Value.bool Bool.false) 1 1 := ⟨by kernel_rfl⟩
instance : ATy Tryz.prog 4 false := ⟨by kernel_rfl⟩
instance : UTy Tryz.prog 5 (.int .u8) := ⟨Tryz.underlying5⟩
instance : ITy Tryz.prog 5 (Go.Value.int Go.IntKind.u8 0) 1 1 := ⟨by kernel_rfl⟩
instance : ATy Tryz.prog 5 false := ⟨by kernel_rfl⟩
instance : UTy Tryz.prog 9 .string := ⟨Tryz.underlying9⟩
instance : ITy Tryz.prog 9 (Go.Value.string (ByteArray.mk #[])) 1 16 := ⟨by kernel_rfl⟩
instance : ATy Tryz.prog 9 false := ⟨by kernel_rfl⟩
instance : UTy Tryz.prog 24 (.pointer 84) := ⟨Tryz.underlying24⟩
instance : ITy Tryz.prog 24 (Go.Value.pointer none) 1 8 := ⟨by kernel_rfl⟩
instance : ATy Tryz.prog 24 false := ⟨by kernel_rfl⟩
instance : UTy Tryz.prog 25 (.pointer 102) := ⟨Tryz.underlying25⟩
instance : ITy Tryz.prog 25 (Go.Value.pointer none) 1 8 := ⟨by kernel_rfl⟩
instance : ATy Tryz.prog 25 false := ⟨by kernel_rfl⟩
instance : ITy Tryz.prog 28 (Go.Value.int Go.IntKind.i64 0) 1 8 := ⟨by kernel_rfl⟩
instance : ATy Tryz.prog 28 false := ⟨by kernel_rfl⟩
instance : UTy Tryz.prog 38 (.slice 3) := ⟨Tryz.underlying38⟩
instance : ITy Tryz.prog 38 (Go.Value.slice none 0 0) 1 24 := ⟨by kernel_rfl⟩
instance : ATy Tryz.prog 38 false := ⟨by kernel_rfl⟩
instance : UTy Tryz.prog 41 (.slice 43) := ⟨Tryz.underlying41⟩
instance : ITy Tryz.prog 43 (Go.Value.agg #[(Go.Value.int Go.IntKind.i64 0), (Go.Value.int Go.IntKind.i64 0)]) 2 16 := ⟨by kernel_rfl⟩
instance : ATy Tryz.prog 43 true := ⟨by kernel_rfl⟩
instance : UTy Tryz.prog 55 (.slice 5) := ⟨Tryz.underlying55⟩
instance : ITy Tryz.prog 55 (Go.Value.slice none 0 0) 1 24 := ⟨by kernel_rfl⟩
instance : ATy Tryz.prog 55 false := ⟨by kernel_rfl⟩
instance : UTy Tryz.prog 69 (.slice 9) := ⟨Tryz.underlying69⟩
instance : ITy Tryz.prog 69 (Go.Value.slice none 0 0) 1 24 := ⟨by kernel_rfl⟩
instance : ATy Tryz.prog 69 false := ⟨by kernel_rfl⟩
instance : UTy Tryz.prog 72 (.slice 4) := ⟨Tryz.underlying72⟩
instance : ITy Tryz.prog 76 (Go.Value.agg #[(Go.Value.int Go.IntKind.i64 0), (Go.Value.int Go.IntKind.i64 0)]) 2 16 := ⟨by kernel_rfl⟩
instance : ATy Tryz.prog 76 true := ⟨by kernel_rfl⟩
instance : FTy Tryz.prog 76 0 0 3 := ⟨by kernel_rfl⟩
instance : FTy Tryz.prog 76 1 1 3 := ⟨by kernel_rfl⟩
instance : UTy Tryz.prog 81 (.map 76 9) := ⟨Tryz.underlying81⟩
instance : ITy Tryz.prog 81 (Go.Value.map none) 1 8 := ⟨by kernel_rfl⟩
instance : ATy Tryz.prog 81 false := ⟨by kernel_rfl⟩
instance : UTy Tryz.prog 82 (.pointer 179) := ⟨Tryz.underlying82⟩
instance : ITy Tryz.prog 82 (Go.Value.pointer none) 1 8 := ⟨by kernel_rfl⟩
instance : ATy Tryz.prog 82 false := ⟨by kernel_rfl⟩
instance : FTy Tryz.prog 84 0 0 81 := ⟨by kernel_rfl⟩
instance : FTy Tryz.prog 84 1 1 82 := ⟨by kernel_rfl⟩
instance : UTy Tryz.prog 85 (.int .u32) := ⟨Tryz.underlying85⟩
instance : ITy Tryz.prog 85 (Go.Value.int Go.IntKind.u32 0) 1 4 := ⟨by kernel_rfl⟩
instance : ATy Tryz.prog 85 false := ⟨by kernel_rfl⟩
instance : UTy Tryz.prog 86 (.slice 85) := ⟨Tryz.underlying86⟩
instance : UTy Tryz.prog 89 (.int .u64) := ⟨Tryz.underlying89⟩
instance : UTy Tryz.prog 90 (.slice 76) := ⟨Tryz.underlying90⟩
instance : ITy Tryz.prog 90 (Go.Value.slice none 0 0) 1 24 := ⟨by kernel_rfl⟩
instance : ATy Tryz.prog 90 false := ⟨by kernel_rfl⟩
instance : ITy Tryz.prog 99 (Go.Value.agg #[(Go.Value.bool Bool.false), (Go.Value.int Go.IntKind.i64 0)]) 2 16 := ⟨by kernel_rfl⟩
instance : FTy Tryz.prog 99 0 0 4 := ⟨by kernel_rfl⟩
instance : FTy Tryz.prog 99 1 1 3 := ⟨by kernel_rfl⟩
instance : UTy Tryz.prog 100 (.slice 106) := ⟨Tryz.underlying100⟩
instance : ITy Tryz.prog 100 (Go.Value.slice none 0 0) 1 24 := ⟨by kernel_rfl⟩
instance : ATy Tryz.prog 100 false := ⟨by kernel_rfl⟩
instance : FTy Tryz.prog 102 0 0 99 := ⟨by kernel_rfl⟩
instance : FTy Tryz.prog 102 1 2 55 := ⟨by kernel_rfl⟩
instance : FTy Tryz.prog 102 2 3 55 := ⟨by kernel_rfl⟩
instance : FTy Tryz.prog 102 3 4 100 := ⟨by kernel_rfl⟩
instance : ITy Tryz.prog 103 Go.Value.nilFunc 1 8 := ⟨by kernel_rfl⟩
instance : ATy Tryz.prog 103 false := ⟨by kernel_rfl⟩
instance : ITy Tryz.prog 106 (Go.Value.agg #[(Go.Value.int Go.IntKind.i64 0), (Go.Value.string (ByteArray.mk #[]))]) 2 24 := ⟨by kernel_rfl⟩
instance : ATy Tryz.prog 106 true := ⟨by kernel_rfl⟩
instance : FTy Tryz.prog 106 0 0 3 := ⟨by kernel_rfl⟩
instance : FTy Tryz.prog 106 1 1 9 := ⟨by kernel_rfl⟩
instance : ATy Tryz.prog 111 false := ⟨by kernel_rfl⟩
instance : UTy Tryz.prog 155 (.array 9 3) := ⟨Tryz.underlying155⟩
instance : ITy Tryz.prog 155 (Go.Value.agg #[(Go.Value.int Go.IntKind.i64 0), (Go.Value.int Go.IntKind.i64 0), (Go.Value.int Go.IntKind.i64 0), (Go.Value.int Go.IntKind.i64 0), (Go.Value.int Go.IntKind.i64 0), (Go.Value.int Go.IntKind.i64 0), (Go.Value.int Go.IntKind.i64 0), (Go.Value.int Go.IntKind.i64 0), (Go.Value.int Go.IntKind.i64 0)]) 9 72 := ⟨by kernel_rfl⟩
instance : ATy Tryz.prog 155 true := ⟨by kernel_rfl⟩
instance : UTy Tryz.prog 161 (.array 8 85) := ⟨Tryz.underlying161⟩
instance : ITy Tryz.prog 161 (Go.Value.agg #[(Go.Value.int Go.IntKind.u32 0), (Go.Value.int Go.IntKind.u32 0), (Go.Value.int Go.IntKind.u32 0), (Go.Value.int Go.IntKind.u32 0), (Go.Value.int Go.IntKind.u32 0), (Go.Value.int Go.IntKind.u32 0), (Go.Value.int Go.IntKind.u32 0), (Go.Value.int Go.IntKind.u32 0)]) 8 32 := ⟨by kernel_rfl⟩
instance : ATy Tryz.prog 161 true := ⟨by kernel_rfl⟩
instance : ITy Tryz.prog 177 (Go.Value.agg #[(Go.Value.slice none 0 0), (Go.Value.string (ByteArray.mk #[])), (Go.Value.int Go.IntKind.i64 0)]) 3 48 := ⟨by kernel_rfl⟩
instance : ATy Tryz.prog 177 true := ⟨by kernel_rfl⟩
instance : FTy Tryz.prog 177 0 0 69 := ⟨by kernel_rfl⟩
instance : FTy Tryz.prog 177 1 1 9 := ⟨by kernel_rfl⟩
instance : FTy Tryz.prog 177 2 2 3 := ⟨by kernel_rfl⟩
instance : FTy Tryz.prog 179 0 0 177 := ⟨by kernel_rfl⟩
instance : FTy Tryz.prog 179 1 3 25 := ⟨by kernel_rfl⟩
instance : FTy Tryz.prog 179 2 4 4 := ⟨by kernel_rfl⟩
instance : FTy Tryz.prog 190 0 0 9 := ⟨by kernel_rfl⟩
instance : FTy Tryz.prog 190 1 1 3 := ⟨by kernel_rfl⟩
instance : UTy Tryz.prog 203 (.pointer 205) := ⟨Tryz.underlying203⟩
instance : ITy Tryz.prog 203 (Go.Value.pointer none) 1 8 := ⟨by kernel_rfl⟩
instance : ATy Tryz.prog 203 false := ⟨by kernel_rfl⟩
instance : ITy Tryz.prog 205 (Go.Value.agg #[(Go.Value.pointer none), (Go.Value.slice none 0 0)]) 2 32 := ⟨by kernel_rfl⟩
instance : FTy Tryz.prog 205 0 0 203 := ⟨by kernel_rfl⟩
instance : FTy Tryz.prog 205 1 1 55 := ⟨by kernel_rfl⟩
instance : UTy Tryz.prog 222 (.int .u64) := ⟨Tryz.underlying222⟩
instance : ITy Tryz.prog 222 (Go.Value.int Go.IntKind.u64 0) 1 8 := ⟨by kernel_rfl⟩
instance : ATy Tryz.prog 222 false := ⟨by kernel_rfl⟩
instance : UTy Tryz.prog 226 (.array 64 85) := ⟨Tryz.underlying226⟩
instance : ITy Tryz.prog 226 (Go.Value.agg #[(Go.Value.int Go.IntKind.u32 0), (Go.Value.int Go.IntKind.u32 0), (Go.Value.int Go.IntKind.u32 0), (Go.Value.int Go.IntKind.u32 0), (Go.Value.int Go.IntKind.u32 0), (Go.Value.int Go.IntKind.u32 0), (Go.Value.int Go.IntKind.u32 0), (Go.Value.int Go.IntKind.u32 0), (Go.Value.int Go.IntKind.u32 0), (Go.Value.int Go.IntKind.u32 0), (Go.Value.int Go.IntKind.u32 0), (Go.Value.int Go.IntKind.u32 0), (Go.Value.int Go.IntKind.u32 0), (Go.Value.int Go.IntKind.u32 0), (Go.Value.int Go.IntKind.u32 0), (Go.Value.int Go.IntKind.u32 0), (Go.Value.int Go.IntKind.u32 0), (Go.Value.int Go.IntKind.u32 0), (Go.Value.int Go.IntKind.u32 0), (Go.Value.int Go.IntKind.u32 0), (Go.Value.int Go.IntKind.u32 0), (Go.Value.int Go.IntKind.u32 0), (Go.Value.int Go.IntKind.u32 0), (Go.Value.int Go.IntKind.u32 0), (Go.Value.int Go.IntKind.u32 0), (Go.Value.int Go.IntKind.u32 0), (Go.Value.int Go.IntKind.u32 0), (Go.Value.int Go.IntKind.u32 0), (Go.Value.int Go.IntKind.u32 0), (Go.Value.int Go.IntKind.u32 0), (Go.Value.int Go.IntKind.u32 0), (Go.Value.int Go.IntKind.u32 0), (Go.Value.int Go.IntKind.u32 0), (Go.Value.int Go.IntKind.u32 0), (Go.Value.int Go.IntKind.u32 0), (Go.Value.int Go.IntKind.u32 0), (Go.Value.int Go.IntKind.u32 0), (Go.Value.int Go.IntKind.u32 0), (Go.Value.int Go.IntKind.u32 0), (Go.Value.int Go.IntKind.u32 0), (Go.Value.int Go.IntKind.u32 0), (Go.Value.int Go.IntKind.u32 0), (Go.Value.int Go.IntKind.u32 0), (Go.Value.int Go.IntKind.u32 0), (Go.Value.int Go.IntKind.u32 0), (Go.Value.int Go.IntKind.u32 0), (Go.Value.int Go.IntKind.u32 0), (Go.Value.int Go.IntKind.u32 0), (Go.Value.int Go.IntKind.u32 0), (Go.Value.int Go.IntKind.u32 0), (Go.Value.int Go.IntKind.u32 0), (Go.Value.int Go.IntKind.u32 0), (Go.Value.int Go.IntKind.u32 0), (Go.Value.int Go.IntKind.u32 0), (Go.Value.int Go.IntKind.u32 0), (Go.Value.int Go.IntKind.u32 0), (Go.Value.int Go.IntKind.u32 0), (Go.Value.int Go.IntKind.u32 0), (Go.Value.int Go.IntKind.u32 0), (Go.Value.int Go.IntKind.u32 0), (Go.Value.int Go.IntKind.u32 0), (Go.Value.int Go.IntKind.u32 0), (Go.Value.int Go.IntKind.u32 0), (Go.Value.int Go.IntKind.u32 0)]) 64 256 := ⟨by kernel_rfl⟩
instance : ATy Tryz.prog 226 true := ⟨by kernel_rfl⟩
instance : UTy Tryz.prog 229 (.array 32 5) := ⟨Tryz.underlying229⟩
instance : ITy Tryz.prog 229 (Go.Value.agg #[(Go.Value.int Go.IntKind.u8 0), (Go.Value.int Go.IntKind.u8 0), (Go.Value.int Go.IntKind.u8 0), (Go.Value.int Go.IntKind.u8 0), (Go.Value.int Go.IntKind.u8 0), (Go.Value.int Go.IntKind.u8 0), (Go.Value.int Go.IntKind.u8 0), (Go.Value.int Go.IntKind.u8 0), (Go.Value.int Go.IntKind.u8 0), (Go.Value.int Go.IntKind.u8 0), (Go.Value.int Go.IntKind.u8 0), (Go.Value.int Go.IntKind.u8 0), (Go.Value.int Go.IntKind.u8 0), (Go.Value.int Go.IntKind.u8 0), (Go.Value.int Go.IntKind.u8 0), (Go.Value.int Go.IntKind.u8 0), (Go.Value.int Go.IntKind.u8 0), (Go.Value.int Go.IntKind.u8 0), (Go.Value.int Go.IntKind.u8 0), (Go.Value.int Go.IntKind.u8 0), (Go.Value.int Go.IntKind.u8 0), (Go.Value.int Go.IntKind.u8 0), (Go.Value.int Go.IntKind.u8 0), (Go.Value.int Go.IntKind.u8 0), (Go.Value.int Go.IntKind.u8 0), (Go.Value.int Go.IntKind.u8 0), (Go.Value.int Go.IntKind.u8 0), (Go.Value.int Go.IntKind.u8 0), (Go.Value.int Go.IntKind.u8 0), (Go.Value.int Go.IntKind.u8 0), (Go.Value.int Go.IntKind.u8 0), (Go.Value.int Go.IntKind.u8 0)]) 32 32 := ⟨by kernel_rfl⟩
instance : UTy Tryz.prog 233 (.slice 103) := ⟨Tryz.underlying233⟩
instance : UTy Tryz.prog 253 (.pointer 5) := ⟨Tryz.underlying253⟩
instance : UTy Tryz.prog 277 .unsafePointer := ⟨Tryz.underlying277⟩
instance : UTy Tryz.prog 280 (.array 16 3) := ⟨Tryz.underlying280⟩
end Go.Sx
/- By program: how the values of structs and arrays are laid out. -/
namespace Go.Sx
open Go Go.Proofs
instance : BTy Tryz.prog 43 [(0, 1), (1, 1)] [(Go.Value.int Go.IntKind.i64 0), (Go.Value.int Go.IntKind.i64 0)] := ⟨by kernel_rfl⟩
instance : BTy Tryz.prog 76 [(0, 1), (1, 1)] [(Go.Value.int Go.IntKind.i64 0), (Go.Value.int Go.IntKind.i64 0)] := ⟨by kernel_rfl⟩
instance : BTy Tryz.prog 84 [(0, 1), (1, 1)] [(Go.Value.map none), (Go.Value.pointer none)] := ⟨by kernel_rfl⟩
instance : BTy Tryz.prog 99 [(0, 1), (1, 1)] [(Go.Value.bool Bool.false), (Go.Value.int Go.IntKind.i64 0)] := ⟨by kernel_rfl⟩
instance : BTy Tryz.prog 102 [(0, 2), (2, 1), (3, 1), (4, 1)] [(Go.Value.bool Bool.false), (Go.Value.int Go.IntKind.i64 0), (Go.Value.slice none 0 0), (Go.Value.slice none 0 0), (Go.Value.slice none 0 0)] := ⟨by kernel_rfl⟩
instance : BTy Tryz.prog 106 [(0, 1), (1, 1)] [(Go.Value.int Go.IntKind.i64 0), (Go.Value.string (ByteArray.mk #[]))] := ⟨by kernel_rfl⟩
instance : BTy Tryz.prog 161 [(0, 1), (1, 1), (2, 1), (3, 1), (4, 1), (5, 1), (6, 1), (7, 1)] [(Go.Value.int Go.IntKind.u32 0), (Go.Value.int Go.IntKind.u32 0), (Go.Value.int Go.IntKind.u32 0), (Go.Value.int Go.IntKind.u32 0), (Go.Value.int Go.IntKind.u32 0), (Go.Value.int Go.IntKind.u32 0), (Go.Value.int Go.IntKind.u32 0), (Go.Value.int Go.IntKind.u32 0)] := ⟨by kernel_rfl⟩
instance : BTy Tryz.prog 177 [(0, 1), (1, 1), (2, 1)] [(Go.Value.slice none 0 0), (Go.Value.string (ByteArray.mk #[])), (Go.Value.int Go.IntKind.i64 0)] := ⟨by kernel_rfl⟩
instance : BTy Tryz.prog 179 [(0, 3), (3, 1), (4, 1)] [(Go.Value.slice none 0 0), (Go.Value.string (ByteArray.mk #[])), (Go.Value.int Go.IntKind.i64 0), (Go.Value.pointer none), (Go.Value.bool Bool.false)] := ⟨by kernel_rfl⟩
instance : BTy Tryz.prog 190 [(0, 1), (1, 1)] [(Go.Value.string (ByteArray.mk #[])), (Go.Value.int Go.IntKind.i64 0)] := ⟨by kernel_rfl⟩
end Go.Sx
/- Chapter 2 in plain words: the digest of a string. -/
namespace Go.Sx
def rot (x : UInt32) (n : Nat) : UInt32 := x <<< UInt32.ofNat (32 - n) ||| x >>> UInt32.ofNat n
def mixW (x : UInt32) (l : List Nat) : UInt32 := l.foldl (fun o n => o ^^^ rot x n) 0
def bt (b : List UInt8) (i : Nat) : UInt32 := (b.getD i 0).toUInt32
def wordAt (b : List UInt8) (i : Nat) : UInt32 := bt b (4 * i) <<< UInt32.ofNat 24 ||| bt b (4 * i + 1) <<< UInt32.ofNat 16 ||| bt b (4 * i + 2) <<< UInt32.ofNat 8 ||| bt b (4 * i + 3)
/-- The words of a block. -/
def wW (b : List UInt8) (i : Nat) : UInt32 :=
  if i < 16 then wordAt b i
  else wW b (i - 16) + (mixW (wW b (i - 15)) [7, 18] ^^^ wW b (i - 15) >>> UInt32.ofNat 3) + wW b (i - 7) + (mixW (wW b (i - 2)) [17, 19] ^^^ wW b (i - 2) >>> UInt32.ofNat 10)
termination_by i
decreasing_by all_goals omega
theorem wW_lo {b : List UInt8} {i : Nat} (h : i < 16) : wW b i = wordAt b i := by rw [wW, if_pos h]
theorem wW_hi {b : List UInt8} {i : Nat} (h : ¬ i < 16) : wW b i = wW b (i - 16) + (mixW (wW b (i - 15)) [7, 18] ^^^ wW b (i - 15) >>> UInt32.ofNat 3) + wW b (i - 7) + (mixW (wW b (i - 2)) [17, 19] ^^^ wW b (i - 2) >>> UInt32.ofNat 10) := by
  rw [wW, if_neg h]
structure S8 where
  a : UInt32
  b : UInt32
  c : UInt32
  d : UInt32
  e : UInt32
  f : UInt32
  g : UInt32
  h : UInt32
def S8.l (s : S8) : List UInt32 := [s.a, s.b, s.c, s.d, s.e, s.f, s.g, s.h]
def kL : List UInt32 := [
  0x428a2f98, 0x71374491, 0xb5c0fbcf, 0xe9b5dba5, 0x3956c25b, 0x59f111f1, 0x923f82a4, 0xab1c5ed5,
  0xd807aa98, 0x12835b01, 0x243185be, 0x550c7dc3, 0x72be5d74, 0x80deb1fe, 0x9bdc06a7, 0xc19bf174,
  0xe49b69c1, 0xefbe4786, 0x0fc19dc6, 0x240ca1cc, 0x2de92c6f, 0x4a7484aa, 0x5cb0a9dc, 0x76f988da,
  0x983e5152, 0xa831c66d, 0xb00327c8, 0xbf597fc7, 0xc6e00bf3, 0xd5a79147, 0x06ca6351, 0x14292967,
  0x27b70a85, 0x2e1b2138, 0x4d2c6dfc, 0x53380d13, 0x650a7354, 0x766a0abb, 0x81c2c92e, 0x92722c85,
  0xa2bfe8a1, 0xa81a664b, 0xc24b8b70, 0xc76c51a3, 0xd192e819, 0xd6990624, 0xf40e3585, 0x106aa070,
  0x19a4c116, 0x1e376c08, 0x2748774c, 0x34b0bcb5, 0x391c0cb3, 0x4ed8aa4a, 0x5b9cca4f, 0x682e6ff3,
  0x748f82ee, 0x78a5636f, 0x84c87814, 0x8cc70208, 0x90befffa, 0xa4506ceb, 0xbef9a3f7, 0xc67178f2]
def kW (i : Nat) : UInt32 := kL.getD i 0
def rT (k w : UInt32) (s : S8) : UInt32 := s.h + mixW s.e [6, 11, 25] + (s.e &&& s.f ^^^ ~~~s.e &&& s.g) + k + w
def rU (s : S8) : UInt32 := mixW s.a [2, 13, 22] + (s.a &&& s.b ^^^ s.a &&& s.c ^^^ s.b &&& s.c)
def rnd (k w : UInt32) (s : S8) : S8 := ⟨rT k w s + rU s, s.a, s.b, s.c, s.d + rT k w s, s.e, s.f, s.g⟩
def rnds (b : List UInt8) (s : S8) : Nat → S8
  | 0 => s
  | i + 1 => rnd (kW i) (wW b i) (rnds b s i)
def S8.add (s t : S8) : S8 := ⟨s.a + t.a, s.b + t.b, s.c + t.c, s.d + t.d, s.e + t.e, s.f + t.f, s.g + t.g, s.h + t.h⟩
def comp (s : S8) (b : List UInt8) : S8 := s.add (rnds b s 64)
def shaI : S8 := ⟨0x6a09e667, 0xbb67ae85, 0x3c6ef372, 0xa54ff53a, 0x510e527f, 0x9b05688c, 0x1f83d9ab, 0x5be0cd19⟩
def by4 (x : UInt32) : List UInt8 := [(x >>> UInt32.ofNat 24).toUInt8, (x >>> UInt32.ofNat 16).toUInt8, (x >>> UInt32.ofNat 8).toUInt8, (x >>> UInt32.ofNat 0).toUInt8]
def digL (s : S8) : List UInt8 := s.l.flatMap by4
theorem digL_len (s : S8) : (digL s).length = 32 := rfl
def shaZ (n : Nat) : Nat := (119 - n % 64) % 64
def shaT (n j : Nat) : UInt8 := UInt8.ofNat ((8 * n) >>> (8 * (7 - j)))
def shaP (s : List UInt8) : List UInt8 := s ++ [128] ++ List.replicate (shaZ s.length) 0 ++ (List.range 8).map (shaT s.length)
theorem shaP_len (s : List UInt8) : (shaP s).length = s.length + 1 + shaZ s.length + 8 := by
  unfold shaP; simp only [List.length_append, List.length_replicate, List.length_map, List.length_range, List.length_cons, List.length_nil]
theorem shaP_mod (s : List UInt8) : (shaP s).length % 64 = 0 := by
  rw [shaP_len]; unfold shaZ; omega
/-- The digest of the first i blocks. -/
def sums (b : List UInt8) : Nat → S8
  | 0 => shaI
  | i + 1 => comp (sums b i) ((b.drop (64 * i)).take 64)
def sumL (s : List UInt8) : List UInt8 := digL (sums (shaP s) ((shaP s).length / 64))
theorem sumL_len (s : List UInt8) : (sumL s).length = 32 := digL_len _
def sumS (s : ByteArray) : ByteArray := ⟨(sumL s.data.toList).toArray⟩
theorem sumS_size (s : ByteArray) : (sumS s).size = 32 := by
  show (sumL s.data.toList).toArray.size = 32
  rw [List.size_toArray, sumL_len]
end Go.Sx
/- The layer with atoms: words of 32 bits. -/
namespace Go.Sx
open Go Go.RowKit
abbrev w32 (x : UInt32) : Value := .int .u32 (x.toNat : Int)
abbrev b8 (x : UInt8) : Value := .int .u8 (x.toNat : Int)
theorem wrap_u32 (n : Int) : IntKind.u32.wrap n = n % 4294967296 := by
  simp [IntKind.wrap, IntKind.bits, IntKind.signed]
theorem wrap_w32 (x : UInt32) : IntKind.u32.wrap (x.toNat : Int) = (x.toNat : Int) := by
  have := x.toNat_lt
  rw [wrap_u32]; omega
theorem wrap_u8m (n : Int) : IntKind.u8.wrap n = n % 256 := by
  simp [IntKind.wrap, IntKind.bits, IntKind.signed]
theorem ofInt32 (x : UInt32) : BitVec.ofInt 32 (x.toNat : Int) = x.toBitVec := by
  rw [BitVec.ofInt_natCast]; exact BitVec.eq_of_toNat_eq (by simp)
section
variable {P : Program} {r : Option Nat} {N : Nat} {ds : List Deferred} {E : Env} {t t' ty : TypeId} {x y : Operand} {k k' : IntKind} {a b : UInt32} {n : Int}
theorem POp.xor32 (hx : Env.ev E x = some (w32 a)) (hy : Env.ev E y = some (w32 b)) : POp P N ds E (.binOp .xor t x y t') ty (w32 (a ^^^ b)) := POp.bin hx hy guard_int fun w => by
  have e : bits .xor .u32 (a.toNat : Int) (b.toNat : Int) = ((a ^^^ b).toNat : Int) := by
    show IntKind.u32.wrap (((BitVec.ofInt 32 a.toNat ^^^ BitVec.ofInt 32 b.toNat).toNat : Nat) : Int) = _
    rw [ofInt32, ofInt32]; exact wrap_w32 (a ^^^ b)
  rw [binOp_xor, intBits_xor, e]; rfl
theorem POp.and32 (hx : Env.ev E x = some (w32 a)) (hy : Env.ev E y = some (w32 b)) : POp P N ds E (.binOp .and t x y t') ty (w32 (a &&& b)) := POp.bin hx hy guard_int fun w => by
  have e : bits .and .u32 (a.toNat : Int) (b.toNat : Int) = ((a &&& b).toNat : Int) := by
    show IntKind.u32.wrap (((BitVec.ofInt 32 a.toNat &&& BitVec.ofInt 32 b.toNat).toNat : Nat) : Int) = _
    rw [ofInt32, ofInt32]; exact wrap_w32 (a &&& b)
  rw [binOp_and, intBits_and, e]; rfl
theorem POp.or32 (hx : Env.ev E x = some (w32 a)) (hy : Env.ev E y = some (w32 b)) : POp P N ds E (.binOp .or t x y t') ty (w32 (a ||| b)) := POp.bin hx hy guard_int fun w => by
  have e : bits .or .u32 (a.toNat : Int) (b.toNat : Int) = ((a ||| b).toNat : Int) := by
    show IntKind.u32.wrap (((BitVec.ofInt 32 a.toNat ||| BitVec.ofInt 32 b.toNat).toNat : Nat) : Int) = _
    rw [ofInt32, ofInt32]; exact wrap_w32 (a ||| b)
  rw [binOp_or, intBits_or, e]; rfl
theorem POp.add32 (hx : Env.ev E x = some (w32 a)) (hy : Env.ev E y = some (w32 b)) : POp P N ds E (.binOp .add t x y t') ty (w32 (a + b)) := (POp.add' hx hy).of (by
  rw [wrap_u32]
  have : (a + b).toNat = (a.toNat + b.toNat) % 4294967296 := UInt32.toNat_add a b
  unfold w32
  rw [this]; simp)
theorem POp.not32 (hx : Env.ev E x = some (w32 a)) : POp P N ds E (.unOp .xor t x) ty (w32 (~~~a)) := fun c ha d pos af g w => by
  have e : bits .xor .u32 IntKind.u32.max (a.toNat : Int) = ((~~~a).toNat : Int) := by
    show IntKind.u32.wrap (((BitVec.ofInt 32 IntKind.u32.max ^^^ BitVec.ofInt 32 a.toNat).toNat : Nat) : Int) = _
    rw [ofInt32, show BitVec.ofInt 32 IntKind.u32.max = BitVec.allOnes 32 from by decide, BitVec.allOnes_xor]; exact wrap_w32 (~~~a)
  have e2 : (if IntKind.u32.signed = true then (-1 : Int) else IntKind.u32.max) = IntKind.u32.max := rfl
  simp only [execOp, ha.ev hx, Op.unary, e2, intBits_xor, e]; rfl
theorem sh32 {s : Nat} (h : s < 32) : (UInt32.ofNat s).toNat % 32 = s := by
  rw [UInt32.toNat_ofNat']; omega
theorem POp.shl32 {s : Nat} (hx : Env.ev E x = some (w32 a)) (hy : Env.ev E y = some (.int k' n)) (en : n = (s : Int)) (h : s < 32) : POp P N ds E (.binOp .shl t x y t') ty (w32 (a <<< UInt32.ofNat s)) := POp.bin hx hy guard_int fun w => by
  subst en
  have e : ((a.toNat : Int) * 2 ^ ((s : Int).toNat)) = ((a.toNat <<< s : Nat) : Int) := by rw [Nat.shiftLeft_eq]; simp
  have e2 : (a <<< UInt32.ofNat s).toNat = a.toNat <<< s % 4294967296 := by
    rw [UInt32.toNat_shiftLeft, sh32 h]
  rw [binOp_shl, shift_shl .u32 k' a.toNat s (by omega) (by simp [IntKind.bits]; omega), e, wrap_u32, w32, e2]; simp [Sem.run_pure]
theorem POp.shr32 {s : Nat} (hx : Env.ev E x = some (w32 a)) (hy : Env.ev E y = some (.int k' n)) (en : n = (s : Int)) (h : s < 32) : POp P N ds E (.binOp .shr t x y t') ty (w32 (a >>> UInt32.ofNat s)) := POp.bin hx hy guard_int fun w => by
  subst en
  have e2 : (a >>> UInt32.ofNat s).toNat = a.toNat >>> s := by
    rw [UInt32.toNat_shiftRight, sh32 h]
  rw [binOp_shr, shift_shr .u32 k' a.toNat s (by omega) (by simp [IntKind.bits]; omega), w32, e2, Nat.shiftRight_eq_div_pow]; simp
theorem POp.conv832 {c : UInt8} {src dst : TypeId} {d' : TypeDesc} [hs : UTy P src d'] [hd : UTy P dst (.int .u32)] (hx : Env.ev E x = some (b8 c)) : POp P N ds E (.convert src dst x) ty (w32 c.toUInt32) := (POp.conv (k' := .u32) hx).of (by
  have := c.toNat_lt
  rw [wrap_u32, w32, UInt8.toNat_toUInt32]; congr 1; omega)
theorem POp.conv328 {src dst : TypeId} {d' : TypeDesc} [hs : UTy P src d'] [hd : UTy P dst (.int .u8)] (hx : Env.ev E x = some (w32 a)) : POp P N ds E (.convert src dst x) ty (b8 a.toUInt8) := (POp.conv (k' := .u8) hx).of (by
  rw [wrap_u8m, b8, UInt32.toNat_toUInt8]; congr 1)
theorem POp.conv648 {m : Nat} {src dst : TypeId} {d' : TypeDesc} [hs : UTy P src d'] [hd : UTy P dst (.int .u8)] (hx : Env.ev E x = some (.int .i64 (m : Int))) : POp P N ds E (.convert src dst x) ty (b8 (UInt8.ofNat m)) := (POp.conv (k' := .u8) hx).of (by
  rw [wrap_u8m, b8, UInt8.toNat_ofNat']; congr 1)
end
end Go.Sx
/-
  The layer with atoms: arrays by value, slices of arrays, copies into a block.
-/
namespace Go.Sx
open Go Go.RowKit
section
variable {P : Program} {r : Option Nat} {N : Nat} {ds : List Deferred} {ol rest : List Oper} {Q : Post} {E : Env} {w0 : World} {H : List Atom} {next : Act → World → Prop} {g : Option (Nat × Bool)}
variable {d : Nat} {t t' ty : TypeId} {pos : String} {af : Array Edge} {x y lo hi : Operand} {k k' : IntKind} {m n : Int}
theorem POp.index_agg {e : TypeId} {len bb i : Nat} {z v : Value} {cs : List Value} [h : UTy P t (.array len e)] [hi : ITy P e z 1 bb] [ha' : ATy P e false] (hx : Env.ev E x = some (.agg cs.toArray)) (hy : Env.ev E y = some (.int k n)) (ei : n = (i : Int)) (h1 : i < len) (hv : cs[i]? = some v) :
    POp P N ds E (.index t x y) ty v := fun a ha d pos af g w => by
  subst ei
  have h2 : (0 : Int) ≤ (i : Int) ∧ (i : Int) < (len : Int) := ⟨by omega, by omega⟩
  simp [execOp, ha.ev hx, ha.ev hy, Instr.index, asIntOf, run_underlying h.is, Sem.run_bind, h2, run_sizeOf, part, run_isAgg, hv]
  intro h; omega
theorem POp.arr_lo {e : TypeId} {len b off sz bb i : Nat} {z : Value} [h : UTy P t (.array len e)] [hi : ITy P e z sz bb] (hx : Env.ev E x = some (.pointer (some ⟨b, off, none⟩))) (hl : Env.ev E lo = some (.int k n)) (ei : n = (i : Int)) (h1 : i < len) :
    POp P N ds E (.slice t x (some lo) none none) ty (.slice (some ⟨b, off + i * sz, none⟩) (len - i) (len - i)) := fun a ha d pos af g w => by
  subst ei
  have hne : ¬ len = i := by omega
  simp [execOp, ha.ev hx, ha.ev hl, Instr.sliceAt, Instr.sureAddr, run_underlying h.is, Instr.sliceBounds, run_bound (show (0 : Int) ≤ i by omega) (show (i : Int) ≤ ((len : Nat) : Int) by omega), Sem.run_bind, run_sizeOf, hne, add_lit]
theorem POp.arr_hi {e : TypeId} {len b off sz bb i : Nat} {z : Value} [h : UTy P t (.array len e)] [hi' : ITy P e z sz bb] (hx : Env.ev E x = some (.pointer (some ⟨b, off, none⟩))) (hl : Env.ev E hi = some (.int k n)) (ei : n = (i : Int)) (h1 : i ≤ len) :
    POp P N ds E (.slice t x none (some hi) none) ty (.slice (some ⟨b, off, none⟩) i len) := fun a ha d pos af g w => by
  subst ei
  by_cases hne : len = 0
  · subst hne
    simp [execOp, ha.ev hx, ha.ev hl, Instr.sliceAt, Instr.sureAddr, run_underlying h.is, Instr.sliceBounds, run_bound (show (0 : Int) ≤ i by omega) (show (i : Int) ≤ ((0 : Nat) : Int) by omega), Sem.run_bind, run_sizeOf]
  · simp [execOp, ha.ev hx, ha.ev hl, Instr.sliceAt, Instr.sureAddr, run_underlying h.is, Instr.sliceBounds, run_bound (show (0 : Int) ≤ i by omega) (show (i : Int) ≤ ((len : Nat) : Int) by omega), Sem.run_bind, run_sizeOf, add_lit]
theorem POp.arr_all {e : TypeId} {len b off sz bb : Nat} {z : Value} [h : UTy P t (.array len e)] [hi' : ITy P e z sz bb] (hx : Env.ev E x = some (.pointer (some ⟨b, off, none⟩))) :
    POp P N ds E (.slice t x none none none) ty (.slice (some ⟨b, off, none⟩) len len) := fun a ha d pos af g w => by
  by_cases hne : len = 0
  · subst hne
    simp [execOp, ha.ev hx, Instr.sliceAt, Instr.sureAddr, run_underlying h.is, Instr.sliceBounds, Sem.run_bind, run_sizeOf]
  · simp [execOp, ha.ev hx, Instr.sliceAt, Instr.sureAddr, run_underlying h.is, Instr.sliceBounds, Sem.run_bind, run_sizeOf, add_lit]
/-- copy, into a block of the call's own. -/
theorem H1.copyB {e eb : TypeId} {z : Value} {bb b o dl dc sl sc : Nat} {ad : Addr} {cur cs cur' : List Value} {H' : List Atom} {t2 : TypeId} [h : UTy P t (.slice e)] [hi' : ITy P e z 1 bb] (hx : Env.ev E x = some (.slice (some ⟨b, o, none⟩) dl dc)) (hy : Env.ev E y = some (.slice (some ad) sl sc))
    (hn : cs.length = min sl dl) (hsrc : ∀ w, Mm w0 H w → ∀ j v, cs[j]? = some v → w.cell? (ad.add j) = some v) (h1 : ∀ v ∈ cs, v.oneCell' = true) (hfit : o + cs.length ≤ cur.length) (he : cur.take o ++ cs ++ cur.drop (o + cs.length) = cur')
    (hr : Rpl (A.blk b cur eb) (A.blk b cur' eb) H H') (hd : Nat.blt d N = true) (hn' : HN N ds next ((d, zv (cs.length : Int)) :: E) w0 H') :
    H1 P r N ds next ⟨some d, .call ⟨.builtin .copy, #[x, y], #[t, t2]⟩, ty, pos, af, g⟩ Q E w0 H := fun w hM => by
  subst he
  obtain ⟨i, hi1, hi2, hi3, hi4⟩ := hi'.parts
  have hb : w.heap[b]? = some (.cells cur.toArray eb (0, 0)) := hM.blk hr.mem
  have hrun := run_copy_row P w t t2 ty e b o dl dc ad sl sc cur.toArray eb cs h.is (by rw [hi1, Option.map_some, hi3]) hb hn (hsrc w hM) (by simpa using hfit) h1
  refine W1.run (v := zv (cs.length : Int)) (w' := w.setRow b (cur.take o ++ cs ++ cur.drop (o + cs.length)).toArray) (fun a ha => ?_) rfl hd (hn' _ (hM.turn hr rfl rfl rfl (by simp [World.setRow]) (fun q hq hq' => ?_) ?_ (by simp [A.blk]) fun b' hb' => .inl hb'))
  · simp only [execOp, resolve, invoke, Go.builtin, Sem.run_bind, Sem.run_pure, Result.andThen, List.map_toArray, List.map_cons, List.map_nil, ha.ev hx, ha.ev hy, hrun]; rfl
  · have hne : ¬ b = q := fun e => hq' (by simp [A.blk, e])
    simp [World.setRow, Array.getElem?_modify, hne]
  · show (w.setRow b _).heap[b]? = _
    simp [World.setRow, Array.getElem?_modify, hb]
/-- A call that turns own atoms. -/
theorem H1.callk {α : Type} {V : α → Value} {H' : α → List Atom} {I : α → Prop} {d : Option Nat} {f : FuncId} {args : List Operand} {ats : Array TypeId} {vs : List Value}
    [hf : CallOk P f] (hd : dOk d N = true) (ha : Env.evs E args = some vs) (hc : ∀ w, Mm w0 H w → Fn P f vs.toArray w fun v w' => ∃ z, I z ∧ v = V z ∧ Mm w0 (H' z) w')
    (h : ∀ z, I z → HN N ds next (putE d (V z) E) w0 (H' z)) :
    H1 P r N ds next ⟨d, .call ⟨.value (.func f), args.toArray, ats⟩, ty, pos, af, g⟩ Q E w0 H := fun w hM => W1.call hd ha (hc w hM) (by
    rintro v w' ⟨z, hz, rfl, hn⟩; exact h z hz w' hn)
variable {e : TypeId}
theorem run_equalIn_pnil [h : UTy P t (.pointer e)] (w : World) (d : Nat) (a : Option Addr) : (Op.equalIn (d + 1) t (.pointer a) (.pointer none)).run P w = .ok a.isNone w := by
  cases a <;> simp [Op.equalIn, Sem.run_bind, run_underlying h.is, Result.andThen]
theorem POp.pnil1 [h : UTy P t (.pointer e)] (hx : Env.ev E x = some (.pointer none)) (hy : Env.ev E y = some (.pointer none)) : POp P N ds E (.binOp .eql t x y t') ty (.bool true) :=
  POp.bin hx hy (fun w => by rw [eqGuard_at_pointer]; rfl) fun w => by
    have e1 := run_equalIn_pnil (P := P) (t := t) w 9999 none
    show ((Op.equalIn (9999 + 1) t (.pointer none) (.pointer none)) >>= fun r => pure (Value.bool r)).run P w = _
    rw [Sem.run_bind, e1]; rfl
theorem POp.pnil0 {a : Addr} [h : UTy P t (.pointer e)] (hx : Env.ev E x = some (.pointer (some a))) (hy : Env.ev E y = some (.pointer none)) : POp P N ds E (.binOp .eql t x y t') ty (.bool false) :=
  POp.bin hx hy (fun w => by rw [eqGuard_at_pointer]; rfl) fun w => by
    have e1 := run_equalIn_pnil (P := P) (t := t) w 9999 (some a)
    show ((Op.equalIn (9999 + 1) t (.pointer (some a)) (.pointer none)) >>= fun r => pure (Value.bool r)).run P w = _
    rw [Sem.run_bind, e1]; rfl
end
end Go.Sx
/-
  The layer with atoms: calls that may panic, functions that panic, deferred closures that recover.
-/
namespace Go.Sx
open Go Go.RowKit
section
variable {P : Program} {r : Option Nat} {N : Nat} {ds : List Deferred} {ol rest : List Oper} {Q : Post} {E : Env} {w0 : World} {H : List Atom} {next : Act → World → Prop} {g : Option (Nat × Bool)}
variable {d : Option Nat} {ty : TypeId} {pos : String} {af : Array Edge} {x : Operand}
theorem W1.callE {w : World} {f : FuncId} {args : List Operand} {ats : Array TypeId} {vs : List Value} {R : Ending → World → Prop} [hf : CallOk P f] (hd : dOk d N = true) (ha : Env.evs E args = some vs) (hc : Calls P f vs.toArray w R)
    (h1 : ∀ v w', R (.returned v) w' → NX N ds next (putE d v E) w') (h2 : ∀ ch w', R (.panicked ch) w' → WX N ds (.panic ch) Q E w') (h3 : ∀ w', ¬ R .outgrown w') :
    W1 P r N ds next ⟨d, .call ⟨.value (.func f), args.toArray, ats⟩, ty, pos, af, g⟩ Q E w := by
  intro a hr
  refine ⟨fun _ _ => trivial, ?_⟩
  have hrun : (execOp a.eval ⟨d, .call ⟨.value (.func f), args.toArray, ats⟩, ty, pos, af, g⟩).run P w = .ok (.enter f vs.toArray) w := by
    have hm : Array.map a.eval args.toArray = vs.toArray := by simp [hr.evs ha]
    simp [execOp, resolve, hm, Act.eval, Deferred.ofValue, invoke, hf.run]
  rw [semAt_of rfl, hrun]
  refine ⟨fun h => by simp [FW] at h, ⟨trivial, fun cs hroom => ?_⟩⟩
  obtain ⟨e, w', fr, hR, hs, hfr⟩ := hc cs
  cases e with
  | returned v => exact ⟨_, w', fr, h1 v w' hR _ (hr.putO hd v), comesIn_wide.2 hs, hfr⟩
  | panicked ch => exact ⟨_, w', fr, h2 ch w' hR a hr, comesIn_wide.2 hs, hfr⟩
  | outgrown => exact absurd hR (h3 w')
/-- A call that returns, or panics with one chain. -/
def EndP {α β : Type} (I : α → Prop) (V : α → Value) (Ha : α → List Atom) (J : β → Prop) (ch : List PanicEntry) (Hb : β → List Atom) (w0 : World) (e : Ending) (w' : World) : Prop :=
  (∃ z, I z ∧ e = .returned (V z) ∧ Mm w0 (Ha z) w') ∨ (∃ z, J z ∧ e = .panicked ch ∧ Mm w0 (Hb z) w')
theorem H1.callE {α β : Type} {V : α → Value} {Ha : α → List Atom} {I : α → Prop} {J : β → Prop} {ch : List PanicEntry} {Hb : β → List Atom} {f : FuncId} {args : List Operand} {ats : Array TypeId} {vs : List Value} [hf : CallOk P f]
    (hd : dOk d N = true) (ha : Env.evs E args = some vs) (hc : ∀ w, Mm w0 H w → Calls P f vs.toArray w (EndP I V Ha J ch Hb w0))
    (h1 : ∀ z, I z → HN N ds next (putE d (V z) E) w0 (Ha z)) (h2 : ∀ z, J z → HX N ds (.panic ch) Q E w0 (Hb z)) :
    H1 P r N ds next ⟨d, .call ⟨.value (.func f), args.toArray, ats⟩, ty, pos, af, g⟩ Q E w0 H := fun w hM => W1.callE hd ha (hc w hM)
  (fun v w' h => by
    rcases h with ⟨z, hz, he, hM'⟩ | ⟨z, hz, he, hM'⟩
    · injection he with he; subst he; exact h1 z hz w' hM'
    · cases he)
  (fun c w' h => by
    rcases h with ⟨z, hz, he, hM'⟩ | ⟨z, hz, he, hM'⟩
    · cases he
    · injection he with he; subst he; exact h2 z hz w' hM')
  (fun w' h => by
    rcases h with ⟨z, hz, he, hM'⟩ | ⟨z, hz, he, hM'⟩ <;> cases he)
theorem HX.p_then {y : Code} {ch : List PanicEntry} (h : HX N ds (.panic ch) Q E w0 H) : HX N ds (.panic ch) (Then P r y Q) E w0 H := h
theorem HX.p_again {I : Act → World → Prop} {ch : List PanicEntry} (h : HX N ds (.panic ch) Q E w0 H) : HX N ds (.panic ch) (Again I Q) E w0 H := h
theorem HX.p_block {id : Nat} {ch : List PanicEntry} (h : HX N ds (.panic ch) Q E w0 H) : HX N ds (.panic ch) (Exit.inBlock id Q) E w0 H := h
theorem enterE {f : FuncId} {fn : Func} {c : Code} {l : List Value} {R : Ending → World → Prop} {w : World} [hf : FnIs P f fn] (hM : Mm w0 H w) (hb : fn.body = some c) (hN : fn.ntmps = N) (hl : Nat.ble l.length N = true)
    (h : HC P none N [] c (bodyPost P fn R) (Env.of 0 l) w0 H) : Calls P f l.toArray w R := by
  refine (callsIn_wide (n := 0)).1 (callsIn_of_wp hf.is hb trivial ?_ rfl)
  have hl' : l.length ≤ N := by simpa using hl
  refine h w hM _ ⟨by simp [hN]; omega, rfl, fun t v ht => ?_⟩
  obtain ⟨-, h2⟩ := Env.of_g l 0 t v ht
  have hlt : t < l.length := by
    rcases Nat.lt_or_ge t l.length with h | h
    · exact h
    · simp [List.getElem?_eq_none h] at h2
  rw [Array.getElem?_append_left (by simpa using hlt)]
  simpa using h2
theorem HX.end0E {fn : Func} {R : Ending → World → Prop} (hr : fn.results = #[]) (h : ∀ w, Mm w0 H w → R (.returned (.tuple #[])) w) : HX N [] .normal (bodyPost P fn R) E w0 H := fun w hM _ ha => ⟨ha.defers, _, results_none hr _ _ _, h w hM⟩
theorem HX.panE {fn : Func} {R : Ending → World → Prop} {ch : List PanicEntry} (h : ∀ w, Mm w0 H w → R (.panicked ch) w) : HX N [] (.panic ch) (bodyPost P fn R) E w0 H := fun w hM _ ha => ⟨ha.defers, h w hM⟩
theorem H1.panic {t : TypeId} {v : Value} (hx : Env.ev E x = some (.iface t v)) (h : HX N ds (.panic [{ v := .iface t v, recovered := false }]) Q E w0 H) : H1 P r N ds next ⟨d, .panic x, ty, pos, af, g⟩ Q E w0 H := fun w hM a ha => by
  refine ⟨fun _ _ => trivial, ?_⟩
  have hrun : (execOp a.eval ⟨d, .panic x, ty, pos, af, g⟩).run P w = .halt (.panic (.iface t v)) w := by
    simp only [execOp, ha.ev hx]; rfl
  rw [semAt_of rfl, hrun]
  exact h w hM a ha
/-- A closure is deferred. -/
theorem HL.defer {f : FuncId} {cap : List Value} (hx : Env.ev E x = some (.func (.func f) #[] cap.toArray)) (h : HL P none N ({ target := .fn (.func f) cap.toArray, args := #[] } :: ds) ol rest Q E w0 H) :
    HL P none N ds ol (⟨none, .defer ⟨.value x, #[], #[]⟩, ty, pos, af, none⟩ :: rest) Q E w0 H := fun w hM a ha => by
  refine wpListIn_plain rfl (fun K hK => ?_)
  refine ⟨fun _ _ => trivial, ?_⟩
  have hrun : (execOp a.eval ⟨none, .defer ⟨.value x, #[], #[]⟩, ty, pos, af, none⟩).run P w = .ok (.defer { target := .fn (.func f) cap.toArray, args := #[] }) w := by
    simp [execOp, resolve, ha.ev hx, Deferred.ofValue]
  show Oper.uponIn _ _ _ _ _ _ _ ((Oper.semAt none a.eval _).run P w)
  rw [Oper.semAt_none, hrun]
  refine hK _ _ (h w hM _ ⟨ha.size, ?_, ha.get⟩)
  show _ :: a.defers = _
  rw [ha.defers]
/-- A function that defers one closure; what it hands back lies in two variables. -/
theorem enterD {f : FuncId} {fn : Func} {c : Code} {l : List Value} {R : Ending → World → Prop} {w : World} [hf : FnIs P f fn] (hM : Mm w0 H w) (hb : fn.body = some c) (hN : fn.ntmps = N) (hl : Nat.ble l.length N = true)
    (h : HC P none N [] c (bodyPostDIn Fence.wide 0 P fn R) (Env.of 0 l) w0 H) : Calls P f l.toArray w R := by
  refine (callsIn_wide (n := 0)).1 (callsIn_of_wp_defers hf.is hb trivial ?_ rfl)
  have hl' : l.length ≤ N := by simpa using hl
  refine h w hM _ ⟨by simp [hN]; omega, rfl, fun t v ht => ?_⟩
  obtain ⟨-, h2⟩ := Env.of_g l 0 t v ht
  have hlt : t < l.length := by
    rcases Nat.lt_or_ge t l.length with h | h
    · exact h
    · simp [List.getElem?_eq_none h] at h2
  rw [Array.getElem?_append_left (by simpa using hlt)]
  simpa using h2
/-- A call that is made at the door: what becomes of the frame below and of the world. -/
def DFn (P : Program) (f : FuncId) (args : Array Value) (u u' : FrameMode) (w : World) (R : World → Prop) : Prop :=
  CallsDIn Fence.wide 0 P f args u w fun e v w' => e = .returned (.tuple #[]) ∧ v = u' ∧ R w'
theorem leaves_one {fn : Func} {f : FuncId} {cap : List Value} {u u' : FrameMode} {w : World} {tmps : Array Value} {R : Ending → World → Prop} {R' : World → Prop} [hf : CallOk P f] (hu : u ≠ .run) (hs : settle u' = .returning) (hD : DFn P f cap.toArray u u' w R')
    (h : ∀ w', R' w' → ∃ v, (results fn tmps).run P w' = .ok v w' ∧ R (.returned v) w') : LeavesIn Fence.wide 0 P fn tmps R [{ target := .fn (.func f) cap.toArray, args := #[] }] u w := by
  refine leavesIn_cons (f := f) (args := cap.toArray) hu (by simp [Fence.wide]) (by
    have : (#[] : Array Value) ++ cap.toArray = cap.toArray := by simp
    simp [invoke, hf.run]) (fun _ _ => trivial) (hD.mono ?_)
  rintro e v w' ⟨rfl, rfl, hR⟩
  dsimp only
  rw [hs]
  exact h w' hR
theorem HX.door {fn : Func} {f : FuncId} {cap : List Value} {u' : FrameMode} {R : Ending → World → Prop} {R' : World → World → Prop} [hf : CallOk P f] (hs : settle u' = .returning) (hD : ∀ w, Mm w0 H w → DFn P f cap.toArray .returning u' w (R' w))
    (h : ∀ w w', Mm w0 H w → R' w w' → ∀ a, Rep N [{ target := .fn (.func f) cap.toArray, args := #[] }] E a → ∃ v, (results fn a.tmps).run P w' = .ok v w' ∧ R (.returned v) w') :
    HX N [{ target := .fn (.func f) cap.toArray, args := #[] }] .ret (bodyPostDIn Fence.wide 0 P fn R) E w0 H := fun w hM a ha => by
  simp only [bodyPostDIn, ha.defers]
  exact leaves_one (by intro e; cases e) hs (hD w hM) fun w' hR => h w w' hM hR a ha
theorem HX.doorP {fn : Func} {f : FuncId} {cap : List Value} {ch : List PanicEntry} {u' : FrameMode} {R : Ending → World → Prop} {R' : World → World → Prop} [hf : CallOk P f] (hs : settle u' = .returning) (hD : ∀ w, Mm w0 H w → DFn P f cap.toArray (.panicking ch) u' w (R' w))
    (h : ∀ w w', Mm w0 H w → R' w w' → ∀ a, Rep N [{ target := .fn (.func f) cap.toArray, args := #[] }] E a → ∃ v, (results fn a.tmps).run P w' = .ok v w' ∧ R (.returned v) w') :
    HX N [{ target := .fn (.func f) cap.toArray, args := #[] }] (.panic ch) (bodyPostDIn Fence.wide 0 P fn R) E w0 H := fun w hM a ha => by
  simp only [bodyPostDIn, ha.defers]
  exact leaves_one (by intro e; cases e) hs (hD w hM) fun w' hR => h w w' hM hR a ha
end
theorem wpS_of_HC {P : Program} {N : Nat} {c : Code} {Q : Exit → Act → List Frame → World → Prop} {a : Act} {cs : List Frame} {w w0 : World} {H : List Atom} {E : Env} (hM : Mm w0 H w) (hr : Rep N [] E a) (h : HC P none N [] c (fun e a' w' => Q e a' cs w') E w0 H) :
    c.wpSIn Fence.wide 0 P Q a cs w := wpSIn_of_wpIn rfl (h w hM a hr)
theorem HX.endS {P : Program} {N : Nat} {E : Env} {w0 : World} {H : List Atom} {fn : Func} {c₀ : Frame} {cs : List Frame} {u : FrameMode} {R : Ending → FrameMode → World → Prop} (hr : fn.results = #[]) (h : ∀ w, Mm w0 H w → R (.returned (.tuple #[])) u w) :
    HX N [] .normal (fun e a' w' => bodyPostS P fn c₀ cs R e a' ({ c₀ with mode := u } :: cs) w') E w0 H := fun w hM _ ha => ⟨ha.defers, u, rfl, _, results_none hr _ _ _, h w hM⟩
theorem frame_same {c : Frame} {u : FrameMode} (h : c.mode = u) : c = { c with mode := u } := by
  cases c; simp only at h; subst h; rfl
end Go.Sx
/- Plain, chapter 20: records, which of them are valid, how they are encoded. -/
namespace Go.Sx
open Go
/-- A number, seven bits at a time. -/
def vint (z : Nat) : List UInt8 := if h : z < 128 then [UInt8.ofNat z] else UInt8.ofNat (z % 128 + 128) :: vint (z / 128)
termination_by z
decreasing_by omega
theorem vint_lt {z : Nat} (h : z < 128) : vint z = [UInt8.ofNat z] := by rw [vint, dif_pos h]
theorem vint_ge {z : Nat} (h : ¬ z < 128) : vint z = UInt8.ofNat (z % 128 + 128) :: vint (z / 128) := by rw [vint, dif_neg h]
theorem u8_inj {a b : Nat} (ha : a < 256) (hb : b < 256) (h : UInt8.ofNat a = UInt8.ofNat b) : a = b := by
  have := congrArg UInt8.toNat h
  simp only [UInt8.toNat_ofNat'] at this
  omega
theorem vint_inj : ∀ (n a b : Nat), a ≤ n → ∀ {x y : List UInt8}, vint a ++ x = vint b ++ y → a = b ∧ x = y
  | n, a, b, hn, x, y, h => by
    by_cases ha : a < 128
    · rw [vint_lt ha] at h
      by_cases hb : b < 128
      · rw [vint_lt hb] at h
        simp only [List.cons_append, List.nil_append, List.cons.injEq] at h
        exact ⟨u8_inj (by omega) (by omega) h.1, h.2⟩
      · rw [vint_ge hb] at h
        simp only [List.cons_append, List.nil_append, List.cons.injEq] at h
        have := u8_inj (by omega) (by omega) h.1
        omega
    · rw [vint_ge ha] at h
      by_cases hb : b < 128
      · rw [vint_lt hb] at h
        simp only [List.cons_append, List.nil_append, List.cons.injEq] at h
        have := u8_inj (by omega) (by omega) h.1
        omega
      · rw [vint_ge hb] at h
        simp only [List.cons_append, List.cons.injEq] at h
        have h1 := u8_inj (by omega) (by omega) h.1
        match n, hn with
        | 0, hn => omega
        | n + 1, hn =>
          have h2 := vint_inj n (a / 128) (b / 128) (by omega) h.2
          exact ⟨by omega, h2.2⟩
/-- A number that is not negative, as it is encoded. -/
def putN (n : Nat) : List UInt8 := vint (2 * n)
theorem putN_inj {a b : Nat} {x y : List UInt8} (h : putN a ++ x = putN b ++ y) : a = b ∧ x = y := by
  have := vint_inj (2 * a) _ _ (Nat.le_refl _) h
  exact ⟨by omega, this.2⟩
structure Rc where
  kind : Int
  id : Int
  version : Int
  day : Int
  gone : Bool
  start : Int
  stop : Int
  pack : Int
  person : Int
  role : Int
  purpose : Int
  clause : Int
  adm : Bool
  party : Int
  text : ByteArray
def b01 (b : Bool) : Int := if b = true then 1 else 0
def Rc.get (r : Rc) : Nat → Int
  | 0 => r.id
  | 1 => r.start
  | 2 => r.stop
  | 3 => r.pack
  | 4 => r.person
  | 5 => r.role
  | 6 => r.purpose
  | 7 => r.clause
  | 8 => b01 r.adm
  | 9 => r.party
  | _ => 0
/-- The fields of a kind, with their limits, in their order. -/
def specF (k : Int) : List (Nat × Int × Int) :=
  if k = 1 then [(0, 1, 1000000), (1, 0, 100000), (2, 0, 100000), (4, 1, 1000000), (5, 1, 1000000)]
  else if k = 2 then [(7, 1, 1000000), (1, 0, 100000), (2, 0, 100000), (3, 0, 1000000), (5, 0, 1000000), (6, 0, 1000000), (8, 0, 1), (9, 0, 1000000)]
  else if k = 3 then [(0, 1, 1000000), (1, 0, 100000), (2, 0, 100000), (3, 1, 1000000), (6, 0, 1000000), (9, 1, 1000000)]
  else if k = 4 then [(0, 1, 1000000), (1, 0, 100000), (2, 0, 100000), (3, 1, 1000000)]
  else if k = 5 then [(0, 1, 1000000), (1, 0, 100000), (2, 0, 100000), (3, 0, 1000000)]
  else if k = 6 then [(9, 1, 1000000), (1, 0, 100000)]
  else if k = 7 then [(0, 1, 1000000), (1, 0, 100000), (2, 0, 100000), (3, 1, 1000000), (6, 0, 1000000), (7, 0, 63)]
  else if k = 8 then [(0, 1, 1000000), (1, 0, 100000), (3, 1, 1000000), (7, 1, 1000000)]
  else []
/-- Which field is the key. -/
def keyF (k : Int) : Nat := if k = 2 then 7 else if k = 6 then 9 else 0
def restP (r : Rc) : Prop := (r.kind ≠ 6 → r.kind ≠ 8 → r.start ≤ r.stop) ∧ (r.kind = 2 → r.clause ≠ r.party)
structure ValidR (r : Rc) : Prop where
  kind : 1 ≤ r.kind ∧ r.kind ≤ 8
  ver : 1 ≤ r.version ∧ r.version ≤ 1000000
  day : 0 ≤ r.day ∧ r.day ≤ 100000
  text : r.text.size ≤ 200
  rest : restP r
  lim : ∀ p ∈ specF r.kind, p.2.1 ≤ r.get p.1 ∧ r.get p.1 ≤ p.2.2
  zero : ∀ i, i < 10 → i ∉ (specF r.kind).map Prod.fst → r.get i = 0
def encF (r : Rc) (l : List (Nat × Int × Int)) : List UInt8 := (l.map fun p => putN (r.get p.1).toNat).flatten
/-- The encoding of a valid record. -/
def encR (r : Rc) : List UInt8 := putN r.kind.toNat ++ (putN r.version.toNat ++ (putN r.day.toNat ++ (putN (b01 r.gone).toNat ++ (encF r (specF r.kind) ++ (putN r.text.size ++ r.text.data.toList)))))
def keyR (r : Rc) : List UInt8 := putN r.kind.toNat ++ putN (r.get (keyF r.kind)).toNat
end Go.Sx
/- Chapter 1: the encoding of a number, by groups of seven bits. -/
namespace Go.Sx
open Go Go.Proofs Go.RowKit
theorem hwXH {G G2 : Prop} (x : G2) (hwq : Hold G2 → G := by
    intro hQq
    repeat' (first | apply HL.fold | apply HA.fold | apply HL.nil | apply HX.n_then | apply HC.seq | apply HC.region | refine HL.pa ?_ | refine HL.ga rfl ?_ | refine HL.na rfl ?_ | refine HL.nu rfl rfl ?_ | apply HC.block | apply HC.skip | apply HC.exit | apply HC.ret | apply HX.e_block | refine HX.e_other rfl ?_ | apply HX.e_then | apply HX.e_again | apply HX.n_block | apply HX.r_then | apply HX.r_block | apply HX.r_again | refine HC.cond_yes rfl ?_ | refine HC.cond_no rfl ?_ | refine HL.one (H1.ldb rfl memA rfl rfl ?_) | refine HC.cond rfl (fun hc => ?_) (fun hc => ?_) | refine HC.cond_b rfl (fun hc => ?_) (fun hc => ?_))
    exact hQq.get) : G := hwq ⟨x⟩
theorem bits_or_u8 (a b : Nat) (ha : a < 256) (hb : b < 256) : bits .or .u8 (a : Int) (b : Int) = ((a ||| b : Nat) : Int) := by
  show IntKind.u8.wrap (((BitVec.ofInt 8 a ||| BitVec.ofInt 8 b).toNat : Nat) : Int) = _
  have h1 : (BitVec.ofInt 8 (a : Int)).toNat = a := by simp; omega
  have h2 : (BitVec.ofInt 8 (b : Int)).toNat = b := by simp; omega
  have h3 : a ||| b < 256 := Nat.or_lt_two_pow (n := 8) ha hb
  rw [BitVec.toNat_or, h1, h2]
  exact wrap_u8 (by omega) (by omega)
theorem POp.or8 {P : Program} {N : Nat} {ds : List Deferred} {E : Env} {t t' ty : TypeId} {x y : Operand} {m n : Int} {a b : Nat} (hx : Env.ev E x = some (.int .u8 m)) (hy : Env.ev E y = some (.int .u8 n)) (em : m = (a : Int)) (en : n = (b : Int)) (h1 : a < 256) (h2 : b < 256) :
    POp P N ds E (.binOp .or t x y t') ty (.int .u8 ((a ||| b : Nat) : Int)) := POp.bin hx hy guard_int fun w => by
  subst em; subst en
  rw [binOp_or, intBits_or, bits_or_u8 a b h1 h2]; rfl
theorem or_128 {a : Nat} (h : a < 128) : a ||| 128 = a + 128 := by
  have e := Nat.two_pow_add_eq_or_of_lt (i := 7) (b := a) (by omega) 1
  rw [show 2 ^ 7 * 1 = 128 from rfl] at e
  rw [Nat.or_comm, ← e]; omega
theorem vint_len : ∀ (n z : Nat), z < 128 ^ (n + 1) → (vint z).length ≤ n + 1
  | 0, z, h => by rw [vint_lt (by omega)]; simp
  | n + 1, z, h => by
    by_cases hz : z < 128
    · rw [vint_lt hz]; simp
    · rw [vint_ge hz, List.length_cons]
      have := vint_len n (z / 128) (by rw [Nat.pow_succ] at h; omega)
      omega
theorem vint_pos (z : Nat) : 0 < (vint z).length := by
  by_cases h : z < 128
  · rw [vint_lt h]; simp
  · rw [vint_ge h]; simp
def ub (l : List UInt8) : List Value := l.map fun b => .int .u8 ((b.toNat : Nat) : Int)
def bytG (b4 : Nat) (ys : List UInt8) (a : Option Addr) (c : Nat) : List Atom := [A.blk b4 [.slice a ys.length c] 55, A.grow 5 1 a c ys.length (ub ys)]
theorem H1.bstrg {P : Program} {r : Option Nat} {N : Nat} {ds : List Deferred} {Q : Post} {E : Env} {w0 : World} {H : List Atom} {next : Act → World → Prop} {g : Option (Nat × Bool)} {d : Nat} {t ty : TypeId} {pos : String} {af : Array Edge} {x : Operand}
    {dst e : TypeId} {b c : Nat} {ys : List UInt8} [h : UTy P t (.slice e)] [he : UTy P e (.int .u8)] [hs : UTy P dst .string] (hx : Env.ev E x = some (.slice (some ⟨b, 0, none⟩) ys.length c)) (hm : A.grow e 1 (some ⟨b, 0, none⟩) c ys.length (ub ys) ∈ H)
    (hd : Nat.blt d N = true) (hn : HN N ds next ((d, .string ⟨ys.toArray⟩) :: E) w0 H) : H1 P r N ds next ⟨some d, .convert t dst x, ty, pos, af, g⟩ Q E w0 H := fun w hM =>
  W1.bytes_string hx rfl (fun j hj => by
    rw [add_lit, Nat.zero_add]
    exact ownsRow_cell (hM.own hm) (by simp [ub, hj])) hd (hn w hM)
attribute [local irreducible] WC WL WX POp Then Again Fn NX W1 WA WO QL RP RA Yld LoopAt HC HL HX HN H1 HA HO HQ HB HP A.blk A.grow A.rd A.obj A.mp AgainH CutH
set_option maxHeartbeats 2000000 in
theorem groups1_fn {w0 : World} {K0 K1 : Atom} {bz b4 l : Nat} (z0 : Nat) (hz0 : z0 < 9223372036854775808)
    (hy : ∀ (z : Nat) (ys : List UInt8) (a : Option Addr) (c : Nat), z < 9223372036854775808 → ys.length ≤ 9 → ∀ w, Mm w0 (K0 :: K1 :: A.blk bz [.int .u64 (z : Int)] 222 :: bytG b4 ys a c) w →
      Yld Tryz.prog l [.int .u8 ((z % 128 : Nat) : Int), .bool (decide (z < 128))] w fun b w' => b = true ∧ ∃ q : Option Addr × Nat, True ∧
        Mm w0 (K0 :: K1 :: A.blk bz [.int .u64 (z : Int)] 222 :: bytG b4 (ys ++ [UInt8.ofNat (if z < 128 then z else z % 128 + 128)]) q.1 q.2) w') :
    ∀ w, Mm w0 (K0 :: K1 :: A.blk bz [.int .u64 (z0 : Int)] 222 :: bytG b4 [] none 0) w →
      Fn Tryz.prog 180 (.func (.yield l) #[] #[] :: [.pointer (some ⟨bz, 0, none⟩)]).toArray w fun _ w' => ∃ q : Nat × Option Addr × Nat, True ∧ Mm w0 (K0 :: K1 :: A.blk bz [.int .u64 (q.1 : Int)] 222 :: bytG b4 (vint z0) q.2.1 q.2.2) w' := by
  intro w hM
  refine enterK (l := [_, _]) hM rfl Tryz.ntmps180 rfl ?_
  refine hwXH ?_
  refine HC.loop (α := Nat × List UInt8 × Option Addr × Nat) (fun z => [(0, .func (.yield l) #[] #[]), (1, .pointer (some ⟨bz, 0, none⟩))]) (fun z => K0 :: K1 :: A.blk bz [.int .u64 (z.1 : Int)] 222 :: bytG b4 z.2.1 z.2.2.1 z.2.2.2)
    (fun z => z.1 < 9223372036854775808 ∧ z.2.1 ++ vint z.1 = vint z0) (fun z => z.1) (z0, [], none, 0) ⟨hz0, rfl⟩ esA (Hs.refl _) ?_
  rintro ⟨z, ys, a, c⟩ ⟨hz, hv⟩
  dsimp only at hz hv ⊢
  have hlen : ys.length ≤ 9 := by
    have h1 := vint_len 8 z0 (by omega)
    rw [← hv, List.length_append] at h1
    omega
  have hand : z &&& 127 = z % 128 := Nat.and_two_pow_sub_one_eq_mod z 7
  have hsh : z >>> 7 = z / 128 := Nat.shiftRight_eq_div_pow z 7
  have hy' := hy z ys a c hz hlen
  by_cases hlt : z < 128
  · rw [if_pos hlt, decide_eq_true hlt] at hy'
    have hlt' : (z : Int) < 128 := by omega
    have hvz := vint_lt hlt
    refine hwXH ?_
    refine HL.pa ?_ (POp.and64 rfl rfl rfl rfl (by omega) (by decide))
    rw [hand]
    refine hwXH ?_
    rw [decide_eq_true hlt']
    refine HL.one (H1.yield rfl rfl rfl hy' ?_)
    rintro ⟨a', c'⟩ -
    dsimp only
    refine hwXH ?_
    refine HX.ret0 rfl fun w' hM => ⟨(z, a', c'), trivial, ?_⟩
    rw [← hv, hvz]; exact hM
  · rw [if_neg hlt, decide_eq_false hlt] at hy'
    have hlt' : ¬ (z : Int) < 128 := by omega
    have hvz := vint_ge hlt
    refine hwXH ?_
    refine HL.pa ?_ (POp.and64 rfl rfl rfl rfl (by omega) (by decide))
    rw [hand]
    refine hwXH ?_
    rw [decide_eq_false hlt']
    refine HL.one (H1.yield rfl rfl rfl hy' ?_)
    rintro ⟨a', c'⟩ -
    dsimp only
    refine hwXH ?_
    refine HL.pa ?_ (POp.shr64 rfl rfl rfl rfl (by decide))
    rw [hsh]
    refine hwXH ?_
    refine HL.one (H1.st (b := bz) rfl rfl (by intro _ h; cases h) (by intro _ h; cases h) rplA (by exact Nat.zero_lt_one) ?_)
    refine hwXH ?_
    exact HX.again (z / 128, ys ++ [UInt8.ofNat (z % 128 + 128)], a', c') ⟨by show z / 128 < _; omega, by show (ys ++ _) ++ vint (z / 128) = _; rw [← hv, hvz, List.append_assoc]; rfl⟩ (by show z / 128 < z; omega) esA (Hs.refl _)
theorem POp.xor64 {P : Program} {N : Nat} {ds : List Deferred} {E : Env} {t t' ty : TypeId} {x y : Operand} {m n : Int} {a b : Nat} (hx : Env.ev E x = some (.int .u64 m)) (hy : Env.ev E y = some (.int .u64 n)) (em : m = (a : Int)) (en : n = (b : Int)) (h1 : a < 18446744073709551616) (h2 : b < 18446744073709551616) :
    POp P N ds E (.binOp .xor t x y t') ty (.int .u64 ((a ^^^ b : Nat) : Int)) := POp.bin hx hy guard_int fun w => by
  subst em; subst en
  have e : bits .xor .u64 (a : Int) (b : Int) = ((a ^^^ b : Nat) : Int) := by
    show IntKind.u64.wrap (((BitVec.ofInt 64 a ^^^ BitVec.ofInt 64 b).toNat : Nat) : Int) = _
    rw [BitVec.toNat_xor, ofInt_toNat a h1, ofInt_toNat b h2]
    exact wrap_u64 (Nat.xor_lt_two_pow (n := 64) h1 h2)
  rw [binOp_xor, intBits_xor, e]; rfl
theorem groups_fn (z : Nat) (w : World) : Fn Tryz.prog 146 #[.int .u64 (z : Int)] w fun v w' => ∃ b : Nat, True ∧ v = .func (.func 180) #[] #[.pointer (some ⟨b, 0, none⟩)] ∧ Mm w [A.blk b [.int .u64 (z : Int)] 222] w' := by
  refine enterH (l := [_]) rfl Tryz.ntmps146 rfl ?_
  refine hwXH ?_
  refine HL.one (H1.box rfl rfl rfl (fun b1 => ?_))
  refine hwXH ?_
  exact HX.ret1 rfl rfl fun w' hM => ⟨b1, trivial, rfl, hM⟩
theorem ub_snoc (ys : List UInt8) {g : Nat} (h : g < 256) : ub ys ++ [.int .u8 (g : Int)] = ub (ys ++ [UInt8.ofNat g]) := by
  unfold ub
  rw [List.map_append]
  simp only [List.map_cons, List.map_nil, UInt8.toNat_ofNat']
  rw [Nat.mod_eq_of_lt (by omega)]
/-- A number, as it is encoded. -/
def strN (n : Nat) : ByteArray := ⟨(putN n).toArray⟩
set_option maxHeartbeats 2000000 in
theorem putInt_fn (n : Nat) (hn : n ≤ 1099511627776) (w : World) : Fn Tryz.prog 88 #[zv (n : Int)] w fun v w' => v = .tuple #[.string (strN n), .int .i64 0] ∧ Ext w w' := by
  refine enterMH (l := [_]) rfl Tryz.ntmps88 rfl ?_
  have hsl : n <<< 1 = 2 * n := by rw [Nat.shiftLeft_eq]; omega
  have hsr : n >>> 63 = 0 := by rw [Nat.shiftRight_eq_div_pow]; exact Nat.div_eq_of_lt (by omega)
  refine hwXH ?_
  refine HL.one (H1.alloc (cs := [.slice none 0 0]) rfl rfl (fun b4 => ?_))
  refine hwXH ?_
  refine HL.pa ?_ ((POp.conv (k' := .u64) rfl).of (v' := .int .u64 (n : Int)) (by rw [wrap_u64 (by omega)]))
  refine hwXH ?_
  refine HL.pa ?_ (POp.shl64 rfl rfl rfl rfl (by decide) (by rw [hsl]; omega))
  rw [hsl]
  refine hwXH ?_
  rw [hsr]
  refine HL.pa ?_ ((POp.conv (k' := .u64) rfl).of (v' := .int .u64 ((0 : Nat) : Int)) (by rfl))
  refine hwXH ?_
  refine HL.pa ?_ (POp.xor64 (a := 2 * n) (b := 0) rfl rfl rfl rfl (by omega) (by decide))
  rw [Nat.xor_zero]
  refine hwXH ?_
  refine HL.one (H1.callz1 (vs := [.int .u64 ((2 * n : Nat) : Int)]) rfl rfl (fun w' _ => groups_fn (2 * n) w') ?_)
  rintro bz -
  refine hwXH ?_
  refine HC.grow0 5 1 ?_
  refine HC.sub [(4, .pointer (some ⟨b4, 0, none⟩)), (20, .func (.func 180) #[] #[.pointer (some ⟨bz, 0, none⟩)])] (A.blk bz [.int .u64 ((2 * n : Nat) : Int)] 222 :: bytG b4 [] none 0) ?_ esA (by unfold bytG; repeat (first | exact Hs.nil _ | (refine Hs.cons pickA ?_)))
  refine HC.rangeFunc (α := Nat × Option Addr × Nat) (lb := [.pointer (some ⟨bz, 0, none⟩)]) (fun q => A.blk bz [.int .u64 (q.1 : Int)] 222 :: bytG b4 (vint (2 * n)) q.2.1 q.2.2) (fun _ => True) rfl ?_ ?_
  · intro D l L hL w1 hM1
    refine groups1_fn (2 * n) (by omega) ?_ w1 hM1
    intro z ys a c hz hlen
    refine Yld.ofH hL memA rfl rfl ?_
    dsimp only [List.zip_cons_cons, List.zip_nil_right, putAll]
    refine hwXH ?_
    refine HX.ra hL rplA ?_
    unfold bytG
    by_cases hlt : z < 128
    · rw [decide_eq_true hlt, if_pos hlt]
      have hz2 : z % 128 = z := Nat.mod_eq_of_lt hlt
      rw [hz2]
      have hub := ub_snoc ys (g := z) (by omega)
      refine hwXH ?_
      refine HL.one (H1.lit (cs := [.int .u8 (z : Int)]) rfl rfl rfl rfl rfl rfl (fun b9 => ?_))
      refine hwXH ?_
      refine HL.one (H1.app1 (u := .int .u8 (z : Int)) rfl rfl (fun _ _ => by first | ((repeat (first | with_reducible exact Rpl.here | with_reducible apply Rpl.there)); done) | (repeat (first | exact Rpl.here | apply Rpl.there))) memA rfl rfl (by omega) rfl rfl (fun a' c' => ?_))
      rw [hub]
      refine hwXH ?_
      refine HL.one (H1.st (b := b4) rfl rfl (by intro _ h; cases h) (by intro _ h; cases h) rplA (by exact Nat.zero_lt_one) ?_)
      refine hwXH ?_
      refine HX.rp_n hL rplA fun w' hM => ⟨rfl, (some ⟨a', 0, none⟩, c'), trivial, ?_⟩
      dsimp only
      rw [List.length_append]
      exact hM.tail
    · rw [decide_eq_false hlt, if_neg hlt]
      have hub := ub_snoc ys (g := z % 128 + 128) (by omega)
      refine hwXH ?_
      refine HL.pa ?_ (POp.or8 (a := z % 128) (b := 128) rfl rfl rfl rfl (by omega) (by decide))
      rw [or_128 (by omega)]
      refine hwXH ?_
      refine HL.one (H1.lit (cs := [.int .u8 ((z % 128 + 128 : Nat) : Int)]) rfl rfl rfl rfl rfl rfl (fun b9 => ?_))
      refine hwXH ?_
      refine HL.one (H1.app1 (u := .int .u8 ((z % 128 + 128 : Nat) : Int)) rfl rfl (fun _ _ => by first | ((repeat (first | with_reducible exact Rpl.here | with_reducible apply Rpl.there)); done) | (repeat (first | exact Rpl.here | apply Rpl.there))) memA rfl rfl (by omega) rfl rfl (fun a' c' => ?_))
      rw [hub]
      refine hwXH ?_
      refine HL.one (H1.st (b := b4) rfl rfl (by intro _ h; cases h) (by intro _ h; cases h) rplA (by exact Nat.zero_lt_one) ?_)
      refine hwXH ?_
      refine HX.rp_n hL rplA fun w' hM => ⟨rfl, (some ⟨a', 0, none⟩, c'), trivial, ?_⟩
      dsimp only
      rw [List.length_append]
      exact hM.tail
  · rintro D ⟨zf, a, c⟩ -
    dsimp only
    unfold bytG
    refine hwXH ?_
    refine HL.openg (e := 5) (a := a) (xs := ub (vint (2 * n))) memA (by have := vint_pos (2 * n); omega) ?_
    rintro b rfl
    refine HL.one (H1.bstrg (ys := vint (2 * n)) rfl memA rfl ?_)
    refine hwXH ?_
    exact HX.retM2 rfl rfl rfl (by repeat (first | exact Pick.here | apply Pick.there)) fun w' hM => ⟨rfl, hM.ext⟩
end Go.Sx
/- The seat's own facts that many texts need. -/
namespace Go.Sx
open Go Go.Proofs
instance mixedI : Mixed Tryz.prog := ⟨by kernel_rfl⟩
end Go.Sx
/- Chapter 26: what panics, and what recovers. -/
namespace Go.Sx
open Go Go.Proofs Go.RowKit Go.Extern.Stop Go.Stop Go.Extern
theorem hwJA {G G2 : Prop} (x : G2) (hwq : Hold G2 → G := by
    intro hQq
    repeat' (first | apply HL.fold | apply HA.fold | apply HL.nil | apply HX.n_then | apply HC.seq | apply HC.region | refine HL.pa ?_ | refine HL.ga rfl ?_ | refine HL.na rfl ?_ | refine HL.nu rfl rfl ?_ | apply HC.block | apply HC.skip | apply HC.exit | apply HC.ret | apply HX.e_block | refine HX.e_other rfl ?_ | apply HX.e_then | apply HX.e_again | apply HX.n_block | apply HX.r_then | apply HX.r_block | apply HX.r_again | refine HC.cond_yes rfl ?_ | refine HC.cond_no rfl ?_ | refine HL.one (H1.ldb rfl memA rfl rfl ?_) | refine HC.cond rfl (fun hc => ?_) (fun hc => ?_) | refine HC.cond_b rfl (fun hc => ?_) (fun hc => ?_))
    exact hQq.get) : G := hwq ⟨x⟩
def rtV : Value := .agg #[.pointer (some ⟨7, 303, none⟩)]
theorem isTypeOf_e (v : Value) (w : World) : (callFunc 109 #[.iface 303 v]).run Tryz.prog w = .ok (.value (.iface 235 rtV)) w := by kernel_rfl
theorem isComparable_e (w : World) : (callFunc 246 #[rtV]).run Tryz.prog w = .ok (.value (.bool true)) w := by kernel_rfl
theorem isComp_e : (Tryz.prog.info? 303).map (·.comparable) = some true := by kernel_rfl
theorem isSize_e : (Tryz.prog.info? 325).map (·.size) = some 1 := by kernel_rfl
theorem isAssert_e (v : Value) (w : World) : (Instr.typeAssert (.iface 303 v) 20 111 true).run Tryz.prog w = .ok (.tuple #[.iface 303 v, .bool true]) w := run_typeAssert_hasB Tryz.underlying111 (by kernel_rfl) v 20 w
theorem isMeth_e (n : Nat) (v : Value) (w : World) : (Go.method (n + 1) 235 v "Comparable").run Tryz.prog w = .ok (246, v) w := by kernel_rfl
set_option maxRecDepth 100000 in
set_option maxHeartbeats 2000000 in
theorem is_same_c (a : Addr) (w : World) :
    Calls Tryz.prog 61 #[.iface 303 (.pointer (some a)), .iface 303 (.pointer (some a))] w fun e w' => e = .returned (.bool true) ∧ w' = w := by
  obtain ⟨i, hi, hcmp⟩ := Option.map_eq_some_iff.1 isComp_e
  obtain ⟨j, hj, hjs⟩ := Option.map_eq_some_iff.1 isSize_e
  have tT := isTypeOf_e
  have cT := isComparable_e
  have mR := isMeth_e
  have heq := run_eql_iface_ptr_same (P := Tryz.prog) w a Tryz.underlying111 Tryz.underlying303 hi hcmp hj
  go_enter Tryz.func61, Tryz.ntmps61
  go_wp2
  refine wp_loop_rounds 1 ?_
  rw [rounds_succ]
  go_wp2
  go_ret
  exact ⟨rfl, rfl⟩
/-- The error of a damaged disk. -/
def errV (a : Addr) : Value := .iface 303 (.pointer (some a))
theorem is_same_fn (a : Addr) (w : World) : Fn Tryz.prog 61 #[errV a, errV a] w fun v w' => v = .bool true ∧ w = w' := Calls.mono (is_same_c a w) fun _ _ h => ⟨_, h.1, rfl, h.2.symm⟩
def ErrG (a : Addr) (w : World) : Prop := w.cell? ⟨2, 0, none⟩ = some (errV a)
theorem ErrG.ext {a : Addr} {w w' : World} (h : ErrG a w) (k : Ext w w') : ErrG a w' := cell_ext k h
def errP (a : Addr) : List PanicEntry := [{ v := errV a, recovered := false }]
def errQ (a : Addr) : List PanicEntry := [{ v := errV a, recovered := true }]
theorem Rep.cons' {N : Nat} {ds : List Deferred} {E : Env} {a : Act} (h : Rep N ds E a) {k : Nat} {v : Value} (hk : a.tmps[k]? = some v) : Rep N ds ((k, v) :: E) a := by
  refine ⟨h.size, h.defers, fun t u ht => ?_⟩
  simp only [Env.g] at ht
  by_cases e : k = t
  · subst e
    rw [beq_same, cond_true] at ht
    rw [hk]; exact ht
  · rw [beq_ne e, cond_false] at ht
    exact h.get t u ht
attribute [local irreducible] WC WL WX POp Then Again Fn NX W1 WA WO QL RP RA Yld LoopAt HC HL HX HN H1 HA HO HQ HB HP A.blk A.grow A.rd A.obj A.mp AgainH CutH
theorem check_fn {w0 w : World} {H : List Atom} {a : Addr} (b : Bool) (hM : Mm w0 H w) (hE : ErrG a w0) :
    Calls Tryz.prog 194 #[.bool b] w (EndP (fun _ : Unit => b = true) (fun _ => .tuple #[]) (fun _ => H) (fun _ : Unit => b = false) (errP a) (fun _ => H) w0) := by
  refine enterE (l := [_]) hM rfl Tryz.ntmps194 rfl ?_
  cases b
  · refine hwJA ?_
    refine HL.one (H1.ld0 rfl hE rfl ?_)
    refine hwJA ?_
    refine HL.one (H1.panic rfl ?_)
    exact HX.panE fun w' hM => .inr ⟨(), rfl, rfl, hM⟩
  · refine hwJA ?_
    exact HX.end0E rfl fun w' hM => .inl ⟨(), rfl, rfl, hM⟩
theorem Rep.nil' {N : Nat} {a : Act} (h : a.tmps.size = N) (hd : a.defers = []) : Rep N [] [] a := ⟨h, hd, fun t v h => by simp [Env.g] at h⟩
set_option maxHeartbeats 1000000 in
theorem recover_no {w : World} (b4 b5 : Nat) : DFn Tryz.prog 158 #[.pointer (some ⟨b4, 0, none⟩), .pointer (some ⟨b5, 0, none⟩)] .returning .returning w (fun w' => Ext w w') := by
  refine callsDIn_of_wpSIn Tryz.func158 rfl trivial fun c₀ cs hu => ?_
  apply wpSIn_seq
  apply wpSIn_region
  have hrec : recoverD (c₀ :: cs) = none := by simp [recoverD, hu]
  have hta : ∀ w, (Instr.typeAssert .nilIface 20 111 true).run Tryz.prog w = .ok (.tuple #[.nilIface, .bool false]) w := fun _ => by kernel_rfl
  simp [wpOpsSIn, go_sem, hrec, hta, Tryz.ntmps158, Exit.thenS, Region.wanted]
  have hc : c₀ = { c₀ with mode := .returning } := frame_same hu
  rw [hc]
  refine wpS_of_HC (N := 15) (E := [(3, .bool false)]) (Mm.refl w) (Rep.cons' (Rep.nil' (by simp) rfl) (by rfl)) ?_
  refine hwJA ?_
  exact HX.endS rfl fun w' hM => ⟨rfl, rfl, hM.ext⟩
set_option maxHeartbeats 1000000 in
theorem recover_yes {w0 w : World} {H : List Atom} {v4 v5 : Value} {a : Addr} (b4 b5 : Nat) (hE : ErrG a w0) (hM : Mm w0 (A.blk b4 [v4] 82 :: A.blk b5 [v5] 28 :: H) w) :
    DFn Tryz.prog 158 #[.pointer (some ⟨b4, 0, none⟩), .pointer (some ⟨b5, 0, none⟩)] (.panicking (errP a)) (.panicking (errQ a)) w (fun w' => Mm w0 (A.blk b4 [.pointer none] 82 :: A.blk b5 [zv 262] 28 :: H) w') := by
  refine callsDIn_of_wpSIn Tryz.func158 rfl trivial fun c₀ cs hu => ?_
  apply wpSIn_seq
  apply wpSIn_region
  have hrec : recoverD (c₀ :: cs) = some (errV a, { c₀ with mode := .panicking (errQ a) } :: cs) := by simp [recoverD, hu, errP, errQ]
  have hta : ∀ w, (Instr.typeAssert (errV a) 20 111 true).run Tryz.prog w = .ok (.tuple #[errV a, .bool true]) w := fun w => isAssert_e _ w
  simp [wpOpsSIn, go_sem, hrec, hta, Tryz.ntmps158, Exit.thenS, Region.wanted]
  refine wpS_of_HC (N := 15) (E := [(0, .pointer (some ⟨b4, 0, none⟩)), (1, .pointer (some ⟨b5, 0, none⟩)), (2, errV a), (3, .bool true)]) hM (Rep.cons' (Rep.cons' (Rep.cons' (Rep.cons' (Rep.nil' (by simp) rfl) (by simp)) (by simp)) (by simp)) (by simp)) ?_
  refine hwJA ?_
  refine HL.one (H1.ld0 rfl hE rfl ?_)
  refine hwJA ?_
  refine HL.one (H1.call0 (u := .bool true) (vs := [errV a, errV a]) rfl rfl (fun w' hM => is_same_fn a w') ?_)
  refine hwJA ?_
  refine HL.one (H1.st rfl rfl (by intro _ h; cases h) (by intro _ h; cases h) rplA (by exact Nat.zero_lt_one) ?_)
  refine hwJA ?_
  refine HL.one (H1.st rfl rfl (by intro _ h; cases h) (by intro _ h; cases h) rplA (by exact Nat.zero_lt_one) ?_)
  refine hwJA ?_
  exact HX.endS rfl fun w' hM => ⟨rfl, rfl, hM⟩
end Go.Sx
/-
  The layer with atoms: aggregates loaded first in open orders; several results; the head of a slice; slices of structs.
-/
namespace Go.Sx
open Go Go.RowKit
/-- The cells of a block from its beginning on. -/
def cellsA (b : Nat) (vs : List Value) : List (Addr × Value) := vs.zipIdx.map fun p => (⟨b, p.2, none⟩, p.1)
theorem cellsA_mem {b : Nat} {vs : List Value} {i : Nat} {v : Value} (h : vs[i]? = some v) : ((⟨b, i, none⟩ : Addr), v) ∈ cellsA b vs := List.mem_map.2 ⟨(v, i), List.mk_mem_zipIdx_iff_getElem?.2 h, rfl⟩
theorem Keep.blkA {l : List (Addr × Value)} {w0 : World} {H : List Atom} {b : Nat} {vs : List Value} {e : TypeId} (hm : A.blk b vs e ∈ H) (h : Keep l w0 H) : Keep (cellsA b vs ++ l) w0 H := fun w hM p hp => by
  rcases List.mem_append.1 hp with hp | hp
  · obtain ⟨⟨v, i⟩, h1, rfl⟩ := List.mem_map.1 hp
    exact (hM.blk hm).cell (List.mk_mem_zipIdx_iff_getElem?.1 h1)
  · exact h w hM p hp
theorem cellsL {b : Nat} {vs : List Value} {l : List (Addr × Value)} {p : Addr × Value} (h : p ∈ cellsA b vs) : p ∈ cellsA b vs ++ l := List.mem_append_left _ h
theorem cellsR {b : Nat} {vs : List Value} {l : List (Addr × Value)} {p : Addr × Value} (h : p ∈ l) : p ∈ cellsA b vs ++ l := List.mem_append_right _ h
section
variable {P : Program} {N : Nat} {ds : List Deferred} {ol : List Oper} {Q : Post} {E : Env} {w0 : World} {H : List Atom} {fuel : Nat} {listed : Array Bool} {ty : TypeId} {pos : String} {af : Array Edge} {l : List (Addr × Value)}
theorem HB.ldA [hq : QPanic Q] {d : Nat} {t : TypeId} {x : Operand} {b : Nat} {vs : List Value} {z : Value} {n bb : Nat} [hat : ATy P t true] [hit : ITy P t z n bb] (i : Nat) (ho : ol[i]? = some ⟨some d, .load t x, ty, pos, af, none⟩) (hx : Env.ev E x = some (.pointer (some ⟨b, 0, none⟩))) (hn : vs.length = n)
    (hc : ∀ i v, vs[i]? = some v → ((⟨b, i, none⟩ : Addr), v) ∈ l)
    (h : HB l P N ds ol fuel (listed.setIfInBounds i true) Q ((d, .agg vs.toArray) :: E) w0 H)
    (hne : (match x with | .tmp t => !(Nat.beq t d) | _ => true) = true := by exact rfl)
    (hs : (Region.noSelect ol.toArray && Region.free .any ol.toArray listed i && (Region.ready .any ol.toArray listed).contains i) = true := by kernel_rfl)
    (hd : Nat.blt d N = true := by exact rfl) : HB l P N ds ol (fuel + 1) listed Q E w0 H := fun w hM a ha => by
  simp only [Bool.and_eq_true] at hs
  have ho' : ol.toArray[i]? = some ⟨some d, .load t x, ty, pos, af, none⟩ := by simpa using ho
  refine anyC_load (t := t) (x := x) rfl rfl (fun d' hd' e => ?_) ho' hs.1.1 hs.1.2 hs.2 (fun c a w => hq.is c a _ _ w) (fun a' ha' w' hC => ?_) (h w hM _ (ha.put hd (.agg vs.toArray)))
  · cases hd'; subst e; simp at hne
  · have h1 : a'.eval x = .pointer (some ⟨b, 0, none⟩) := ha'.trans (ha.ev hx)
    have h2 : ∀ i v, vs[i]? = some v → w'.cell? ⟨b, 0 + i, none⟩ = some v := fun i v hv => by rw [Nat.zero_add]; exact hC _ (hc i v hv)
    simp only [execOp, h1, Instr.loadAt, Instr.sureAddr, loadVar, Sem.run_bind, Sem.run_pure]
    simp [run_isAgg, run_sizeOf, loadCells, run_loadCellsFrom P w' b 0 vs h2 n 0 #[] (by omega), Result.andThen, Sem.run_bind]
/- several results -/
def ResAll (P : Program) (E : Env) (w : World) : List ResultVar → List Value → Prop
  | [], [] => True
  | .tmp t :: rs, v :: vs => Env.g E t = some v ∧ ResAll P E w rs vs
  | .cell p t :: rs, v :: vs => (∃ ad, Env.g E p = some (.pointer (some ad)) ∧ (loadVar t ad).run P w = .ok v w) ∧ ResAll P E w rs vs
  | _, _ => False
def resOne (tmps : Array Value) : ResultVar → Sem Value
  | .tmp t => pure (tmps.getD t undef)
  | .cell a t => do loadVar t (← asAddr (tmps.getD a undef))
end
theorem POp.pre_hn {P : Program} {N : Nat} {ds : List Deferred} {E : Env} {t ty : TypeId} {x hi : Operand} {k' : IntKind} {n : Int} {e : TypeId} {l c : Nat} {z : Value} {sz bb : Nat} [h : UTy P t (.slice e)] [hi' : ITy P e z sz bb]
    (hx : Env.ev E x = some (.slice none l c)) (hh : Env.ev E hi = some (.int k' n)) (h1 : 0 ≤ n) (h2 : n ≤ c) :
    POp P N ds E (.slice t x none (some hi) none) ty (.slice none n.toNat c) := fun a ha d pos af g w => by
  by_cases hc : c = 0
  · subst hc
    simp [execOp, ha.ev hx, ha.ev hh, Instr.sliceAt, Instr.slice, run_underlying h.is, Instr.sliceBounds, run_bound h1 (show n ≤ ((0 : Nat) : Int) from h2), Sem.run_bind, run_sizeOf]
  · simp [execOp, ha.ev hx, ha.ev hh, Instr.sliceAt, Instr.slice, run_underlying h.is, Instr.sliceBounds, run_bound h1 h2, Sem.run_bind, run_sizeOf, hc]
theorem POp.pre_hs {P : Program} {N : Nat} {ds : List Deferred} {E : Env} {t ty : TypeId} {x hi : Operand} {k' : IntKind} {n : Int} {e : TypeId} {ad : Addr} {l c : Nat} {z : Value} {sz bb : Nat} [h : UTy P t (.slice e)] [hi' : ITy P e z sz bb]
    (hx : Env.ev E x = some (.slice (some ad) l c)) (hh : Env.ev E hi = some (.int k' n)) (h1 : 0 ≤ n) (h2 : n ≤ c) :
    POp P N ds E (.slice t x none (some hi) none) ty (.slice (some ad) n.toNat c) := fun a ha d pos af g w => by
  have e0 : ad.add 0 = ad := rfl
  by_cases hc : c = 0
  · subst hc
    simp [execOp, ha.ev hx, ha.ev hh, Instr.sliceAt, Instr.slice, run_underlying h.is, Instr.sliceBounds, run_bound h1 (show n ≤ ((0 : Nat) : Int) from h2), Sem.run_bind, run_sizeOf]
  · simp [execOp, ha.ev hx, ha.ev hh, Instr.sliceAt, Instr.slice, run_underlying h.is, Instr.sliceBounds, run_bound h1 h2, Sem.run_bind, run_sizeOf, hc, e0]
end Go.Sx
/-
  The layer with atoms: in open orders, loads of cells that stay as they are may go first, under a guard too.
-/
namespace Go.Sx
open Go Go.RowKit
section
variable {P : Program} {ops : Array Oper} {Q : Post} {C : World → Prop}
end
section
variable {P : Program} {N : Nat} {ds : List Deferred} {ol : List Oper} {Q : Post} {E : Env} {w0 : World} {H : List Atom} {fuel : Nat} {listed : Array Bool} {ty : TypeId} {pos : String} {af : Array Edge} {l : List (Addr × Value)}
end
end Go.Sx
/- Chapter 2: the words of a block: the walks. -/
namespace Go.Sx
open Go Go.Proofs Go.RowKit
theorem hwDD {G G2 : Prop} (x : G2) (hwq : Hold G2 → G := by
    intro hQq
    repeat' (first | apply HL.fold | apply HA.fold | apply HL.nil | apply HX.n_then | apply HC.seq | apply HC.region | refine HL.pa ?_ | refine HL.ga rfl ?_ | refine HL.na rfl ?_ | refine HL.nu rfl rfl ?_ | apply HC.block | apply HC.skip | apply HC.exit | apply HC.ret | apply HX.e_block | refine HX.e_other rfl ?_ | apply HX.e_then | apply HX.e_again | apply HX.n_block | apply HX.r_then | apply HX.r_block | apply HX.r_again | refine HC.cond_yes rfl ?_ | refine HC.cond_no rfl ?_ | refine HL.one (H1.ldb rfl memA rfl rfl ?_) | refine HC.cond rfl (fun hc => ?_) (fun hc => ?_) | refine HC.cond_b rfl (fun hc => ?_) (fun hc => ?_))
    exact hQq.get) : G := hwq ⟨x⟩
theorem hbDD {G G2 : Prop} (x : G2) (hwq : Hold G2 → G := by
    intro hQq
    repeat' (first | apply HL.fold | apply HA.fold | apply HL.nil | apply HX.n_then | apply HC.seq | apply HC.region | refine HL.pa ?_ | refine HL.ga rfl ?_ | refine HL.na rfl ?_ | refine HL.nu rfl rfl ?_ | apply HC.skip | apply HC.exit | apply HC.ret | apply HX.e_block | refine HX.e_other rfl ?_ | apply HX.e_then | apply HX.e_again | apply HX.n_block | apply HX.r_then | apply HX.r_block | apply HX.r_again | refine HC.cond_yes rfl ?_ | refine HC.cond_no rfl ?_ | refine HL.one (H1.ldb rfl memA rfl rfl ?_) | refine HC.cond rfl (fun hc => ?_) (fun hc => ?_) | refine HC.cond_b rfl (fun hc => ?_) (fun hc => ?_))
    exact hQq.get) : G := hwq ⟨x⟩
def nats (l : List Nat) : List Value := l.map fun n : Nat => zv (n : Int)
theorem nats_get {l : List Nat} {i : Nat} (h : i < l.length) : (nats l)[i]? = some (zv ((l[i] : Nat) : Int)) := by simp [nats, h]
def ws (l : List UInt32) : List Value := l.map w32
theorem mixW_take {x : UInt32} {l : List Nat} {i : Nat} (h : i < l.length) : mixW x (l.take (i + 1)) = mixW x (l.take i) ^^^ rot x l[i] := by
  unfold mixW
  rw [List.take_succ_eq_append_getElem h, List.foldl_append]; rfl
theorem wrap_neg {n : Nat} (h0 : 0 < n) (h : n < 32) : IntKind.u64.wrap (-(n : Int)) = ((18446744073709551616 - n : Nat) : Int) := by
  simp [IntKind.wrap, IntKind.bits, IntKind.signed]; omega
attribute [local irreducible] WC WL WX POp Then Again Fn NX W1 WA WO QL RP RA Yld LoopAt HC HL HX HN H1 HA HO HQ HB HP A.blk A.grow A.rd A.obj A.mp AgainH CutH
theorem rotate_fn (x : UInt32) (n : Nat) (h0 : 0 < n) (h : n < 32) (w : World) : Fn Tryz.prog 183 #[w32 x, zv (-(n : Int))] w fun v w' => v = w32 (rot x n) ∧ w = w' := by
  have hand : (18446744073709551616 - n) &&& 31 = 32 - n := by
    rw [show 31 = 2 ^ 5 - 1 from rfl, Nat.and_two_pow_sub_one_eq_mod]; omega
  refine enter (l := [_, _]) rfl Tryz.ntmps183 rfl ?_
  repeat' (first | apply WL.fold | apply WA.fold | apply WL.nil | apply WX.n_then | apply WC.seq | apply WC.region | refine WL.pa ?_ | refine WL.ga rfl ?_ | refine WL.na rfl ?_ | refine WL.nu rfl rfl ?_ | apply WC.block | apply WC.skip | apply WC.exit | apply WC.ret | apply WX.e_block | refine WX.e_other rfl ?_ | apply WX.e_then | apply WX.e_again | apply WX.n_block | apply WX.r_then | apply WX.r_block | apply WX.r_again | refine WC.cond_yes rfl ?_ | refine WC.cond_no rfl ?_ | refine WC.cond rfl (fun hc => ?_) (fun hc => ?_) | refine WC.cond_b rfl (fun hc => ?_) (fun hc => ?_))
  refine WL.pa ?_ ((POp.conv (k' := .u64) rfl).of (v' := .int .u64 ((18446744073709551616 - n : Nat) : Int)) (by rw [wrap_neg h0 h]))
  repeat' (first | apply WL.fold | apply WA.fold | apply WL.nil | apply WX.n_then | apply WC.seq | apply WC.region | refine WL.pa ?_ | refine WL.ga rfl ?_ | refine WL.na rfl ?_ | refine WL.nu rfl rfl ?_ | apply WC.block | apply WC.skip | apply WC.exit | apply WC.ret | apply WX.e_block | refine WX.e_other rfl ?_ | apply WX.e_then | apply WX.e_again | apply WX.n_block | apply WX.r_then | apply WX.r_block | apply WX.r_again | refine WC.cond_yes rfl ?_ | refine WC.cond_no rfl ?_ | refine WC.cond rfl (fun hc => ?_) (fun hc => ?_) | refine WC.cond_b rfl (fun hc => ?_) (fun hc => ?_))
  refine WL.pa ?_ (POp.and64 (b := 31) rfl rfl rfl rfl (by omega) (by decide))
  rw [hand]
  repeat' (first | apply WL.fold | apply WA.fold | apply WL.nil | apply WX.n_then | apply WC.seq | apply WC.region | refine WL.pa ?_ | refine WL.ga rfl ?_ | refine WL.na rfl ?_ | refine WL.nu rfl rfl ?_ | apply WC.block | apply WC.skip | apply WC.exit | apply WC.ret | apply WX.e_block | refine WX.e_other rfl ?_ | apply WX.e_then | apply WX.e_again | apply WX.n_block | apply WX.r_then | apply WX.r_block | apply WX.r_again | refine WC.cond_yes rfl ?_ | refine WC.cond_no rfl ?_ | refine WC.cond rfl (fun hc => ?_) (fun hc => ?_) | refine WC.cond_b rfl (fun hc => ?_) (fun hc => ?_))
  refine WL.pa ?_ (POp.sub64 (a := 32) (b := 32 - n) rfl rfl rfl rfl (by omega) (by decide))
  rw [show 32 - (32 - n) = n from by omega]
  repeat' (first | apply WL.fold | apply WA.fold | apply WL.nil | apply WX.n_then | apply WC.seq | apply WC.region | refine WL.pa ?_ | refine WL.ga rfl ?_ | refine WL.na rfl ?_ | refine WL.nu rfl rfl ?_ | apply WC.block | apply WC.skip | apply WC.exit | apply WC.ret | apply WX.e_block | refine WX.e_other rfl ?_ | apply WX.e_then | apply WX.e_again | apply WX.n_block | apply WX.r_then | apply WX.r_block | apply WX.r_again | refine WC.cond_yes rfl ?_ | refine WC.cond_no rfl ?_ | refine WC.cond rfl (fun hc => ?_) (fun hc => ?_) | refine WC.cond_b rfl (fun hc => ?_) (fun hc => ?_))
  exact WX.ret1 rfl rfl ⟨rfl, rfl⟩
theorem mixed_fn (x : UInt32) (l : List Nat) (hl : ∀ n ∈ l, 0 < n ∧ n < 32) {b c : Nat} (w : World) (hr : Rd w (.slice (some ⟨b, 0, none⟩) l.length c) (nats l)) (hs : l.length ≤ 1000) :
    Fn Tryz.prog 153 #[w32 x, .slice (some ⟨b, 0, none⟩) l.length c] w fun v w' => v = w32 (mixW x l) ∧ w = w' := by
  refine enter (l := [_, _]) rfl Tryz.ntmps153 rfl ?_
  repeat' (first | apply WL.fold | apply WA.fold | apply WL.nil | apply WX.n_then | apply WC.seq | apply WC.region | refine WL.pa ?_ | refine WL.ga rfl ?_ | refine WL.na rfl ?_ | refine WL.nu rfl rfl ?_ | apply WC.block | apply WC.skip | apply WC.exit | apply WC.ret | apply WX.e_block | refine WX.e_other rfl ?_ | apply WX.e_then | apply WX.e_again | apply WX.n_block | apply WX.r_then | apply WX.r_block | apply WX.r_again | refine WC.cond_yes rfl ?_ | refine WC.cond_no rfl ?_ | refine WC.cond rfl (fun hc => ?_) (fun hc => ?_) | refine WC.cond_b rfl (fun hc => ?_) (fun hc => ?_))
  refine WC.loop (α := Nat) (fun i => [(0, w32 x), (5, w32 (mixW x (l.take i))), (8, .slice (some ⟨b, 0, none⟩) l.length c), (9, zv (l.length : Int)), (10, zv (i : Int))])
    (fun i w' => i ≤ l.length ∧ w' = w) (fun i => l.length - i) 0 esA ⟨by omega, rfl⟩ ?_
  rintro i w' ⟨hi, rfl⟩
  by_cases hlt : i < l.length
  · have hn := hl _ (List.getElem_mem hlt)
    have hm := mixW_take (x := x) hlt
    have hc := hr.cell (nats_get hlt)
    rw [Nat.zero_add] at hc
    generalize l[i] = n at hn hm hc
    repeat' (first | apply WL.fold | apply WA.fold | apply WL.nil | apply WX.n_then | apply WC.seq | apply WC.region | refine WL.pa ?_ | refine WL.ga rfl ?_ | refine WL.na rfl ?_ | refine WL.nu rfl rfl ?_ | apply WC.block | apply WC.skip | apply WC.exit | apply WC.ret | apply WX.e_block | refine WX.e_other rfl ?_ | apply WX.e_then | apply WX.e_again | apply WX.n_block | apply WX.r_then | apply WX.r_block | apply WX.r_again | refine WC.cond_yes rfl ?_ | refine WC.cond_no rfl ?_ | refine WC.cond rfl (fun hc => ?_) (fun hc => ?_) | refine WC.cond_b rfl (fun hc => ?_) (fun hc => ?_))
    refine WL.load rfl hc rfl ?_
    repeat' (first | apply WL.fold | apply WA.fold | apply WL.nil | apply WX.n_then | apply WC.seq | apply WC.region | refine WL.pa ?_ | refine WL.ga rfl ?_ | refine WL.na rfl ?_ | refine WL.nu rfl rfl ?_ | apply WC.block | apply WC.skip | apply WC.exit | apply WC.ret | apply WX.e_block | refine WX.e_other rfl ?_ | apply WX.e_then | apply WX.e_again | apply WX.n_block | apply WX.r_then | apply WX.r_block | apply WX.r_again | refine WC.cond_yes rfl ?_ | refine WC.cond_no rfl ?_ | refine WC.cond rfl (fun hc => ?_) (fun hc => ?_) | refine WC.cond_b rfl (fun hc => ?_) (fun hc => ?_))
    refine WL.call rfl rfl (rotate_fn x n hn.1 hn.2 w') ?_
    rintro v w2 ⟨rfl, rfl⟩
    repeat' (first | apply WL.fold | apply WA.fold | apply WL.nil | apply WX.n_then | apply WC.seq | apply WC.region | refine WL.pa ?_ | refine WL.ga rfl ?_ | refine WL.na rfl ?_ | refine WL.nu rfl rfl ?_ | apply WC.block | apply WC.skip | apply WC.exit | apply WC.ret | apply WX.e_block | refine WX.e_other rfl ?_ | apply WX.e_then | apply WX.e_again | apply WX.n_block | apply WX.r_then | apply WX.r_block | apply WX.r_again | refine WC.cond_yes rfl ?_ | refine WC.cond_no rfl ?_ | refine WC.cond rfl (fun hc => ?_) (fun hc => ?_) | refine WC.cond_b rfl (fun hc => ?_) (fun hc => ?_))
    refine WX.again (i + 1) ⟨hlt, rfl⟩ (by show l.length - (i + 1) < l.length - i; omega) ?_
    rw [hm]; repeat (first | exact trivial | refine ⟨rfl, ?_⟩)
  · obtain rfl : i = l.length := by omega
    rw [List.take_length]
    repeat' (first | apply WL.fold | apply WA.fold | apply WL.nil | apply WX.n_then | apply WC.seq | apply WC.region | refine WL.pa ?_ | refine WL.ga rfl ?_ | refine WL.na rfl ?_ | refine WL.nu rfl rfl ?_ | apply WC.block | apply WC.skip | apply WC.exit | apply WC.ret | apply WX.e_block | refine WX.e_other rfl ?_ | apply WX.e_then | apply WX.e_again | apply WX.n_block | apply WX.r_then | apply WX.r_block | apply WX.r_again | refine WC.cond_yes rfl ?_ | refine WC.cond_no rfl ?_ | refine WC.cond rfl (fun hc => ?_) (fun hc => ?_) | refine WC.cond_b rfl (fun hc => ?_) (fun hc => ?_))
    exact WX.ret1 rfl rfl ⟨rfl, rfl⟩
end Go.Sx
/- Chapter 2: the words of a block, and what a block does to a state: the walks. -/
namespace Go.Sx
open Go Go.Proofs Go.RowKit
def schW (l : List UInt8) (i : Nat) : List Value := row 64 fun j => w32 (if j < i then wW l j else 0)
theorem schW_get {l : List UInt8} {i j : Nat} (h : j < i) (hj : j < 64) : (schW l i)[j]? = some (w32 (wW l j)) := by
  unfold schW
  rw [row_get _ hj, if_pos h]
theorem schW_set {l : List UInt8} {i : Nat} (h : i < 64) : (schW l i).set i (w32 (wW l i)) = schW l (i + 1) := by
  unfold schW
  rw [row_set]
  refine row_congr fun j _ => ?_
  by_cases e : j = i
  · subst e; rw [if_pos rfl, if_pos (Nat.lt_succ_self _)]
  · have : (j < i + 1) = (j < i) := by simp only [eq_iff_iff]; omega
    rw [if_neg e]; simp only [this]
theorem schW_len (l : List UInt8) (i : Nat) : (schW l i).length = 64 := row_len _ _
theorem row_one' {n : Nat} {f : Nat → Value} (h : ∀ i, (f i).oneCell' = true) : ∀ v ∈ row n f, v.oneCell' = true := by
  intro v hv
  obtain ⟨i, -, rfl⟩ := List.mem_map.1 hv
  exact h i
theorem ub_at {w : World} {b off n c : Nat} {l : List UInt8} (h : Rd w (.slice (some ⟨b, off, none⟩) n c) (ub l)) {i : Nat} (hi : i < l.length) : w.cell? ⟨b, off + i, none⟩ = some (b8 (l.getD i 0)) := by
  have : (ub l)[i]? = some (b8 (l.getD i 0)) := by simp [ub, hi]
  exact h.cell this
theorem blk_rd {w : World} {b n : Nat} {cs : List Value} {e : TypeId} (h : Blk w b cs e) (hn : cs.length = n) : Rd w (.slice (some ⟨b, 0, none⟩) n n) cs := by
  have := Rd.of_blk (l := n) (c := n) h (Nat.le_of_eq hn.symm) (Nat.le_refl _)
  rwa [← hn, List.take_length, hn] at this
attribute [local irreducible] WC WL WX POp Then Again Fn NX W1 WA WO QL RP RA Yld LoopAt HC HL HX HN H1 HA HO HQ HB HP A.blk A.grow A.rd A.obj A.mp AgainH CutH
attribute [local irreducible] wordAt mixW
set_option maxRecDepth 100000 in
set_option maxHeartbeats 4000000 in
theorem schedule_fn {bb off c : Nat} (l : List UInt8) (hl : l.length = 64) (w : World) (hr : Rd w (.slice (some ⟨bb, off, none⟩) 64 c) (ub l)) :
    Fn Tryz.prog 152 #[.slice (some ⟨bb, off, none⟩) 64 c] w fun v w' => v = .agg (schW l 64).toArray ∧ Ext w w' := by
  refine enterH (l := [_]) rfl Tryz.ntmps152 rfl ?_
  refine hwDD ?_
  refine HL.one (H1.alloc (cs := schW l 0) (by kernel_rfl) rfl (fun b2 => ?_))
  refine hbDD ?_
  refine HC.cut (α := Unit) (fun _ => [(0, .slice (some ⟨bb, off, none⟩) 64 c), (2, .pointer (some ⟨b2, 0, none⟩))]) (fun _ => [A.blk b2 (schW l 16) 226]) (fun _ => True) ?_ ?_
  · repeat refine HC.seq ?_
    refine hwDD ?_
    refine HC.loop (α := Nat) (fun i => [(0, .slice (some ⟨bb, off, none⟩) 64 c), (2, .pointer (some ⟨b2, 0, none⟩)), (7, zv (i : Int))]) (fun i => [A.blk b2 (schW l i) 226]) (fun i => i ≤ 16) (fun i => 16 - i) 0 (Nat.zero_le _) esA (Hs.refl _) ?_
    rintro i hi
    by_cases hlt : i < 16
    · have h0 := ub_at hr (i := 4 * i) (by omega)
      have h1 := ub_at hr (i := 4 * i + 1) (by omega)
      have h2 := ub_at hr (i := 4 * i + 2) (by omega)
      have h3 := ub_at hr (i := 4 * i + 3) (by omega)
      have hset := schW_set (l := l) (i := i) (by omega)
      rw [wW_lo hlt] at hset
      unfold wordAt bt at hset
      refine hwDD ?_
      refine HC.anyC ([(⟨bb, off + 4 * i, none⟩, b8 (l.getD (4 * i) 0)), (⟨bb, off + (4 * i + 1), none⟩, b8 (l.getD (4 * i + 1) 0)), (⟨bb, off + (4 * i + 2), none⟩, b8 (l.getD (4 * i + 2) 0)), (⟨bb, off + (4 * i + 3), none⟩, b8 (l.getD (4 * i + 3) 0))]) rfl ?_
      refine HB.pa 0 rfl ?_
      refine HB.pa 1 rfl ?_
      refine HB.pa 2 rfl ?_
      refine HB.pa 3 rfl ?_
      refine HB.pa 4 rfl ?_ (POp.index_slice (o := off + 4 * i) rfl rfl (by omega) (by omega) (by omega))
      refine HB.ld 5 rfl rfl memD ?_
      refine HB.pa 6 rfl ?_
      refine HB.pa 7 rfl ?_
      refine HB.pa 8 rfl ?_
      refine HB.pa 9 rfl ?_
      refine HB.pa 10 rfl ?_
      refine HB.pa 11 rfl ?_
      refine HB.pa 12 rfl ?_ (POp.index_slice (o := off + (4 * i + 1)) rfl rfl (by omega) (by omega) (by omega))
      refine HB.ld 13 rfl rfl memD ?_
      refine HB.pa 14 rfl ?_
      refine HB.pa 15 rfl ?_
      refine HB.pa 16 rfl ?_
      refine HB.pa 17 rfl ?_
      refine HB.pa 18 rfl ?_
      refine HB.pa 19 rfl ?_
      refine HB.pa 20 rfl ?_
      refine HB.pa 21 rfl ?_ (POp.index_slice (o := off + (4 * i + 2)) rfl rfl (by omega) (by omega) (by omega))
      refine HB.ld 22 rfl rfl memD ?_
      refine HB.pa 23 rfl ?_
      refine HB.pa 24 rfl ?_
      refine HB.pa 25 rfl ?_
      refine HB.pa 26 rfl ?_
      refine HB.pa 27 rfl ?_
      refine HB.pa 28 rfl ?_
      refine HB.pa 29 rfl ?_
      refine HB.pa 30 rfl ?_ (POp.index_slice (o := off + (4 * i + 3)) rfl rfl (by omega) (by omega) (by omega))
      refine HB.ld 31 rfl rfl memD ?_
      refine HB.pa 32 rfl ?_
      refine HB.pa 33 rfl ?_
      refine HB.pa 34 rfl ?_
      refine HB.all (by (exact Keep.base h0 (Keep.base h1 (Keep.base h2 (Keep.base h3 Keep.nil))))) [35] (by kernel_rfl) rfl ⟨⟨_, rfl, ?_⟩, trivial⟩
      refine HP.one ?_
      refine H1.st (b := b2) rfl rfl (by intro _ h; cases h) (by intro _ h; cases h) rplA (by rw [schW_len]; omega) ?_
      rw [hset]
      apply HB.fold
      refine HB.done (by (exact Keep.base h0 (Keep.base h1 (Keep.base h2 (Keep.base h3 Keep.nil))))) (by kernel_rfl) ?_
      refine hwDD ?_
      exact HX.again (i + 1) hlt (by show 16 - (i + 1) < 16 - i; omega) esA (Hs.refl _)
    · obtain rfl : i = 16 := by omega
      refine hwDD ?_
      exact HX.cut () trivial esA (Hs.refl _)
  rintro - -
  refine hwDD ?_
  refine HC.loop (α := Nat) (fun i => [(2, .pointer (some ⟨b2, 0, none⟩)), (4, zv (i : Int))]) (fun i => [A.blk b2 (schW l i) 226]) (fun i => 16 ≤ i ∧ i ≤ 64) (fun i => 64 - i) 16 ⟨Nat.le_refl _, by omega⟩ esA (Hs.refl _) ?_
  rintro i ⟨hi0, hi⟩
  by_cases hlt : i < 64
  · have g2 := schW_get (l := l) (i := i) (j := i - 2) (by omega) (by omega)
    have g7 := schW_get (l := l) (i := i) (j := i - 7) (by omega) (by omega)
    have g15 := schW_get (l := l) (i := i) (j := i - 15) (by omega) (by omega)
    have g16 := schW_get (l := l) (i := i) (j := i - 16) (by omega) (by omega)
    have k7 := schW_get (l := l) (i := i + 1) (j := i - 7) (by omega) (by omega)
    have k16 := schW_get (l := l) (i := i + 1) (j := i - 16) (by omega) (by omega)
    have hset := schW_set (l := l) (i := i) hlt
    rw [wW_hi (by omega)] at hset
    have e2 : ((i : Int) - 2).toNat = i - 2 := by omega
    have e15 : ((i : Int) - 15).toNat = i - 15 := by omega
    refine hwDD ?_
    refine HC.quietS [(some 50, [4], []), (some 51, [50], [0]), (some 52, [2, 51], [1]), (some 53, [52], [2]), (some 54, [4], []), (some 55, [54], [4]), (some 56, [2, 55], [5]), (some 57, [56], [6]), (some 5, [53], [3, 0, 1, 2, 3]), (some 6, [57], [7, 8, 0, 1, 2, 3, 4, 5, 6, 7, 8])] (by kernel_rfl) (by kernel_rfl) (by kernel_rfl) ?_
    repeat' (first | refine HQ.pa ?_ | refine HQ.ga rfl ?_ | refine HQ.na rfl ?_ | refine HQ.nu rfl ?_ | refine HQ.ldb rfl memA rfl rfl ?_)
    rw [e15]
    refine HQ.ldb rfl memA g15 rfl ?_
    repeat' (first | refine HQ.pa ?_ | refine HQ.ga rfl ?_ | refine HQ.na rfl ?_ | refine HQ.nu rfl ?_ | refine HQ.ldb rfl memA rfl rfl ?_)
    rw [e2]
    refine HQ.ldb rfl memA g2 rfl ?_
    repeat' (first | refine HQ.pa ?_ | refine HQ.ga rfl ?_ | refine HQ.na rfl ?_ | refine HQ.nu rfl ?_ | refine HQ.ldb rfl memA rfl rfl ?_)
    refine HQ.nil ?_
    refine hwDD ?_
    refine HC.anyC ([(⟨b2, i - 16, none⟩, w32 (wW l (i - 16))), (⟨b2, i - 7, none⟩, w32 (wW l (i - 7)))]) rfl ?_
    refine HB.pa 0 rfl ?_
    refine HB.pa 1 rfl ?_
    refine HB.pa 2 rfl ?_
    refine HB.pa 3 rfl ?_ (POp.index_array (o := i - 16) rfl rfl (by omega) (by omega) (by omega))
    refine HB.ld 4 rfl rfl memD ?_
    refine HB.pa 5 rfl ?_
    refine HB.pa 8 rfl ?_
    refine HB.pa 9 rfl ?_
    refine HB.pa 12 rfl ?_
    refine HB.pa 13 rfl ?_
    refine HB.pa 14 rfl ?_ (POp.index_array (o := i - 7) rfl rfl (by omega) (by omega) (by omega))
    refine HB.ld 15 rfl rfl memD ?_
    refine HB.pa 17 rfl ?_
    refine HB.pa 20 rfl ?_
    refine HB.pa 21 rfl ?_
    refine HB.all (by (first | exact Keep.blk memD g16 (Keep.blk memD g7 Keep.nil) | exact Keep.blk memD k16 (Keep.blk memD k7 Keep.nil))) [6, 18] (by kernel_rfl) rfl ⟨⟨_, rfl, ?_⟩, ⟨_, rfl, ?_⟩, trivial⟩
    · refine HP.one ?_
      refine H1.lit (cs := nats [7, 18]) rfl rfl rfl rfl rfl rfl (fun b6 => ?_)
      apply HB.fold
      refine HB.all (by (first | exact Keep.blk memD g16 (Keep.blk memD g7 Keep.nil) | exact Keep.blk memD k16 (Keep.blk memD k7 Keep.nil))) [7, 18] (by kernel_rfl) rfl ⟨⟨_, rfl, ?_⟩, ⟨_, rfl, ?_⟩, trivial⟩
      · refine HP.one ?_
        refine H1.call0 rfl rfl (fun w' hM => mixed_fn (wW l (i - 15)) [7, 18] (by decide) w' (blk_rd (hM.blk memA) rfl) (by decide)) ?_
        apply HB.fold
        refine HB.pa 10 rfl ?_
        refine HB.pa 11 rfl ?_
        refine HB.pa 16 rfl ?_
        refine HB.all (by (first | exact Keep.blk memD g16 (Keep.blk memD g7 Keep.nil) | exact Keep.blk memD k16 (Keep.blk memD k7 Keep.nil))) [18] (by kernel_rfl) rfl ⟨⟨_, rfl, ?_⟩, trivial⟩
        refine HP.one ?_
        refine H1.lit (cs := nats [17, 19]) rfl rfl rfl rfl rfl rfl (fun b18 => ?_)
        apply HB.fold
        refine HB.all (by (first | exact Keep.blk memD g16 (Keep.blk memD g7 Keep.nil) | exact Keep.blk memD k16 (Keep.blk memD k7 Keep.nil))) [19] (by kernel_rfl) rfl ⟨⟨_, rfl, ?_⟩, trivial⟩
        refine HP.one ?_
        refine H1.call0 rfl rfl (fun w' hM => mixed_fn (wW l (i - 2)) [17, 19] (by decide) w' (blk_rd (hM.blk memA) rfl) (by decide)) ?_
        apply HB.fold
        refine HB.pa 22 rfl ?_
        refine HB.pa 23 rfl ?_
        refine HB.pa 24 rfl ?_
        refine HB.all (by (first | exact Keep.blk memD g16 (Keep.blk memD g7 Keep.nil) | exact Keep.blk memD k16 (Keep.blk memD k7 Keep.nil))) [25] (by kernel_rfl) rfl ⟨⟨_, rfl, ?_⟩, trivial⟩
        refine HP.one ?_
        refine H1.st (b := b2) rfl rfl (by intro _ h; cases h) (by intro _ h; cases h) rplA (by rw [schW_len]; omega) ?_
        rw [hset]
        apply HB.fold
        refine HB.done (by (first | exact Keep.blk memD g16 (Keep.blk memD g7 Keep.nil) | exact Keep.blk memD k16 (Keep.blk memD k7 Keep.nil))) (by kernel_rfl) ?_
        refine hwDD ?_
        exact HX.again (i + 1) ⟨by omega, hlt⟩ (by show 64 - (i + 1) < 64 - i; omega) esA (by repeat (first | exact Hs.nil _ | (refine Hs.cons pickA ?_)))
      · refine HP.one ?_
        refine H1.lit (cs := nats [17, 19]) rfl rfl rfl rfl rfl rfl (fun b18 => ?_)
        apply HB.fold
        refine HB.all (by (first | exact Keep.blk memD g16 (Keep.blk memD g7 Keep.nil) | exact Keep.blk memD k16 (Keep.blk memD k7 Keep.nil))) [7] (by kernel_rfl) rfl ⟨⟨_, rfl, ?_⟩, trivial⟩
        refine HP.one ?_
        refine H1.call0 rfl rfl (fun w' hM => mixed_fn (wW l (i - 15)) [7, 18] (by decide) w' (blk_rd (hM.blk memA) rfl) (by decide)) ?_
        apply HB.fold
        refine HB.pa 10 rfl ?_
        refine HB.pa 11 rfl ?_
        refine HB.pa 16 rfl ?_
        refine HB.all (by (first | exact Keep.blk memD g16 (Keep.blk memD g7 Keep.nil) | exact Keep.blk memD k16 (Keep.blk memD k7 Keep.nil))) [19] (by kernel_rfl) rfl ⟨⟨_, rfl, ?_⟩, trivial⟩
        refine HP.one ?_
        refine H1.call0 rfl rfl (fun w' hM => mixed_fn (wW l (i - 2)) [17, 19] (by decide) w' (blk_rd (hM.blk memA) rfl) (by decide)) ?_
        apply HB.fold
        refine HB.pa 22 rfl ?_
        refine HB.pa 23 rfl ?_
        refine HB.pa 24 rfl ?_
        refine HB.all (by (first | exact Keep.blk memD g16 (Keep.blk memD g7 Keep.nil) | exact Keep.blk memD k16 (Keep.blk memD k7 Keep.nil))) [25] (by kernel_rfl) rfl ⟨⟨_, rfl, ?_⟩, trivial⟩
        refine HP.one ?_
        refine H1.st (b := b2) rfl rfl (by intro _ h; cases h) (by intro _ h; cases h) rplA (by rw [schW_len]; omega) ?_
        rw [hset]
        apply HB.fold
        refine HB.done (by (first | exact Keep.blk memD g16 (Keep.blk memD g7 Keep.nil) | exact Keep.blk memD k16 (Keep.blk memD k7 Keep.nil))) (by kernel_rfl) ?_
        refine hwDD ?_
        exact HX.again (i + 1) ⟨by omega, hlt⟩ (by show 64 - (i + 1) < 64 - i; omega) esA (by repeat (first | exact Hs.nil _ | (refine Hs.cons pickA ?_)))
    · refine HP.one ?_
      refine H1.lit (cs := nats [17, 19]) rfl rfl rfl rfl rfl rfl (fun b18 => ?_)
      apply HB.fold
      refine HB.all (by (first | exact Keep.blk memD g16 (Keep.blk memD g7 Keep.nil) | exact Keep.blk memD k16 (Keep.blk memD k7 Keep.nil))) [6] (by kernel_rfl) rfl ⟨⟨_, rfl, ?_⟩, trivial⟩
      refine HP.one ?_
      refine H1.lit (cs := nats [7, 18]) rfl rfl rfl rfl rfl rfl (fun b6 => ?_)
      apply HB.fold
      refine HB.all (by (first | exact Keep.blk memD g16 (Keep.blk memD g7 Keep.nil) | exact Keep.blk memD k16 (Keep.blk memD k7 Keep.nil))) [7] (by kernel_rfl) rfl ⟨⟨_, rfl, ?_⟩, trivial⟩
      refine HP.one ?_
      refine H1.call0 rfl rfl (fun w' hM => mixed_fn (wW l (i - 15)) [7, 18] (by decide) w' (blk_rd (hM.blk memA) rfl) (by decide)) ?_
      apply HB.fold
      refine HB.pa 10 rfl ?_
      refine HB.pa 11 rfl ?_
      refine HB.pa 16 rfl ?_
      refine HB.all (by (first | exact Keep.blk memD g16 (Keep.blk memD g7 Keep.nil) | exact Keep.blk memD k16 (Keep.blk memD k7 Keep.nil))) [19] (by kernel_rfl) rfl ⟨⟨_, rfl, ?_⟩, trivial⟩
      refine HP.one ?_
      refine H1.call0 rfl rfl (fun w' hM => mixed_fn (wW l (i - 2)) [17, 19] (by decide) w' (blk_rd (hM.blk memA) rfl) (by decide)) ?_
      apply HB.fold
      refine HB.pa 22 rfl ?_
      refine HB.pa 23 rfl ?_
      refine HB.pa 24 rfl ?_
      refine HB.all (by (first | exact Keep.blk memD g16 (Keep.blk memD g7 Keep.nil) | exact Keep.blk memD k16 (Keep.blk memD k7 Keep.nil))) [25] (by kernel_rfl) rfl ⟨⟨_, rfl, ?_⟩, trivial⟩
      refine HP.one ?_
      refine H1.st (b := b2) rfl rfl (by intro _ h; cases h) (by intro _ h; cases h) rplA (by rw [schW_len]; omega) ?_
      rw [hset]
      apply HB.fold
      refine HB.done (by (first | exact Keep.blk memD g16 (Keep.blk memD g7 Keep.nil) | exact Keep.blk memD k16 (Keep.blk memD k7 Keep.nil))) (by kernel_rfl) ?_
      refine hwDD ?_
      exact HX.again (i + 1) ⟨by omega, hlt⟩ (by show 64 - (i + 1) < 64 - i; omega) esA (by repeat (first | exact Hs.nil _ | (refine Hs.cons pickA ?_)))
  · obtain rfl : i = 64 := by omega
    refine hwDD ?_
    refine HL.one (H1.ldAgg (vs := schW l 64) rfl memA (schW_len _ _) (fun i v h => by rwa [Nat.zero_add]) rfl ?_)
    refine hwDD ?_
    refine HL.one (H1.stAgg rfl rfl (schW_len _ _) (row_one' fun _ => rfl) rplA rfl ?_)
    refine hwDD ?_
    exact HX.retc1 rfl rfl memA (schW_len _ _) fun w' hM => ⟨rfl, hM.ext⟩
end Go.Sx
/- Chapter 2: what a block does to a state: the walk. -/
namespace Go.Sx
open Go Go.Proofs Go.RowKit
theorem hwDE {G G2 : Prop} (x : G2) (hwq : Hold G2 → G := by
    intro hQq
    repeat' (first | refine HL.pa ?_ (POp.nilCheck rfl) | apply HL.fold | apply HA.fold | apply HL.nil | apply HX.n_then | apply HC.seq | apply HC.region | refine HL.pa ?_ | refine HL.ga rfl ?_ | refine HL.na rfl ?_ | refine HL.nu rfl rfl ?_ | apply HC.block | apply HC.skip | apply HC.exit | apply HC.ret | apply HX.e_block | refine HX.e_other rfl ?_ | apply HX.e_then | apply HX.e_again | apply HX.n_block | apply HX.r_then | apply HX.r_block | apply HX.r_again | refine HC.cond_yes rfl ?_ | refine HC.cond_no rfl ?_ | refine HL.one (H1.ldb rfl memA rfl rfl ?_) | refine HC.cond rfl (fun hc => ?_) (fun hc => ?_) | refine HC.cond_b rfl (fun hc => ?_) (fun hc => ?_))
    exact hQq.get) : G := hwq ⟨x⟩
theorem hbDE {G G2 : Prop} (x : G2) (hwq : Hold G2 → G := by
    intro hQq
    repeat' (first | refine HL.pa ?_ (POp.nilCheck rfl) | apply HL.fold | apply HA.fold | apply HL.nil | apply HX.n_then | apply HC.seq | apply HC.region | refine HL.pa ?_ | refine HL.ga rfl ?_ | refine HL.na rfl ?_ | refine HL.nu rfl rfl ?_ | apply HC.skip | apply HC.exit | apply HC.ret | apply HX.e_block | refine HX.e_other rfl ?_ | apply HX.e_then | apply HX.e_again | apply HX.n_block | apply HX.r_then | apply HX.r_block | apply HX.r_again | refine HC.cond_yes rfl ?_ | refine HC.cond_no rfl ?_ | refine HL.one (H1.ldb rfl memA rfl rfl ?_) | refine HC.cond rfl (fun hc => ?_) (fun hc => ?_) | refine HC.cond_b rfl (fun hc => ?_) (fun hc => ?_))
    exact hQq.get) : G := hwq ⟨x⟩
/-- The table of package digest. -/
def RoundG (w : World) : Prop := ∀ i v, (ws kL)[i]? = some v → w.cell? ⟨1, i, none⟩ = some v
theorem RoundG.ext {w w' : World} (h : RoundG w) (k : Ext w w') : RoundG w' := fun i v hv => cell_ext k (h i v hv)
theorem kL_len : kL.length = 64 := rfl
theorem kW_get {i : Nat} (h : i < 64) : (ws kL)[i]? = some (w32 (kW i)) := by
  have : i < kL.length := h
  unfold kW ws
  rw [List.getElem?_map, List.getD_eq_getElem?_getD, List.getElem?_eq_getElem this]; rfl
def addL (s v : S8) (i : Nat) : List Value := row 8 fun j => w32 (if j < i then s.l.getD j 0 + v.l.getD j 0 else s.l.getD j 0)
theorem addL_get {s v : S8} {i : Nat} (h : i < 8) : (addL s v i)[i]? = some (w32 (s.l.getD i 0)) := by
  unfold addL
  rw [row_get _ h, if_neg (Nat.lt_irrefl _)]
theorem addL_set {s v : S8} {i : Nat} : (addL s v i).set i (w32 (s.l.getD i 0 + v.l.getD i 0)) = addL s v (i + 1) := by
  unfold addL
  rw [row_set]
  refine row_congr fun j _ => ?_
  by_cases e : j = i
  · subst e; rw [if_pos rfl, if_pos (Nat.lt_succ_self _)]
  · have : (j < i + 1) = (j < i) := by simp only [eq_iff_iff]; omega
    rw [if_neg e]; simp only [this]
theorem S8.get {s : S8} {i : Nat} (h : i < 8) : (ws s.l)[i]? = some (w32 (s.l.getD i 0)) := by
  have : i < s.l.length := h
  unfold ws
  rw [List.getElem?_map, List.getD_eq_getElem?_getD, List.getElem?_eq_getElem this]; rfl
theorem ws_one {l : List UInt32} : ∀ v ∈ ws l, v.oneCell' = true := by
  intro v hv
  obtain ⟨x, -, rfl⟩ := List.mem_map.1 hv
  rfl
attribute [local irreducible] WC WL WX POp Then Again Fn NX W1 WA WO QL RP RA Yld LoopAt HC HL HX HN H1 HA HO HQ HB HP A.blk A.grow A.rd A.obj A.mp AgainH CutH
attribute [local irreducible] mixW kL
set_option maxRecDepth 100000 in
set_option maxHeartbeats 4000000 in
theorem add_fn {w0 w : World} {H : List Atom} {bh bb off c : Nat} (s : S8) (l : List UInt8) (hl : l.length = 64) (hG : RoundG w0) (hM : Mm w0 (A.blk bh (ws s.l) 161 :: H) w)
    (hr : ∀ w', Mm w0 H w' → Rd w' (.slice (some ⟨bb, off, none⟩) 64 c) (ub l)) :
    Fn Tryz.prog 91 #[.pointer (some ⟨bh, 0, none⟩), .slice (some ⟨bb, off, none⟩) 64 c] w fun v w' => v = .tuple #[] ∧ Mm w0 (A.blk bh (ws (comp s l).l) 161 :: H) w' := by
  refine enterK (l := [_, _]) hM rfl Tryz.ntmps91 rfl ?_
  refine hbDE ?_
  refine HL.one (H1.callx (vs := [_]) rfl rfl (fun w' hM => schedule_fn l hl w' (hr w' hM.tail)) ?_)
  refine hbDE ?_
  refine HL.one (H1.alloc (cs := schW l 0) (by kernel_rfl) rfl (fun b4 => ?_))
  refine hbDE ?_
  refine HL.one (H1.stAgg (cs := schW l 0) rfl rfl (schW_len _ _) (row_one' fun _ => rfl) rplA (by rw [schW_len, schW_len]) ?_)
  refine hbDE ?_
  refine HL.one (H1.ldAgg (vs := ws s.l) rfl memA rfl (fun i v h => by rwa [Nat.zero_add]) rfl ?_)
  refine hbDE ?_
  refine HL.one (H1.alloc (cs := List.replicate 8 (.int .u32 0)) (by kernel_rfl) rfl (fun b5 => ?_))
  refine hbDE ?_
  refine HL.one (H1.stAgg (cs := List.replicate 8 (.int .u32 0)) rfl rfl rfl ws_one rplA rfl ?_)
  refine hbDE ?_
  refine HL.one (H1.ldAggw (vs := ws kL) rfl (by unfold ws; rw [List.length_map, kL_len]) (fun w' hM i v hv => by rw [Nat.zero_add]; exact cell_ext hM.ext (hG i v hv)) rfl ?_)
  refine hbDE ?_
  refine HC.cut (α := Unit) (fun _ => [(0, .pointer (some ⟨bh, 0, none⟩)), (5, .pointer (some ⟨b5, 0, none⟩))]) (fun _ => A.blk b5 (ws (rnds l s 64).l) 161 :: A.blk bh (ws s.l) 161 :: H) (fun _ => True) ?_ ?_
  · repeat refine HC.seq ?_
    refine HC.block ?_
    refine HC.loop (α := Nat) (fun i => [(0, .pointer (some ⟨bh, 0, none⟩)), (4, .pointer (some ⟨b4, 0, none⟩)), (5, .pointer (some ⟨b5, 0, none⟩)), (18, .agg (ws kL).toArray), (19, zv (i : Int))])
      (fun i => A.blk b5 (ws (rnds l s i).l) 161 :: A.blk b4 (schW l 64) 226 :: A.blk bh (ws s.l) 161 :: H) (fun i => i ≤ 64) (fun i => 64 - i) 0 (Nat.zero_le _) esA (Hs.refl _) ?_
    rintro i hi
    by_cases hlt : i < 64
    · have hk := kW_get hlt
      have hw := schW_get (l := l) (i := 64) hlt hlt
      have hstep : rnds l s (i + 1) = rnd (kW i) (wW l i) (rnds l s i) := rfl
      generalize rnds l s i = S at hstep
      refine hwDE ?_
      refine HL.pa ?_ (POp.index_agg (v := w32 (kW i)) rfl rfl rfl hlt hk)
      refine hwDE ?_
      refine HC.quietS [(some 23, [5], []), (some 24, [23], [0]), (some 25, [5], []), (some 26, [25], [2]), (some 8, [24], [1, 0, 1]), (some 9, [26], [3, 4, 0, 1, 2, 3, 4])] (by kernel_rfl) (by kernel_rfl) (by kernel_rfl) ?_
      repeat' (first | refine HQ.pa ?_ | refine HQ.ga rfl ?_ | refine HQ.na rfl ?_ | refine HQ.nu rfl ?_ | refine HQ.ldb rfl memA rfl rfl ?_)
      refine HQ.nil ?_
      refine hwDE ?_
      refine HC.anyC ([(⟨b5, 7, none⟩, w32 S.h), (⟨b5, 5, none⟩, w32 S.f), (⟨b5, 6, none⟩, w32 S.g), (⟨b4, i, none⟩, w32 (wW l i))]) rfl ?_
      refine HB.pa 0 rfl ?_
      refine HB.ld 1 rfl rfl memD ?_
      refine HB.pa 2 rfl ?_
      refine HB.pa 6 rfl ?_
      refine HB.pa 7 rfl ?_
      refine HB.ld 8 rfl rfl memD ?_
      refine HB.pa 9 rfl ?_
      refine HB.pa 10 rfl ?_
      refine HB.pa 11 rfl ?_
      refine HB.pa 12 rfl ?_
      refine HB.ld 13 rfl rfl memD ?_
      refine HB.pa 14 rfl ?_
      refine HB.pa 15 rfl ?_
      refine HB.pa 17 rfl ?_
      refine HB.pa 19 rfl ?_
      refine HB.pa 20 rfl ?_
      refine HB.ld 21 rfl rfl memD ?_
      refine HB.all (by (exact Keep.blk (cs := ws S.l) memD rfl (Keep.blk (cs := ws S.l) memD rfl (Keep.blk (cs := ws S.l) memD rfl (Keep.blk memD hw Keep.nil))))) [3] (by kernel_rfl) rfl ⟨⟨_, rfl, ?_⟩, trivial⟩
      refine HP.one ?_
      refine H1.lit (cs := nats [6, 11, 25]) rfl rfl rfl rfl rfl rfl (fun b6 => ?_)
      apply HB.fold
      refine HB.all (by (exact Keep.blk (cs := ws S.l) memD rfl (Keep.blk (cs := ws S.l) memD rfl (Keep.blk (cs := ws S.l) memD rfl (Keep.blk memD hw Keep.nil))))) [4] (by kernel_rfl) rfl ⟨⟨_, rfl, ?_⟩, trivial⟩
      refine HP.one ?_
      refine H1.call0 rfl rfl (fun w' hM => mixed_fn S.e [6, 11, 25] (by decide) w' (blk_rd (hM.blk memA) rfl) (by decide)) ?_
      apply HB.fold
      refine HB.pa 5 rfl ?_
      refine HB.pa 16 rfl ?_
      refine HB.pa 18 rfl ?_
      refine HB.pa 22 rfl ?_
      refine HB.pa 23 rfl ?_
      refine HB.done (by (exact Keep.blk (cs := ws S.l) memD rfl (Keep.blk (cs := ws S.l) memD rfl (Keep.blk (cs := ws S.l) memD rfl (Keep.blk memD hw Keep.nil))))) (by kernel_rfl) ?_
      refine hwDE ?_
      refine HC.sub [(0, .pointer (some ⟨bh, 0, none⟩)), (4, .pointer (some ⟨b4, 0, none⟩)), (5, .pointer (some ⟨b5, 0, none⟩)), (18, .agg (ws kL).toArray), (19, zv (i : Int)), (8, w32 S.a), (10, w32 (rT (kW i) (wW l i) S))]
        (A.blk b5 (ws S.l) 161 :: A.blk b4 (schW l 64) 226 :: A.blk bh (ws s.l) 161 :: H) ?_ esA (Hs.refl _).skip
      refine HC.anyC ([(⟨b5, 1, none⟩, w32 S.b), (⟨b5, 2, none⟩, w32 S.c)]) rfl ?_
      refine HB.pa 0 rfl ?_
      refine HB.pa 3 rfl ?_
      refine HB.pa 4 rfl ?_
      refine HB.ld 5 rfl rfl memD ?_
      refine HB.pa 6 rfl ?_
      refine HB.pa 7 rfl ?_
      refine HB.pa 8 rfl ?_
      refine HB.ld 9 rfl rfl memD ?_
      refine HB.pa 10 rfl ?_
      refine HB.pa 11 rfl ?_
      refine HB.pa 12 rfl ?_
      refine HB.ld 13 rfl rfl memD ?_
      refine HB.pa 14 rfl ?_
      refine HB.ld 15 rfl rfl memD ?_
      refine HB.pa 16 rfl ?_
      refine HB.pa 17 rfl ?_
      refine HB.all (by (exact Keep.blk (cs := ws S.l) memD rfl (Keep.blk (cs := ws S.l) memD rfl Keep.nil))) [1] (by kernel_rfl) rfl ⟨⟨_, rfl, ?_⟩, trivial⟩
      refine HP.one ?_
      refine H1.lit (cs := nats [2, 13, 22]) rfl rfl rfl rfl rfl rfl (fun b7 => ?_)
      apply HB.fold
      refine HB.all (by (exact Keep.blk (cs := ws S.l) memD rfl (Keep.blk (cs := ws S.l) memD rfl Keep.nil))) [2] (by kernel_rfl) rfl ⟨⟨_, rfl, ?_⟩, trivial⟩
      refine HP.one ?_
      refine H1.call0 rfl rfl (fun w' hM => mixed_fn S.a [2, 13, 22] (by decide) w' (blk_rd (hM.blk memA) rfl) (by decide)) ?_
      apply HB.fold
      refine HB.pa 18 rfl ?_
      refine HB.pa 19 rfl ?_
      refine HB.done (by (exact Keep.blk (cs := ws S.l) memD rfl (Keep.blk (cs := ws S.l) memD rfl Keep.nil))) (by kernel_rfl) ?_
      refine hwDE ?_
      refine HC.sub [(0, .pointer (some ⟨bh, 0, none⟩)), (4, .pointer (some ⟨b4, 0, none⟩)), (5, .pointer (some ⟨b5, 0, none⟩)), (18, .agg (ws kL).toArray), (19, zv (i : Int)), (10, w32 (rT (kW i) (wW l i) S)), (11, w32 (rU S))]
        (A.blk b5 (ws S.l) 161 :: A.blk b4 (schW l 64) 226 :: A.blk bh (ws s.l) 161 :: H) ?_ esA (Hs.refl _).skip
      generalize hT : rT (kW i) (wW l i) S = T
      generalize hU : rU S = U
      have hstep' : rnds l s (i + 1) = ⟨T + U, S.a, S.b, S.c, S.d + T, S.e, S.f, S.g⟩ := by rw [hstep, ← hT, ← hU]; rfl
      refine HC.any rfl ?_
      refine HA.pa 0 rfl ?_ (POp.arr_lo (i := 1) rfl rfl rfl (by decide))
      refine HA.pa 1 rfl ?_ (POp.arr_hi (i := 7) rfl rfl rfl (by decide))
      refine HA.all [2] (by kernel_rfl) rfl ⟨⟨_, rfl, ?_⟩, trivial⟩
      refine HO.one ?_
      refine H1.copyB (cur := ws S.l) (cs := ws [S.a, S.b, S.c, S.d, S.e, S.f, S.g]) (cur' := ws [S.a, S.a, S.b, S.c, S.d, S.e, S.f, S.g]) rfl rfl rfl (fun w' hM j v hv => ?_) ws_one (by simp [ws, S8.l]) rfl rplA rfl ?_
      · rw [add_lit, Nat.zero_add]
        refine (hM.blk (cs := ws S.l) memA).cell ?_
        have hj : j < 7 := (List.getElem?_eq_some_iff.1 hv).1
        match j, hj, hv with
        | 0, _, h | 1, _, h | 2, _, h | 3, _, h | 4, _, h | 5, _, h | 6, _, h => exact h
      apply HA.fold
      refine HA.done (by kernel_rfl) ?_
      refine hwDE ?_
      refine HL.one (H1.st rfl rfl (by intro _ h; cases h) (by intro _ h; cases h) rplA (by simp [ws]) ?_)
      refine hwDE ?_
      refine HL.one (H1.st rfl rfl (by intro _ h; cases h) (by intro _ h; cases h) rplA (by simp [ws]) ?_)
      refine hwDE ?_
      refine HX.again (i + 1) hlt (by show 64 - (i + 1) < 64 - i; omega) esA ?_
      rw [hstep']
      exact Hs.refl _
    · obtain rfl : i = 64 := by omega
      refine hwDE ?_
      exact HX.cut () trivial esA (Hs.cons Pick.here (Hs.refl _).skip)
  rintro - -
  have hv : ∀ i, i < 8 → (ws (rnds l s 64).l)[i]? = some (w32 ((rnds l s 64).l.getD i 0)) := fun i h => S8.get h
  rw [show comp s l = s.add (rnds l s 64) from rfl]
  generalize rnds l s 64 = V at hv
  refine hwDE ?_
  refine HC.loop (α := Nat) (fun i => [(0, .pointer (some ⟨bh, 0, none⟩)), (5, .pointer (some ⟨b5, 0, none⟩)), (82, zv (i : Int))])
    (fun i => A.blk b5 (ws V.l) 161 :: A.blk bh (addL s V i) 161 :: H) (fun i => i ≤ 8) (fun i => 8 - i) 0 (Nat.zero_le _) esA (Hs.refl _) ?_
  rintro i hi
  by_cases hlt : i < 8
  · have h1 := hv i hlt
    have h2 := addL_get (s := s) (v := V) hlt
    have h3 := addL_set (s := s) (v := V) (i := i)
    refine hwDE ?_
    refine HC.anyC ([(⟨b5, i, none⟩, w32 (V.l.getD i 0))]) rfl ?_
    refine HB.pa 0 rfl ?_
    refine HB.pa 1 rfl ?_
    refine HB.pa 2 rfl ?_ (POp.nilCheck rfl)
    refine HB.pa 3 rfl ?_
    refine HB.pa 5 rfl ?_
    refine HB.pa 6 rfl ?_
    refine HB.ld 7 rfl rfl memD ?_
    refine HB.pa 9 rfl ?_ (POp.nilCheck rfl)
    refine HB.all (by (exact Keep.blk memD h1 Keep.nil)) [4] (by kernel_rfl) rfl ⟨⟨_, rfl, ?_⟩, trivial⟩
    refine HP.one ?_
    refine H1.ldb rfl memA h2 rfl ?_
    apply HB.fold
    refine HB.pa 8 rfl ?_
    refine HB.pa 10 rfl ?_
    refine HB.all (by (exact Keep.blk memD h1 Keep.nil)) [11] (by kernel_rfl) rfl ⟨⟨_, rfl, ?_⟩, trivial⟩
    refine HP.one ?_
    refine H1.st (b := bh) rfl rfl (by intro _ h; cases h) (by intro _ h; cases h) rplA (by unfold addL; rw [row_len]; exact hlt) ?_
    rw [h3]
    apply HB.fold
    refine HB.done (by (exact Keep.blk memD h1 Keep.nil)) (by kernel_rfl) ?_
    refine hwDE ?_
    exact HX.again (i + 1) hlt (by show 8 - (i + 1) < 8 - i; omega) esA (Hs.refl _)
  · obtain rfl : i = 8 := by omega
    refine hwDE ?_
    exact HX.end0 rfl fun w' hM => ⟨rfl, hM.tail⟩
end Go.Sx
/-
  The layer with atoms: bytes of a string to which more is added; strings out of bytes.
-/
namespace Go.Sx
open Go Go.RowKit
/-- Cells that may grow; nothing of them is shared with a string. -/
def A.gb (e : TypeId) (b c n : Nat) (xs : List Value) : Atom :=
  A.obj b fun o => ∃ cur fz, o = .cells cur e fz ∧ (∀ q, q < cur.size → ¬ (fz.1 ≤ q ∧ q < fz.2)) ∧ n ≤ c ∧ cur.size = c ∧ cur.toList.take n = xs ∧ xs.length = n
theorem Mm.gb {w0 w : World} {H : List Atom} {e : TypeId} {b c n : Nat} {xs : List Value} (h : Mm w0 H w) (hm : A.gb e b c n xs ∈ H) :
    ∃ cur fz, w.heap[b]? = some (.cells cur e fz) ∧ (∀ q, q < cur.size → ¬ (fz.1 ≤ q ∧ q < fz.2)) ∧ n ≤ c ∧ cur.size = c ∧ cur.toList.take n = xs ∧ xs.length = n := by
  obtain ⟨o, h1, cur, fz, rfl, h2⟩ := h.obj hm
  exact ⟨cur, fz, h1, h2⟩
theorem gb_cell {w0 w : World} {H : List Atom} {e : TypeId} {b c n : Nat} {xs : List Value} (h : Mm w0 H w) (hm : A.gb e b c n xs ∈ H) {j : Nat} {v : Value} (hv : xs[j]? = some v) : w.cell? ⟨b, j, none⟩ = some v := by
  obtain ⟨cur, fz, h1, -, h3, h4, h5, h6⟩ := h.gb hm
  have hj : j < n := by have := (List.getElem?_eq_some_iff.1 hv).1; omega
  rw [← h5, List.getElem?_take_of_lt hj] at hv
  simp only [World.cell?, h1]
  simpa using hv
theorem gb_rd {w0 w : World} {H : List Atom} {e : TypeId} {b c n off m c2 : Nat} {xs : List Value} (h : Mm w0 H w) (hm : A.gb e b c n xs ∈ H) (h1 : off + m ≤ n) (h2 : m ≤ c2) : Rd w (.slice (some ⟨b, off, none⟩) m c2) ((xs.drop off).take m) := by
  have hl : ((xs.drop off).take m).length = m := by
    obtain ⟨cur, fz, -, -, -, -, -, h6⟩ := h.gb hm
    rw [List.length_take, List.length_drop, h6]; omega
  refine ⟨some ⟨b, off, none⟩, c2, by rw [hl], by rw [hl]; exact h2, .inr ⟨b, off, rfl, ?_, fun i u hu => ?_⟩⟩
  · obtain ⟨cur, fz, hb, -⟩ := h.gb hm
    exact (Array.getElem?_eq_some_iff.1 hb).1
  · have hi : i < m := by have := (List.getElem?_eq_some_iff.1 hu).1; omega
    rw [List.getElem?_take_of_lt hi, List.getElem?_drop] at hu
    exact gb_cell h hm hu
section
variable {P : Program} {r : Option Nat} {N : Nat} {ds : List Deferred} {ol rest : List Oper} {Q : Post} {E : Env} {w0 : World} {H : List Atom} {next : Act → World → Prop} {g : Option (Nat × Bool)}
variable {d : Nat} {t ty : TypeId} {pos : String} {af : Array Edge} {x y : Operand}
theorem H1.sgb {src dst e : TypeId} {s : ByteArray} [hs : UTy P src .string] [hd' : UTy P dst (.slice e)] [he : UTy P e (.int .u8)] (hx : Env.ev E x = some (.string s)) (hd : Nat.blt d N = true)
    (h : ∀ b c, HN N ds next ((d, .slice (some ⟨b, 0, none⟩) s.size c) :: E) w0 (A.gb e b c s.size (ub s.data.toList) :: H)) : H1 P r N ds next ⟨some d, .convert src dst x, ty, pos, af, g⟩ Q E w0 H := fun w hM => by
  have hrun := run_bytes_of_string (P := P) w src dst e s hs.is hd'.is he.is
  have hge := grownCap_ge w s.size 0 e
  obtain ⟨R, hR⟩ : ∃ R, R = bytesRow s (grownCap w s.size 0 e) := ⟨_, rfl⟩
  rw [← hR] at hrun
  have hsz : s.data.size = s.size := rfl
  refine W1.run (v := .slice (some ⟨w.heap.size, 0, none⟩) s.size (grownCap w s.size 0 e)) (w' := w.drew.alloc (.cells R e (R.size, R.size + 1))) (fun a ha => ?_) rfl hd (h w.heap.size (grownCap w s.size 0 e) _ ?_)
  · simp only [execOp, ha.ev hx, Sem.run_bind, hrun, Result.andThen, Sem.run_pure]
  · refine (hM.more ((Ext.drew w).trans (Ext.alloc w.drew _))).cons ⟨_, heap_alloc_new w.drew _, _, _, rfl, fun q hq hh => ?_, hge, ?_, ?_, ?_⟩ (by simp [A.gb, A.obj]) fun b hb => ?_
    · have := hh.1
      simp only at this
      omega
    · rw [hR]; simp only [bytesRow, Array.size_append, Array.size_map, Array.size_replicate]; omega
    · rw [hR]
      simp only [bytesRow, Array.toList_append, Array.toList_map]
      rw [List.take_append_of_le_length (by rw [List.length_map, Array.length_toList]; omega), List.take_of_length_le (by rw [List.length_map, Array.length_toList]; omega)]
      rfl
    · unfold ub; rw [List.length_map, Array.length_toList]; omega
    · have hb' : b = w.heap.size := by simpa [A.gb, A.obj] using hb
      subst hb'
      refine ⟨fun hm => ?_, hM.ext.size, by simp⟩
      have := (hM.rng _ hm).2
      omega
theorem H1.appG1 {e : TypeId} {z u : Value} {bb n c b b2 : Nat} {xs : List Value} {H' : Nat → Nat → List Atom} [h : UTy P t (.slice e)] [hi : ITy P e z 1 bb]
    (hx : Env.ev E x = some (.slice (some ⟨b, 0, none⟩) n c)) (hy : Env.ev E y = some (.slice (some ⟨b2, 0, none⟩) 1 1)) (hr : ∀ b' c', Rpl (A.gb e b c n xs) (A.gb e b' c' (n + 1) (xs ++ [u])) H (H' b' c'))
    (hm : A.blk b2 [u] e ∈ H) (h1 : u.oneCell' = true) (hzs : z.cells.size = 1) (hnm : n + 1 ≤ 1000000) (hb : Nat.ble bb 1000 = true) (hd : Nat.blt d N = true)
    (hn : ∀ b' c', HN N ds next ((d, .slice (some ⟨b', 0, none⟩) (n + 1) c') :: E) w0 (H' b' c')) :
    H1 P r N ds next ⟨some d, .call ⟨.builtin .append, #[x, y], #[t, t]⟩, ty, pos, af, g⟩ Q E w0 H := fun w hM => by
  obtain ⟨i, hi1, hi2, hi3, hi4⟩ := hi.parts
  obtain ⟨cur, fz, hb1, hfz, hnc, hcs, htk, hxl⟩ := hM.gb (hr 0 0).mem
  have hnews : ∀ j v, [u][j]? = some v → w.cell? ((⟨b2, 0, none⟩ : Addr).add j) = some v := fun j v hj => by
    rw [add_lit, Nat.zero_add]
    exact (hM.blk hm).cell hj
  have hlc : cur.toList.length = c := by simpa using hcs
  by_cases hroom : n + 1 ≤ c
  · have hst := run_storeCells_cells (P := P) b n [u] 0 w (fun j hj => by
      have hj0 : j = 0 := by simpa using hj
      subst hj0
      have hlt : n < cur.size := by omega
      simp [World.cell?, hb1, hlt]) (fun j hj => by
      have hj0 : j = 0 := by simpa using hj
      subst hj0
      have := hfz n (by omega)
      simp only [World.frozen?, hb1, Nat.add_zero]
      simpa using this) (by simpa using h1)
    have hf := run_firstCells_some (P := P) w i.size 1 ⟨b2, 0, none⟩ 1 1 [u] (by rw [hi3]; rfl) hnews
    rw [hi3] at hf
    have hrun : (Builtin.append_ #[t, t] ty #[.slice (some ⟨b, 0, none⟩) n c, .slice (some ⟨b2, 0, none⟩) 1 1]).run P w = .ok (.slice (some ⟨b, 0, none⟩) (n + 1) c) (w.setCells b n [u]) := by
      simp only [Nat.add_zero] at hst
      simp [Builtin.append_, run_underlying h.is, sizeOf, typeInfo, hi1, Builtin.lenOf, hroom, hf, Addr.add_lit, hi3, hst]
    have hnew : (w.setCells b n [u]).heap[b]? = some (.cells (cur.setIfInBounds n u) e fz) := by
      simp [World.setCells, World.setCell, Array.getElem?_modify, hb1]
    refine W1.run (v := .slice (some ⟨b, 0, none⟩) (n + 1) c) (w' := w.setCells b n [u]) (fun a ha => ?_) rfl hd (hn b c _ (hM.turn (hr b c) ?_ ?_ ?_ (by simp [World.setCells, World.setCell]) (fun q hq hq' => ?_) ⟨_, hnew, _, _, rfl, fun q hq => hfz q (by simpa using hq), hroom, by simpa using hcs, ?_, by simp [hxl]⟩ (by simp [A.gb, A.obj]) fun b' hb' => .inl hb'))
    · simp only [execOp, resolve, invoke, Go.builtin, Sem.run_bind, Sem.run_pure, Result.andThen, List.map_toArray, List.map_cons, List.map_nil, ha.ev hx, ha.ev hy, hrun]
    · simp [World.setCells, World.setCell]
    · simp [World.setCells, World.setCell]
    · simp [World.setCells, World.setCell]
    · have hne : ¬ b = q := fun e => hq' (by simp [A.gb, A.obj, e])
      simp [World.setCells, World.setCell, Array.getElem?_modify, hne]
    · rw [Array.toList_setIfInBounds, List.take_succ_eq_append_getElem (by rw [List.length_set]; omega), List.getElem_set_self, List.take_set, htk]
      rw [List.set_eq_of_length_le (by omega)]
  · have hrun := run_append_grow (P := P) (w := w) t ty e i z h.is hi1 hi2 ⟨b, 0, none⟩ n c xs (by rw [hi3, hxl]; omega) (fun j v hv => by
      rw [add_lit, Nat.zero_add]; exact gb_cell hM (hr 0 0).mem hv) ⟨b2, 0, none⟩ 1 1 [u] (by rw [hi3]; rfl) hnews (by omega) (by omega) (growslice_fits (by omega) (Nat.le_trans (Nat.mul_le_mul hnm (by rw [hi4]; exact Nat.le_of_ble_eq_true hb)) (by decide)))
    have hge := grownCap_ge w (n + 1) c e
    have hM2 := hM
    refine W1.run (v := .slice (some ⟨w.heap.size, 0, none⟩) (n + 1) (grownCap w (n + 1) c e)) (w' := w.drew.alloc (.cells (xs.toArray ++ [u].toArray ++ Builtin.zeroCells z.cells (grownCap w (n + 1) c e - (n + 1))) e)) (fun a ha => ?_) rfl hd
      (hn _ _ _ (hM.turn (hr _ _) rfl rfl rfl (by simp) (fun q hq hq' => ?_) ⟨_, heap_alloc_new w.drew _, _, _, rfl, fun q _ hh => by simp at hh, hge, ?_, ?_, by simp [hxl]⟩ (by simp [A.gb, A.obj]) fun b' hb' => .inr ?_))
    · simp only [execOp, resolve, invoke, Go.builtin, Sem.run_bind, Sem.run_pure, Result.andThen, List.map_toArray, List.map_cons, List.map_nil, ha.ev hx, ha.ev hy, hrun]
    · exact (Ext.alloc w.drew _).block q hq
    · simp [Builtin.zeroCells, hzs, hxl]; omega
    · simp only [Array.toList_append]
      rw [List.take_append_of_le_length (by simp [hxl]), List.take_of_length_le (by simp [hxl])]
    · have hb' : b' = w.heap.size := by simpa [A.gb, A.obj] using hb'
      subst hb'
      exact ⟨Nat.le_refl _, by simp⟩
theorem H1.bstrB {dst e eb : TypeId} {b c : Nat} {ys : List UInt8} [h : UTy P t (.slice e)] [he : UTy P e (.int .u8)] [hs : UTy P dst .string] (hx : Env.ev E x = some (.slice (some ⟨b, 0, none⟩) ys.length c)) (hm : A.blk b (ub ys) eb ∈ H)
    (hd : Nat.blt d N = true) (hn : HN N ds next ((d, .string ⟨ys.toArray⟩) :: E) w0 H) : H1 P r N ds next ⟨some d, .convert t dst x, ty, pos, af, g⟩ Q E w0 H := fun w hM =>
  W1.bytes_string hx rfl (fun j hj => by
    rw [add_lit, Nat.zero_add]
    exact (hM.blk hm).cell (by simp [ub, hj])) hd (hn w hM)
theorem POp.cut3 {e : TypeId} {b off l c lo hi mx : Nat} {z : Value} {sz bb : Nat} {k1 k2 k3 : IntKind} {n1 n2 n3 : Int} {y1 y2 y3 : Operand} [h : UTy P t (.slice e)] [hi' : ITy P e z sz bb] (hx : Env.ev E x = some (.slice (some ⟨b, off, none⟩) l c))
    (h1 : Env.ev E y1 = some (.int k1 n1)) (h2 : Env.ev E y2 = some (.int k2 n2)) (h3 : Env.ev E y3 = some (.int k3 n3)) (e1 : n1 = (lo : Int)) (e2 : n2 = (hi : Int)) (e3 : n3 = (mx : Int)) (h4 : lo ≤ hi) (h5 : hi ≤ mx) (h6 : mx ≤ c) (hne : lo < mx) :
    POp P N ds E (.slice t x (some y1) (some y2) (some y3)) ty (.slice (some ⟨b, off + lo * sz, none⟩) (hi - lo) (mx - lo)) := fun a ha d pos af g w => by
  subst e1; subst e2; subst e3
  have hc : ¬ mx = lo := by omega
  simp [execOp, ha.ev hx, ha.ev h1, ha.ev h2, ha.ev h3, Instr.sliceAt, Instr.slice, run_underlying h.is, Instr.sliceBounds, run_bound (show (0 : Int) ≤ (mx : Int) by omega) (show (mx : Int) ≤ ((c : Nat) : Int) by omega),
    run_bound (show (0 : Int) ≤ (hi : Int) by omega) (show (hi : Int) ≤ ((mx : Nat) : Int) by omega), run_bound (show (0 : Int) ≤ (lo : Int) by omega) (show (lo : Int) ≤ ((hi : Nat) : Int) by omega), Sem.run_bind, run_sizeOf, hc, add_lit]
end
end Go.Sx
/-
  The layer with atoms: parts of a block that are stored whole; strings copied into a block; slices of the call's own that are cleared and cut.
-/
namespace Go.Sx
open Go Go.RowKit
theorem ownsRow_cut {w : World} {base c n sz : Nat} {e : TypeId} {a : Option Addr} {xs : List Value} (h : w.ownsRow base e sz (.slice a n c) n xs) : w.ownsRow base e sz (.slice a 0 c) 0 [] := by
  rcases h.2 with ⟨hv, -⟩ | ⟨g, cap, cur, hv, hb, hg, hnc, hcm, hcs, htk⟩
  · cases hv
    exact ⟨by simp, .inl ⟨rfl, rfl⟩⟩
  · cases hv
    exact ⟨by simp, .inr ⟨g, c, cur, rfl, hb, hg, Nat.zero_le _, hcm, hcs, by simp⟩⟩
section
variable {P : Program} {r : Option Nat} {N : Nat} {ds : List Deferred} {ol rest : List Oper} {Q : Post} {E : Env} {w0 : World} {H : List Atom} {next : Act → World → Prop} {g : Option (Nat × Bool)}
variable {d : Option Nat} {t ty : TypeId} {pos : String} {af : Array Edge} {x y : Operand}
theorem HL.growCut {l : List Oper} {e : TypeId} {sz c n : Nat} {a : Option Addr} {xs : List Value} {H' : List Atom} (hr : Rpl (A.grow e sz a c n xs) (A.grow e sz a c 0 []) H H') (h : HL P r N ds ol l Q E w0 H') : HL P r N ds ol l Q E w0 H := fun w hM =>
  h w (hM.turn hr rfl rfl rfl (Nat.le_refl _) (fun _ _ _ => rfl) (ownsRow_cut (hM.own hr.mem)) (by cases a <;> simp [A.grow, Value.ownBlock]) (fun b hb => .inl (by cases a <;> exact hb)))
theorem H1.stAggO {b o : Nat} {cs cs' vs : List Value} {e : TypeId} {z : Value} {n bb : Nat} {H' : List Atom} [hi : ITy P t z n bb] (hx : Env.ev E x = some (.pointer (some ⟨b, o, none⟩))) (hy : Env.ev E y = some (.agg vs.toArray))
    (hn : vs.length = n) (h1 : ∀ v ∈ vs, v.oneCell' = true) (hl : o + vs.length ≤ cs.length) (he : cs.take o ++ vs ++ cs.drop (o + vs.length) = cs') (hr : Rpl (A.blk b cs e) (A.blk b cs' e) H H')
    (h : HN N ds next E w0 H') : H1 P r N ds next ⟨none, .store t x y, ty, pos, af, g⟩ Q E w0 H := fun w hM => by
  subst he
  have hb : w.heap[b]? = some (.cells cs.toArray e (0, 0)) := hM.blk hr.mem
  have hs := run_storeCells_at P b o e vs 0 cs.toArray w hb (by simpa using hl) h1
  simp only [Nat.add_zero] at hs
  refine W1.skip (w' := w.setRow b ((cs.take o ++ vs ++ cs.drop (o + vs.length)).toArray)) (fun a ha => ?_) rfl rfl (h _ (hM.turn hr rfl rfl rfl (by simp [World.setRow]) (fun q hq hq' => ?_) ?_ (by simp [A.blk]) fun b' hb' => .inl hb'))
  · simp only [execOp, ha.ev hx, ha.ev hy, Instr.storeAt, Instr.sureAddr, storeVar, Sem.run_bind, Sem.run_pure, Result.andThen]
    subst hn
    simp only [run_sizeOf, Value.cells, List.size_toArray, ne_eq, not_true, if_false]
    simp only [hs]
  · have hne : ¬ b = q := fun e => hq' (by simp [A.blk, e])
    simp [World.setRow, Array.getElem?_modify, hne]
  · show (w.setRow b _).heap[b]? = _
    simp [World.setRow, Array.getElem?_modify, hb]
/-- copy of a string, into a block of the call's own. -/
theorem H1.copyS {e eb t2 : TypeId} {z : Value} {bb b o dl dc : Nat} {s : ByteArray} {cur cur' : List Value} {H' : List Atom} [h : UTy P t (.slice e)] [hi' : ITy P e z 1 bb] (hx : Env.ev E x = some (.slice (some ⟨b, o, none⟩) dl dc)) (hy : Env.ev E y = some (.string s))
    (hn : s.size ≤ dl) (hfit : o + s.size ≤ cur.length) (he : cur.take o ++ ub s.data.toList ++ cur.drop (o + s.size) = cur')
    (hr : Rpl (A.blk b cur eb) (A.blk b cur' eb) H H') (hd : dOk d N = true) (hn' : HN N ds next (putE d (zv (s.size : Int)) E) w0 H') :
    H1 P r N ds next ⟨d, .call ⟨.builtin .copy, #[x, y], #[t, t2]⟩, ty, pos, af, g⟩ Q E w0 H := fun w hM => by
  subst he
  obtain ⟨i, hi1, hi2, hi3, hi4⟩ := hi'.parts
  have hb : w.heap[b]? = some (.cells cur.toArray eb (0, 0)) := hM.blk hr.mem
  have hl : (ub s.data.toList).length = s.size := by unfold ub; rw [List.length_map, Array.length_toList]; rfl
  have hst := run_storeCells_at P b o eb (ub s.data.toList) 0 cur.toArray w hb (by rw [hl]; simpa using hfit) (by
    intro v hv
    obtain ⟨x, -, rfl⟩ := List.mem_map.1 hv
    rfl)
  simp only [Nat.add_zero, hl] at hst
  have hmin : Nat.min s.size dl = s.size := Nat.min_eq_left hn
  have e3 : List.take s.size (List.map (fun b : UInt8 => Value.int .u8 ((b.toNat : Nat) : Int)) s.data.toList) = ub s.data.toList := by
    rw [List.take_of_length_le (by rw [List.length_map, Array.length_toList]; exact Nat.le_refl _)]; rfl
  have hrun : (Builtin.copy_ #[t, t2] ty #[.slice (some ⟨b, o, none⟩) dl dc, .string s]).run P w = .ok (goInt s.size) (w.setRow b (cur.take o ++ ub s.data.toList ++ cur.drop (o + s.size)).toArray) := by
    simp [Builtin.copy_, run_underlying h.is, sizeOf, typeInfo, hi1, Builtin.lenOf, Builtin.firstCells, hmin]
    rw [e3, hst]
    simp [Result.andThen]
  refine W1.run (v := zv (s.size : Int)) (w' := w.setRow b (cur.take o ++ ub s.data.toList ++ cur.drop (o + s.size)).toArray) (fun a ha => ?_) rfl hd (hn' _ (hM.turn hr rfl rfl rfl (by simp [World.setRow]) (fun q hq hq' => ?_) ?_ (by simp [A.blk]) fun b' hb' => .inl hb'))
  · simp only [execOp, resolve, invoke, Go.builtin, Sem.run_bind, Sem.run_pure, Result.andThen, List.map_toArray, List.map_cons, List.map_nil, ha.ev hx, ha.ev hy, hrun]; rfl
  · have hne : ¬ b = q := fun e => hq' (by simp [A.blk, e])
    simp [World.setRow, Array.getElem?_modify, hne]
  · show (w.setRow b _).heap[b]? = _
    simp [World.setRow, Array.getElem?_modify, hb]
/-- clear, on a slice of the call's own; it is cut to nothing behind it. -/
theorem H1.clearG {e : TypeId} {z : Value} {sz bb n c : Nat} {a : Option Addr} {xs : List Value} {H' : List Atom} {d : Option Nat} [h : UTy P t (.slice e)] [hi : ITy P e z sz bb] (hzs : z.cells.size = sz) (h1 : ∀ v ∈ z.cells.toList, v.oneCell' = true) (h0 : 0 < sz)
    (hx : Env.ev E x = some (.slice a n c)) (hr : Rpl (A.grow e sz a c n xs) (A.grow e sz a c n (Builtin.zeroCells z.cells n).toList) H H') (hd : dOk d N = true) (hn : HN N ds next (putE d (.tuple #[]) E) w0 H') :
    H1 P r N ds next ⟨d, .call ⟨.builtin .clear, #[x], #[t]⟩, ty, pos, af, g⟩ Q E w0 H := fun w hM => by
  have hown := hM.own hr.mem
  have hzl : (Builtin.zeroCells z.cells n).toList.length = n * sz := by simp [Builtin.zeroCells, hzs]
  have hz1 : ∀ v ∈ (Builtin.zeroCells z.cells n).toList, v.oneCell' = true := by
    intro v hv
    unfold Builtin.zeroCells at hv
    rw [Array.toList_map] at hv
    obtain ⟨i, -, rfl⟩ := List.mem_map.1 hv
    refine h1 _ ?_
    have hlt : i % z.cells.size < z.cells.size := Nat.mod_lt _ (by omega)
    rw [getElem!_pos z.cells (i % z.cells.size) hlt]
    exact Array.getElem_mem_toList hlt
  rcases hown.2 with ⟨hv, hn0⟩ | ⟨q, cap, cur, hv, hbq, hg, hnc, hcm, hcs, htk⟩
  · cases hv
    have hrun : (Builtin.clear_ #[t] ty #[.slice none 0 0]).run P w = .ok (.tuple #[]) w := by simp [Builtin.clear_, run_underlying h.is]
    refine W1.run (v := .tuple #[]) (w' := w) (fun b ha => ?_) rfl hd (hn _ (hM.turn hr rfl rfl rfl (Nat.le_refl _) (fun _ _ _ => rfl) ⟨hzl, .inl ⟨rfl, rfl⟩⟩ (by simp [A.grow, Value.ownBlock]) fun b' hb' => .inl hb'))
    simp only [execOp, resolve, invoke, Go.builtin, Sem.run_bind, Sem.run_pure, Result.andThen, List.map_toArray, List.map_cons, List.map_nil, ha.ev hx, hrun]
  · cases hv
    have hfit : n * sz ≤ cur.size := by rw [hcs]; exact Nat.mul_le_mul_right _ hnc
    have hst := run_storeCells_at P q 0 e (Builtin.zeroCells z.cells n).toList 0 cur w hg (by rw [hzl]; simpa using hfit) hz1
    simp only [Nat.add_zero, Nat.zero_add, List.take_zero, List.nil_append, hzl] at hst
    cases n with
    | zero =>
      have hrun : (Builtin.clear_ #[t] ty #[.slice (some ⟨q, 0, none⟩) 0 c]).run P w = .ok (.tuple #[]) w := by simp [Builtin.clear_, run_underlying h.is]
      refine W1.run (v := .tuple #[]) (w' := w) (fun b ha => ?_) rfl hd (hn _ (hM.turn hr rfl rfl rfl (Nat.le_refl _) (fun _ _ _ => rfl) ⟨hzl, .inr ⟨q, c, cur, rfl, hbq, hg, hnc, hcm, hcs, ?_⟩⟩ (by simp [A.grow, Value.ownBlock]) fun b' hb' => .inl hb'))
      · simp only [execOp, resolve, invoke, Go.builtin, Sem.run_bind, Sem.run_pure, Result.andThen, List.map_toArray, List.map_cons, List.map_nil, ha.ev hx, hrun]
      · have : (Builtin.zeroCells z.cells 0).toList = [] := List.eq_nil_of_length_eq_zero (by rw [hzl]; simp)
        rw [this]; simp
    | succ n =>
      have hrun : (Builtin.clear_ #[t] ty #[.slice (some ⟨q, 0, none⟩) (n + 1) c]).run P w = .ok (.tuple #[]) (w.setRow q ((Builtin.zeroCells z.cells (n + 1)).toList ++ cur.toList.drop ((n + 1) * sz)).toArray) := by
        simp [Builtin.clear_, run_underlying h.is, run_zeroValue (h := hi), hst]
      refine W1.run (v := .tuple #[]) (w' := w.setRow q ((Builtin.zeroCells z.cells (n + 1)).toList ++ cur.toList.drop ((n + 1) * sz)).toArray) (fun b ha => ?_) rfl hd (hn _ (hM.turn hr rfl rfl rfl (by simp [World.setRow]) (fun k hk hk' => ?_) ⟨hzl, .inr ⟨q, c, ((Builtin.zeroCells z.cells (n + 1)).toList ++ cur.toList.drop ((n + 1) * sz)).toArray, rfl, hbq, ?_, hnc, hcm, ?_, ?_⟩⟩ (by simp [A.grow, Value.ownBlock]) fun b' hb' => .inl hb'))
      · simp only [execOp, resolve, invoke, Go.builtin, Sem.run_bind, Sem.run_pure, Result.andThen, List.map_toArray, List.map_cons, List.map_nil, ha.ev hx, hrun]
      · have hne : ¬ q = k := fun e => hk' (by simp [A.grow, Value.ownBlock, e])
        simp [World.setRow, Array.getElem?_modify, hne]
      · exact setRow_heap w q _ _ e _ hg
      · rw [List.size_toArray, List.length_append, hzl, List.length_drop, Array.length_toList, hcs]; rw [hcs] at hfit; omega
      · rw [List.toList_toArray, List.take_append_of_le_length (by rw [hzl]; exact Nat.le_refl _), List.take_of_length_le (by rw [hzl]; exact Nat.le_refl _)]
theorem POp.pre_any {hi : Operand} {k' : IntKind} {n : Int} {e : TypeId} {a : Option Addr} {l c : Nat} {z : Value} {sz bb : Nat} [h : UTy P t (.slice e)] [hi' : ITy P e z sz bb]
    (hx : Env.ev E x = some (.slice a l c)) (hh : Env.ev E hi = some (.int k' n)) (h1 : 0 ≤ n) (h2 : n ≤ c) : POp P N ds E (.slice t x none (some hi) none) ty (.slice a n.toNat c) := by
  cases a with
  | none => exact POp.pre_hn hx hh h1 h2
  | some ad => exact POp.pre_hs hx hh h1 h2
theorem H1.bstrC {dst e : TypeId} {b off c n d : Nat} {ys : List UInt8} [h : UTy P t (.slice e)] [he : UTy P e (.int .u8)] [hs : UTy P dst .string] (hx : Env.ev E x = some (.slice (some ⟨b, off, none⟩) n c)) (hl : n = ys.length)
    (hc : ∀ w, Mm w0 H w → Rd w (.slice (some ⟨b, off, none⟩) n c) (ub ys)) (hd : Nat.blt d N = true) (hn : HN N ds next ((d, .string ⟨ys.toArray⟩) :: E) w0 H) : H1 P r N ds next ⟨some d, .convert t dst x, ty, pos, af, g⟩ Q E w0 H := fun w hM =>
  W1.bytes_string hx hl (fun j hj => by
    rw [add_lit]
    exact (hc w hM).cell (by simp [ub, hj])) hd (hn w hM)
end
end Go.Sx
/-
  More operations that ask nothing of the world: quotients and shifts of any number; a slice from an index on.
-/
namespace Go.Sx
open Go Go.RowKit
section
variable {P : Program} {N : Nat} {ds : List Deferred} {E : Env} {t ty t' : TypeId} {x y lo : Operand} {m n : Int} {k' : IntKind}
theorem POp.shrI {b : Nat} (hx : Env.ev E x = some (.int .i64 m)) (hy : Env.ev E y = some (.int k' n)) (en : n = (b : Int)) (h1 : b < 64) :
    POp P N ds E (.binOp .shr t x y t') ty (.int .i64 (m / 2 ^ b)) := POp.bin hx hy guard_int fun w => by
  subst en
  rw [binOp_shr, shift_shr_i64 k' m b (by omega) (by omega)]
  simp
theorem POp.cut_l {e : TypeId} {b off l c : Nat} {z : Value} {sz bb : Nat} [h : UTy P t (.slice e)] [hi' : ITy P e z sz bb] (hx : Env.ev E x = some (.slice (some ⟨b, off, none⟩) l c))
    (hl : Env.ev E lo = some (.int k' m)) (h0 : 0 ≤ m) (h1 : m ≤ l) (hne : m < c) :
    POp P N ds E (.slice t x (some lo) none none) ty (.slice (some ⟨b, off + m.toNat * sz, none⟩) (l - m.toNat) (c - m.toNat)) := fun a ha d pos af g w => by
  have hc : ¬ c = m.toNat := by omega
  simp [execOp, ha.ev hx, ha.ev hl, Instr.sliceAt, Instr.slice, run_underlying h.is, Instr.sliceBounds, run_bound h0 h1, Sem.run_bind, run_sizeOf, hc, add_lit]
theorem POp.cut_le {e : TypeId} {ad : Addr} {l : Nat} {z : Value} {sz bb : Nat} [h : UTy P t (.slice e)] [hi' : ITy P e z sz bb] (hx : Env.ev E x = some (.slice (some ad) l l))
    (hl : Env.ev E lo = some (.int k' (l : Int))) : POp P N ds E (.slice t x (some lo) none none) ty (.slice (some ad) 0 0) := fun a ha d pos af g w => by
  simp [execOp, ha.ev hx, ha.ev hl, Instr.sliceAt, Instr.slice, run_underlying h.is, Instr.sliceBounds, run_bound (show 0 ≤ (l : Int) by omega) (Int.le_refl _), Sem.run_bind, run_sizeOf]
end
end Go.Sx
