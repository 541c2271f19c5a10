/- Parts of the proof of the row: the ground, contracts of the functions that it reaches (Ty, SimN, SimK, SimL, SimM, P1, P2, P3, P4, L1, L2, L3, L4, L5, L6, L7, L8). Conditions: those that each theorem names. -/
import Derived.Test.YtfbcedjheempfaaProg
import Derived.KernelRfl
import Derived.Lib.Bytealg
import Derived.Test.YtfbcedjheempfaaB2
/- What is known of the types of this seat's program. Conditions: none. Written by types.py of this work. -/
namespace Go.Proofs.Ytfbcedjheempfaa
open Go Go.Sim Go.Proofs
theorem ti1 : ti Try.prog 1 = some ⟨1, 8, [.nilFunc], false⟩ := by kernel_rfl
theorem und2 : Try.prog.underlying 2 = some (.int .i64) := by kernel_rfl
theorem ti2 : ti Try.prog 2 = some ⟨1, 8, [.int .i64 0], false⟩ := by kernel_rfl
theorem und3 : Try.prog.underlying 3 = some (.int .i64) := by kernel_rfl
theorem ti3 : ti Try.prog 3 = some ⟨1, 8, [.int .i64 0], false⟩ := by kernel_rfl
theorem und4 : Try.prog.underlying 4 = some (.bool) := by kernel_rfl
theorem ti4 : ti Try.prog 4 = some ⟨1, 1, [.bool false], false⟩ := by kernel_rfl
theorem und5 : Try.prog.underlying 5 = some (.int .u8) := by kernel_rfl
theorem ti5 : ti Try.prog 5 = some ⟨1, 1, [.int .u8 0], false⟩ := by kernel_rfl
theorem und6 : Try.prog.underlying 6 = some (.int .u8) := by kernel_rfl
theorem ti6 : ti Try.prog 6 = some ⟨1, 1, [.int .u8 0], false⟩ := by kernel_rfl
theorem ti7 : ti Try.prog 7 = some ⟨4, 24, [.int .i64 0, .int .i64 0, .bool false, .int .u8 0], true⟩ := by kernel_rfl
theorem sti7 : sti Try.prog 7 = some ⟨4, 24, [.int .i64 0, .int .i64 0, .bool false, .int .u8 0], true⟩ := by kernel_rfl
theorem fi7_0 : fi Try.prog 7 0 = some (0, 1, false) := by kernel_rfl
theorem fi7_1 : fi Try.prog 7 1 = some (1, 1, false) := by kernel_rfl
theorem fi7_2 : fi Try.prog 7 2 = some (2, 1, false) := by kernel_rfl
theorem fi7_3 : fi Try.prog 7 3 = some (3, 1, false) := by kernel_rfl
theorem ti8 : ti Try.prog 8 = some ⟨4, 24, [.int .i64 0, .int .i64 0, .bool false, .int .u8 0], true⟩ := by kernel_rfl
theorem sti8 : sti Try.prog 8 = some ⟨4, 24, [.int .i64 0, .int .i64 0, .bool false, .int .u8 0], true⟩ := by kernel_rfl
theorem fi8_0 : fi Try.prog 8 0 = some (0, 1, false) := by kernel_rfl
theorem fi8_1 : fi Try.prog 8 1 = some (1, 1, false) := by kernel_rfl
theorem fi8_2 : fi Try.prog 8 2 = some (2, 1, false) := by kernel_rfl
theorem fi8_3 : fi Try.prog 8 3 = some (3, 1, false) := by kernel_rfl
theorem und9 : Try.prog.underlying 9 = some (.string) := by kernel_rfl
theorem ti9 : ti Try.prog 9 = some ⟨1, 16, [(.string ⟨#[]⟩)], false⟩ := by kernel_rfl
theorem und10 : Try.prog.underlying 10 = some (.string) := by kernel_rfl
theorem ti10 : ti Try.prog 10 = some ⟨1, 16, [(.string ⟨#[]⟩)], false⟩ := by kernel_rfl
theorem und11 : Try.prog.underlying 11 = some (.string) := by kernel_rfl
theorem ti11 : ti Try.prog 11 = some ⟨1, 16, [(.string ⟨#[]⟩)], false⟩ := by kernel_rfl
theorem und12 : Try.prog.underlying 12 = some (.int .u64) := by kernel_rfl
theorem ti12 : ti Try.prog 12 = some ⟨1, 8, [.int .u64 0], false⟩ := by kernel_rfl
theorem ti13 : ti Try.prog 13 = some ⟨2, 24, [(.string ⟨#[]⟩), .int .u64 0], true⟩ := by kernel_rfl
theorem sti13 : sti Try.prog 13 = some ⟨2, 24, [(.string ⟨#[]⟩), .int .u64 0], true⟩ := by kernel_rfl
theorem fi13_0 : fi Try.prog 13 0 = some (0, 1, false) := by kernel_rfl
theorem fi13_1 : fi Try.prog 13 1 = some (1, 1, false) := by kernel_rfl
theorem ti14 : ti Try.prog 14 = some ⟨2, 24, [(.string ⟨#[]⟩), .int .u64 0], true⟩ := by kernel_rfl
theorem sti14 : sti Try.prog 14 = some ⟨2, 24, [(.string ⟨#[]⟩), .int .u64 0], true⟩ := by kernel_rfl
theorem fi14_0 : fi Try.prog 14 0 = some (0, 1, false) := by kernel_rfl
theorem fi14_1 : fi Try.prog 14 1 = some (1, 1, false) := by kernel_rfl
theorem und15 : Try.prog.underlying 15 = some (.pointer 145) := by kernel_rfl
theorem ti15 : ti Try.prog 15 = some ⟨1, 8, [.pointer none], false⟩ := by kernel_rfl
theorem und16 : Try.prog.underlying 16 = some (.pointer 148) := by kernel_rfl
theorem ti16 : ti Try.prog 16 = some ⟨1, 8, [.pointer none], false⟩ := by kernel_rfl
theorem und17 : Try.prog.underlying 17 = some (.pointer 156) := by kernel_rfl
theorem ti17 : ti Try.prog 17 = some ⟨1, 8, [.pointer none], false⟩ := by kernel_rfl
theorem ti18 : ti Try.prog 18 = some ⟨1, 8, [.pointer none], true⟩ := by kernel_rfl
theorem sti18 : sti Try.prog 18 = some ⟨1, 8, [.pointer none], true⟩ := by kernel_rfl
theorem fi18_0 : fi Try.prog 18 0 = some (0, 1, false) := by kernel_rfl
theorem ti19 : ti Try.prog 19 = some ⟨1, 8, [.pointer none], true⟩ := by kernel_rfl
theorem sti19 : sti Try.prog 19 = some ⟨1, 8, [.pointer none], true⟩ := by kernel_rfl
theorem fi19_0 : fi Try.prog 19 0 = some (0, 1, false) := by kernel_rfl
theorem und21 : Try.prog.underlying 21 = some (.int .i32) := by kernel_rfl
theorem ti21 : ti Try.prog 21 = some ⟨1, 4, [.int .i32 0], false⟩ := by kernel_rfl
theorem ti22 : ti Try.prog 22 = some ⟨5, 48, [.int .i64 0, .int .i64 0, .int .i64 0, .int .i64 0, (.string ⟨#[]⟩)], true⟩ := by kernel_rfl
theorem sti22 : sti Try.prog 22 = some ⟨5, 48, [.int .i64 0, .int .i64 0, .int .i64 0, .int .i64 0, (.string ⟨#[]⟩)], true⟩ := by kernel_rfl
theorem fi22_0 : fi Try.prog 22 0 = some (0, 1, false) := by kernel_rfl
theorem fi22_1 : fi Try.prog 22 1 = some (1, 1, false) := by kernel_rfl
theorem fi22_2 : fi Try.prog 22 2 = some (2, 1, false) := by kernel_rfl
theorem fi22_3 : fi Try.prog 22 3 = some (3, 1, false) := by kernel_rfl
theorem fi22_4 : fi Try.prog 22 4 = some (4, 1, false) := by kernel_rfl
theorem ti23 : ti Try.prog 23 = some ⟨5, 48, [.int .i64 0, .int .i64 0, .int .i64 0, .int .i64 0, (.string ⟨#[]⟩)], true⟩ := by kernel_rfl
theorem seq23 (a0 b0 : Int) (a1 b1 : Int) (a2 b2 : Int) (a3 b3 : Int) (a4 b4 : ByteArray) : aeqB Try.prog 23 (.agg #[.int .i64 a0, .int .i64 a1, .int .i64 a2, .int .i64 a3, .string a4]) (.agg #[.int .i64 b0, .int .i64 b1, .int .i64 b2, .int .i64 b3, .string b4]) = some (decide (a0 = b0) && (decide (a1 = b1) && (decide (a2 = b2) && (decide (a3 = b3) && (decide (a4 = b4) && true))))) := by kernel_rfl
theorem sti23 : sti Try.prog 23 = some ⟨5, 48, [.int .i64 0, .int .i64 0, .int .i64 0, .int .i64 0, (.string ⟨#[]⟩)], true⟩ := by kernel_rfl
theorem fi23_0 : fi Try.prog 23 0 = some (0, 1, false) := by kernel_rfl
theorem fi23_1 : fi Try.prog 23 1 = some (1, 1, false) := by kernel_rfl
theorem fi23_2 : fi Try.prog 23 2 = some (2, 1, false) := by kernel_rfl
theorem fi23_3 : fi Try.prog 23 3 = some (3, 1, false) := by kernel_rfl
theorem fi23_4 : fi Try.prog 23 4 = some (4, 1, false) := by kernel_rfl
theorem ti24 : ti Try.prog 24 = some ⟨1, 8, [.nilFunc], false⟩ := by kernel_rfl
theorem ti25 : ti Try.prog 25 = some ⟨1, 8, [.nilFunc], false⟩ := by kernel_rfl
theorem ti26 : ti Try.prog 26 = some ⟨5, 48, [.int .i64 0, .int .i64 0, .int .i64 0, .int .i64 0, (.string ⟨#[]⟩)], true⟩ := by kernel_rfl
theorem seq26 (a0 b0 : Int) (a1 b1 : Int) (a2 b2 : Int) (a3 b3 : Int) (a4 b4 : ByteArray) : aeqB Try.prog 26 (.agg #[.int .i64 a0, .int .i64 a1, .int .i64 a2, .int .i64 a3, .string a4]) (.agg #[.int .i64 b0, .int .i64 b1, .int .i64 b2, .int .i64 b3, .string b4]) = some (decide (a0 = b0) && (decide (a1 = b1) && (decide (a2 = b2) && (decide (a3 = b3) && (decide (a4 = b4) && true))))) := by kernel_rfl
theorem sti26 : sti Try.prog 26 = some ⟨5, 48, [.int .i64 0, .int .i64 0, .int .i64 0, .int .i64 0, (.string ⟨#[]⟩)], true⟩ := by kernel_rfl
theorem fi26_0 : fi Try.prog 26 0 = some (0, 1, false) := by kernel_rfl
theorem fi26_1 : fi Try.prog 26 1 = some (1, 1, false) := by kernel_rfl
theorem fi26_2 : fi Try.prog 26 2 = some (2, 1, false) := by kernel_rfl
theorem fi26_3 : fi Try.prog 26 3 = some (3, 1, false) := by kernel_rfl
theorem fi26_4 : fi Try.prog 26 4 = some (4, 1, false) := by kernel_rfl
theorem ti27 : ti Try.prog 27 = some ⟨1, 8, [.nilFunc], false⟩ := by kernel_rfl
theorem ti28 : ti Try.prog 28 = some ⟨1, 8, [.nilFunc], false⟩ := by kernel_rfl
theorem und29 : Try.prog.underlying 29 = some (.slice 5) := by kernel_rfl
theorem si29 : si Try.prog 29 = some (5, ⟨1, 1, [.int .u8 0], false⟩) := by kernel_rfl
theorem ti29 : ti Try.prog 29 = some ⟨1, 24, [.slice none 0 0], false⟩ := by kernel_rfl
theorem ti30 : ti Try.prog 30 = some ⟨1, 8, [.nilFunc], false⟩ := by kernel_rfl
theorem und31 : Try.prog.underlying 31 = some (.slice 9) := by kernel_rfl
theorem si31 : si Try.prog 31 = some (9, ⟨1, 16, [(.string ⟨#[]⟩)], false⟩) := by kernel_rfl
theorem ti31 : ti Try.prog 31 = some ⟨1, 24, [.slice none 0 0], false⟩ := by kernel_rfl
theorem ti33 : ti Try.prog 33 = some ⟨1, 8, [.nilFunc], false⟩ := by kernel_rfl
theorem und34 : Try.prog.underlying 34 = some (.slice 31) := by kernel_rfl
theorem si34 : si Try.prog 34 = some (31, ⟨1, 24, [.slice none 0 0], false⟩) := by kernel_rfl
theorem ti34 : ti Try.prog 34 = some ⟨1, 24, [.slice none 0 0], false⟩ := by kernel_rfl
theorem ti35 : ti Try.prog 35 = some ⟨1, 8, [.nilFunc], false⟩ := by kernel_rfl
theorem ti36 : ti Try.prog 36 = some ⟨1, 8, [.nilFunc], false⟩ := by kernel_rfl
theorem ti38 : ti Try.prog 38 = some ⟨1, 8, [.nilFunc], false⟩ := by kernel_rfl
theorem ti39 : ti Try.prog 39 = some ⟨1, 8, [.nilFunc], false⟩ := by kernel_rfl
theorem ti40 : ti Try.prog 40 = some ⟨1, 8, [.nilFunc], false⟩ := by kernel_rfl
theorem ti41 : ti Try.prog 41 = some ⟨1, 8, [.nilFunc], false⟩ := by kernel_rfl
theorem ti42 : ti Try.prog 42 = some ⟨1, 8, [.nilFunc], false⟩ := by kernel_rfl
theorem ti43 : ti Try.prog 43 = some ⟨1, 8, [.nilFunc], false⟩ := by kernel_rfl
theorem ti45 : ti Try.prog 45 = some ⟨1, 8, [.nilFunc], false⟩ := by kernel_rfl
theorem ti46 : ti Try.prog 46 = some ⟨1, 8, [.nilFunc], false⟩ := by kernel_rfl
theorem ti47 : ti Try.prog 47 = some ⟨1, 8, [.nilFunc], false⟩ := by kernel_rfl
theorem und48 : Try.prog.underlying 48 = some (.slice 95) := by kernel_rfl
theorem si48 : si Try.prog 48 = some (95, ⟨2, 32, [(.string ⟨#[]⟩), (.string ⟨#[]⟩)], true⟩) := by kernel_rfl
theorem ti48 : ti Try.prog 48 = some ⟨1, 24, [.slice none 0 0], false⟩ := by kernel_rfl
theorem und49 : Try.prog.underlying 49 = some (.slice 98) := by kernel_rfl
theorem si49 : si Try.prog 49 = some (98, ⟨3, 48, [(.string ⟨#[]⟩), (.string ⟨#[]⟩), (.string ⟨#[]⟩)], true⟩) := by kernel_rfl
theorem ti49 : ti Try.prog 49 = some ⟨1, 24, [.slice none 0 0], false⟩ := by kernel_rfl
theorem ti50 : ti Try.prog 50 = some ⟨3, 64, [.slice none 0 0, .slice none 0 0, (.string ⟨#[]⟩)], true⟩ := by kernel_rfl
theorem sti50 : sti Try.prog 50 = some ⟨3, 64, [.slice none 0 0, .slice none 0 0, (.string ⟨#[]⟩)], true⟩ := by kernel_rfl
theorem fi50_0 : fi Try.prog 50 0 = some (0, 1, false) := by kernel_rfl
theorem fi50_1 : fi Try.prog 50 1 = some (1, 1, false) := by kernel_rfl
theorem fi50_2 : fi Try.prog 50 2 = some (2, 1, false) := by kernel_rfl
theorem ti51 : ti Try.prog 51 = some ⟨3, 64, [.slice none 0 0, .slice none 0 0, (.string ⟨#[]⟩)], true⟩ := by kernel_rfl
theorem sti51 : sti Try.prog 51 = some ⟨3, 64, [.slice none 0 0, .slice none 0 0, (.string ⟨#[]⟩)], true⟩ := by kernel_rfl
theorem fi51_0 : fi Try.prog 51 0 = some (0, 1, false) := by kernel_rfl
theorem fi51_1 : fi Try.prog 51 1 = some (1, 1, false) := by kernel_rfl
theorem fi51_2 : fi Try.prog 51 2 = some (2, 1, false) := by kernel_rfl
theorem ti53 : ti Try.prog 53 = some ⟨1, 8, [.nilFunc], false⟩ := by kernel_rfl
theorem ti54 : ti Try.prog 54 = some ⟨1, 8, [.nilFunc], false⟩ := by kernel_rfl
theorem ti55 : ti Try.prog 55 = some ⟨1, 8, [.nilFunc], false⟩ := by kernel_rfl
theorem ti56 : ti Try.prog 56 = some ⟨1, 8, [.nilFunc], false⟩ := by kernel_rfl
theorem ti57 : ti Try.prog 57 = some ⟨1, 8, [.nilFunc], false⟩ := by kernel_rfl
theorem und58 : Try.prog.underlying 58 = some (.slice 131) := by kernel_rfl
theorem si58 : si Try.prog 58 = some (131, ⟨2, 32, [(.string ⟨#[]⟩), (.string ⟨#[]⟩)], true⟩) := by kernel_rfl
theorem ti58 : ti Try.prog 58 = some ⟨1, 24, [.slice none 0 0], false⟩ := by kernel_rfl
theorem und59 : Try.prog.underlying 59 = some (.slice 133) := by kernel_rfl
theorem si59 : si Try.prog 59 = some (133, ⟨3, 48, [(.string ⟨#[]⟩), (.string ⟨#[]⟩), (.string ⟨#[]⟩)], true⟩) := by kernel_rfl
theorem ti59 : ti Try.prog 59 = some ⟨1, 24, [.slice none 0 0], false⟩ := by kernel_rfl
theorem ti60 : ti Try.prog 60 = some ⟨3, 64, [.slice none 0 0, .slice none 0 0, (.string ⟨#[]⟩)], true⟩ := by kernel_rfl
theorem sti60 : sti Try.prog 60 = some ⟨3, 64, [.slice none 0 0, .slice none 0 0, (.string ⟨#[]⟩)], true⟩ := by kernel_rfl
theorem fi60_0 : fi Try.prog 60 0 = some (0, 1, false) := by kernel_rfl
theorem fi60_1 : fi Try.prog 60 1 = some (1, 1, false) := by kernel_rfl
theorem fi60_2 : fi Try.prog 60 2 = some (2, 1, false) := by kernel_rfl
theorem ti61 : ti Try.prog 61 = some ⟨3, 64, [.slice none 0 0, .slice none 0 0, (.string ⟨#[]⟩)], true⟩ := by kernel_rfl
theorem sti61 : sti Try.prog 61 = some ⟨3, 64, [.slice none 0 0, .slice none 0 0, (.string ⟨#[]⟩)], true⟩ := by kernel_rfl
theorem fi61_0 : fi Try.prog 61 0 = some (0, 1, false) := by kernel_rfl
theorem fi61_1 : fi Try.prog 61 1 = some (1, 1, false) := by kernel_rfl
theorem fi61_2 : fi Try.prog 61 2 = some (2, 1, false) := by kernel_rfl
theorem ti62 : ti Try.prog 62 = some ⟨1, 8, [.nilFunc], false⟩ := by kernel_rfl
theorem ti63 : ti Try.prog 63 = some ⟨1, 8, [.nilFunc], false⟩ := by kernel_rfl
theorem ti64 : ti Try.prog 64 = some ⟨1, 8, [.nilFunc], false⟩ := by kernel_rfl
theorem ti66 : ti Try.prog 66 = some ⟨1, 8, [.nilFunc], false⟩ := by kernel_rfl
theorem ti67 : ti Try.prog 67 = some ⟨1, 8, [.nilFunc], false⟩ := by kernel_rfl
theorem ti68 : ti Try.prog 68 = some ⟨1, 8, [.nilFunc], false⟩ := by kernel_rfl
theorem ti69 : ti Try.prog 69 = some ⟨1, 8, [.nilFunc], false⟩ := by kernel_rfl
theorem ti70 : ti Try.prog 70 = some ⟨1, 8, [.nilFunc], false⟩ := by kernel_rfl
theorem und71 : Try.prog.underlying 71 = some (.pointer 115) := by kernel_rfl
theorem ti71 : ti Try.prog 71 = some ⟨1, 8, [.pointer none], false⟩ := by kernel_rfl
theorem ti72 : ti Try.prog 72 = some ⟨1, 8, [.nilFunc], false⟩ := by kernel_rfl
theorem ti73 : ti Try.prog 73 = some ⟨1, 8, [.nilFunc], false⟩ := by kernel_rfl
theorem und74 : Try.prog.underlying 74 = some (.slice 3) := by kernel_rfl
theorem si74 : si Try.prog 74 = some (3, ⟨1, 8, [.int .i64 0], false⟩) := by kernel_rfl
theorem ti74 : ti Try.prog 74 = some ⟨1, 24, [.slice none 0 0], false⟩ := by kernel_rfl
theorem ti75 : ti Try.prog 75 = some ⟨1, 8, [.nilFunc], false⟩ := by kernel_rfl
theorem ti76 : ti Try.prog 76 = some ⟨1, 8, [.nilFunc], false⟩ := by kernel_rfl
theorem ti77 : ti Try.prog 77 = some ⟨1, 8, [.nilFunc], false⟩ := by kernel_rfl
theorem ti78 : ti Try.prog 78 = some ⟨1, 8, [.nilFunc], false⟩ := by kernel_rfl
theorem ti79 : ti Try.prog 79 = some ⟨1, 8, [.nilFunc], false⟩ := by kernel_rfl
theorem ti80 : ti Try.prog 80 = some ⟨1, 8, [.nilFunc], false⟩ := by kernel_rfl
theorem und81 : Try.prog.underlying 81 = some (.pointer 83) := by kernel_rfl
theorem ti81 : ti Try.prog 81 = some ⟨1, 8, [.pointer none], false⟩ := by kernel_rfl
theorem ti82 : ti Try.prog 82 = some ⟨3, 32, [(.string ⟨#[]⟩), .int .i64 0, .bool false], true⟩ := by kernel_rfl
theorem seq82 (a0 b0 : ByteArray) (a1 b1 : Int) (a2 b2 : Bool) : aeqB Try.prog 82 (.agg #[.string a0, .int .i64 a1, .bool a2]) (.agg #[.string b0, .int .i64 b1, .bool b2]) = some (decide (a0 = b0) && (decide (a1 = b1) && ((a2 == b2) && true))) := by kernel_rfl
theorem sti82 : sti Try.prog 82 = some ⟨3, 32, [(.string ⟨#[]⟩), .int .i64 0, .bool false], true⟩ := by kernel_rfl
theorem fi82_0 : fi Try.prog 82 0 = some (0, 1, false) := by kernel_rfl
theorem fi82_1 : fi Try.prog 82 1 = some (1, 1, false) := by kernel_rfl
theorem fi82_2 : fi Try.prog 82 2 = some (2, 1, false) := by kernel_rfl
theorem ti83 : ti Try.prog 83 = some ⟨3, 32, [(.string ⟨#[]⟩), .int .i64 0, .bool false], true⟩ := by kernel_rfl
theorem seq83 (a0 b0 : ByteArray) (a1 b1 : Int) (a2 b2 : Bool) : aeqB Try.prog 83 (.agg #[.string a0, .int .i64 a1, .bool a2]) (.agg #[.string b0, .int .i64 b1, .bool b2]) = some (decide (a0 = b0) && (decide (a1 = b1) && ((a2 == b2) && true))) := by kernel_rfl
theorem sti83 : sti Try.prog 83 = some ⟨3, 32, [(.string ⟨#[]⟩), .int .i64 0, .bool false], true⟩ := by kernel_rfl
theorem fi83_0 : fi Try.prog 83 0 = some (0, 1, false) := by kernel_rfl
theorem fi83_1 : fi Try.prog 83 1 = some (1, 1, false) := by kernel_rfl
theorem fi83_2 : fi Try.prog 83 2 = some (2, 1, false) := by kernel_rfl
theorem ti84 : ti Try.prog 84 = some ⟨1, 8, [.nilFunc], false⟩ := by kernel_rfl
theorem und85 : Try.prog.underlying 85 = some (.pointer 87) := by kernel_rfl
theorem ti85 : ti Try.prog 85 = some ⟨1, 8, [.pointer none], false⟩ := by kernel_rfl
theorem ti86 : ti Try.prog 86 = some ⟨3, 32, [(.string ⟨#[]⟩), .int .i64 0, .bool false], true⟩ := by kernel_rfl
theorem seq86 (a0 b0 : ByteArray) (a1 b1 : Int) (a2 b2 : Bool) : aeqB Try.prog 86 (.agg #[.string a0, .int .i64 a1, .bool a2]) (.agg #[.string b0, .int .i64 b1, .bool b2]) = some (decide (a0 = b0) && (decide (a1 = b1) && ((a2 == b2) && true))) := by kernel_rfl
theorem sti86 : sti Try.prog 86 = some ⟨3, 32, [(.string ⟨#[]⟩), .int .i64 0, .bool false], true⟩ := by kernel_rfl
theorem fi86_0 : fi Try.prog 86 0 = some (0, 1, false) := by kernel_rfl
theorem fi86_1 : fi Try.prog 86 1 = some (1, 1, false) := by kernel_rfl
theorem fi86_2 : fi Try.prog 86 2 = some (2, 1, false) := by kernel_rfl
theorem ti87 : ti Try.prog 87 = some ⟨3, 32, [(.string ⟨#[]⟩), .int .i64 0, .bool false], true⟩ := by kernel_rfl
theorem seq87 (a0 b0 : ByteArray) (a1 b1 : Int) (a2 b2 : Bool) : aeqB Try.prog 87 (.agg #[.string a0, .int .i64 a1, .bool a2]) (.agg #[.string b0, .int .i64 b1, .bool b2]) = some (decide (a0 = b0) && (decide (a1 = b1) && ((a2 == b2) && true))) := by kernel_rfl
theorem sti87 : sti Try.prog 87 = some ⟨3, 32, [(.string ⟨#[]⟩), .int .i64 0, .bool false], true⟩ := by kernel_rfl
theorem fi87_0 : fi Try.prog 87 0 = some (0, 1, false) := by kernel_rfl
theorem fi87_1 : fi Try.prog 87 1 = some (1, 1, false) := by kernel_rfl
theorem fi87_2 : fi Try.prog 87 2 = some (2, 1, false) := by kernel_rfl
theorem ti88 : ti Try.prog 88 = some ⟨1, 8, [.nilFunc], false⟩ := by kernel_rfl
theorem ti89 : ti Try.prog 89 = some ⟨1, 8, [.nilFunc], false⟩ := by kernel_rfl
theorem ti90 : ti Try.prog 90 = some ⟨1, 8, [.nilFunc], false⟩ := by kernel_rfl
theorem ti91 : ti Try.prog 91 = some ⟨1, 8, [.nilFunc], false⟩ := by kernel_rfl
theorem ti92 : ti Try.prog 92 = some ⟨1, 8, [.nilFunc], false⟩ := by kernel_rfl
theorem ti93 : ti Try.prog 93 = some ⟨1, 8, [.nilFunc], false⟩ := by kernel_rfl
theorem ti94 : ti Try.prog 94 = some ⟨2, 32, [(.string ⟨#[]⟩), (.string ⟨#[]⟩)], true⟩ := by kernel_rfl
theorem sti94 : sti Try.prog 94 = some ⟨2, 32, [(.string ⟨#[]⟩), (.string ⟨#[]⟩)], true⟩ := by kernel_rfl
theorem fi94_0 : fi Try.prog 94 0 = some (0, 1, false) := by kernel_rfl
theorem fi94_1 : fi Try.prog 94 1 = some (1, 1, false) := by kernel_rfl
theorem ti95 : ti Try.prog 95 = some ⟨2, 32, [(.string ⟨#[]⟩), (.string ⟨#[]⟩)], true⟩ := by kernel_rfl
theorem seq95 (a0 b0 : ByteArray) (a1 b1 : ByteArray) : aeqB Try.prog 95 (.agg #[.string a0, .string a1]) (.agg #[.string b0, .string b1]) = some (decide (a0 = b0) && (decide (a1 = b1) && true)) := by kernel_rfl
theorem sti95 : sti Try.prog 95 = some ⟨2, 32, [(.string ⟨#[]⟩), (.string ⟨#[]⟩)], true⟩ := by kernel_rfl
theorem fi95_0 : fi Try.prog 95 0 = some (0, 1, false) := by kernel_rfl
theorem fi95_1 : fi Try.prog 95 1 = some (1, 1, false) := by kernel_rfl
theorem ti96 : ti Try.prog 96 = some ⟨1, 8, [.nilFunc], false⟩ := by kernel_rfl
theorem ti97 : ti Try.prog 97 = some ⟨3, 48, [(.string ⟨#[]⟩), (.string ⟨#[]⟩), (.string ⟨#[]⟩)], true⟩ := by kernel_rfl
theorem sti97 : sti Try.prog 97 = some ⟨3, 48, [(.string ⟨#[]⟩), (.string ⟨#[]⟩), (.string ⟨#[]⟩)], true⟩ := by kernel_rfl
theorem fi97_0 : fi Try.prog 97 0 = some (0, 1, false) := by kernel_rfl
theorem fi97_1 : fi Try.prog 97 1 = some (1, 1, false) := by kernel_rfl
theorem fi97_2 : fi Try.prog 97 2 = some (2, 1, false) := by kernel_rfl
theorem ti98 : ti Try.prog 98 = some ⟨3, 48, [(.string ⟨#[]⟩), (.string ⟨#[]⟩), (.string ⟨#[]⟩)], true⟩ := by kernel_rfl
theorem seq98 (a0 b0 : ByteArray) (a1 b1 : ByteArray) (a2 b2 : ByteArray) : aeqB Try.prog 98 (.agg #[.string a0, .string a1, .string a2]) (.agg #[.string b0, .string b1, .string b2]) = some (decide (a0 = b0) && (decide (a1 = b1) && (decide (a2 = b2) && true))) := by kernel_rfl
theorem sti98 : sti Try.prog 98 = some ⟨3, 48, [(.string ⟨#[]⟩), (.string ⟨#[]⟩), (.string ⟨#[]⟩)], true⟩ := by kernel_rfl
theorem fi98_0 : fi Try.prog 98 0 = some (0, 1, false) := by kernel_rfl
theorem fi98_1 : fi Try.prog 98 1 = some (1, 1, false) := by kernel_rfl
theorem fi98_2 : fi Try.prog 98 2 = some (2, 1, false) := by kernel_rfl
theorem ti99 : ti Try.prog 99 = some ⟨1, 8, [.nilFunc], false⟩ := by kernel_rfl
theorem ti100 : ti Try.prog 100 = some ⟨1, 8, [.nilFunc], false⟩ := by kernel_rfl
theorem ti101 : ti Try.prog 101 = some ⟨1, 8, [.nilFunc], false⟩ := by kernel_rfl
theorem ti102 : ti Try.prog 102 = some ⟨1, 8, [.nilFunc], false⟩ := by kernel_rfl
theorem ti103 : ti Try.prog 103 = some ⟨1, 8, [.nilFunc], false⟩ := by kernel_rfl
theorem ti104 : ti Try.prog 104 = some ⟨1, 8, [.nilFunc], false⟩ := by kernel_rfl
theorem ti105 : ti Try.prog 105 = some ⟨1, 8, [.nilFunc], false⟩ := by kernel_rfl
theorem ti106 : ti Try.prog 106 = some ⟨1, 8, [.nilFunc], false⟩ := by kernel_rfl
theorem ti107 : ti Try.prog 107 = some ⟨1, 8, [.nilFunc], false⟩ := by kernel_rfl
theorem ti108 : ti Try.prog 108 = some ⟨1, 8, [.nilFunc], false⟩ := by kernel_rfl
theorem ti109 : ti Try.prog 109 = some ⟨1, 8, [.nilFunc], false⟩ := by kernel_rfl
theorem ti110 : ti Try.prog 110 = some ⟨1, 8, [.nilFunc], false⟩ := by kernel_rfl
theorem ti111 : ti Try.prog 111 = some ⟨1, 8, [.nilFunc], false⟩ := by kernel_rfl
theorem ti112 : ti Try.prog 112 = some ⟨1, 8, [.nilFunc], false⟩ := by kernel_rfl
theorem ti113 : ti Try.prog 113 = some ⟨1, 8, [.nilFunc], false⟩ := by kernel_rfl
theorem ti114 : ti Try.prog 114 = some ⟨3, 40, [.slice none 0 0, .int .i64 0, .int .i64 0], true⟩ := by kernel_rfl
theorem sti114 : sti Try.prog 114 = some ⟨3, 40, [.slice none 0 0, .int .i64 0, .int .i64 0], true⟩ := by kernel_rfl
theorem fi114_0 : fi Try.prog 114 0 = some (0, 1, false) := by kernel_rfl
theorem fi114_1 : fi Try.prog 114 1 = some (1, 1, false) := by kernel_rfl
theorem fi114_2 : fi Try.prog 114 2 = some (2, 1, false) := by kernel_rfl
theorem ti115 : ti Try.prog 115 = some ⟨3, 40, [.slice none 0 0, .int .i64 0, .int .i64 0], true⟩ := by kernel_rfl
theorem sti115 : sti Try.prog 115 = some ⟨3, 40, [.slice none 0 0, .int .i64 0, .int .i64 0], true⟩ := by kernel_rfl
theorem fi115_0 : fi Try.prog 115 0 = some (0, 1, false) := by kernel_rfl
theorem fi115_1 : fi Try.prog 115 1 = some (1, 1, false) := by kernel_rfl
theorem fi115_2 : fi Try.prog 115 2 = some (2, 1, false) := by kernel_rfl
theorem ti116 : ti Try.prog 116 = some ⟨1, 8, [.nilFunc], false⟩ := by kernel_rfl
theorem ti117 : ti Try.prog 117 = some ⟨1, 8, [.nilFunc], false⟩ := by kernel_rfl
theorem ti118 : ti Try.prog 118 = some ⟨1, 8, [.nilFunc], false⟩ := by kernel_rfl
theorem und119 : Try.prog.underlying 119 = some (.int .u32) := by kernel_rfl
theorem ti119 : ti Try.prog 119 = some ⟨1, 4, [.int .u32 0], false⟩ := by kernel_rfl
theorem ti120 : ti Try.prog 120 = some ⟨1, 8, [.nilFunc], false⟩ := by kernel_rfl
theorem ti121 : ti Try.prog 121 = some ⟨1, 8, [.nilFunc], false⟩ := by kernel_rfl
theorem ti122 : ti Try.prog 122 = some ⟨1, 8, [.nilFunc], false⟩ := by kernel_rfl
theorem ti124 : ti Try.prog 124 = some ⟨1, 8, [.nilFunc], false⟩ := by kernel_rfl
theorem ti125 : ti Try.prog 125 = some ⟨1, 8, [.nilFunc], false⟩ := by kernel_rfl
theorem ti126 : ti Try.prog 126 = some ⟨1, 8, [.nilFunc], false⟩ := by kernel_rfl
theorem ti127 : ti Try.prog 127 = some ⟨1, 8, [.nilFunc], false⟩ := by kernel_rfl
theorem ti128 : ti Try.prog 128 = some ⟨1, 8, [.nilFunc], false⟩ := by kernel_rfl
theorem ti129 : ti Try.prog 129 = some ⟨1, 8, [.nilFunc], false⟩ := by kernel_rfl
theorem ti130 : ti Try.prog 130 = some ⟨1, 8, [.nilFunc], false⟩ := by kernel_rfl
theorem ti131 : ti Try.prog 131 = some ⟨2, 32, [(.string ⟨#[]⟩), (.string ⟨#[]⟩)], true⟩ := by kernel_rfl
theorem seq131 (a0 b0 : ByteArray) (a1 b1 : ByteArray) : aeqB Try.prog 131 (.agg #[.string a0, .string a1]) (.agg #[.string b0, .string b1]) = some (decide (a0 = b0) && (decide (a1 = b1) && true)) := by kernel_rfl
theorem sti131 : sti Try.prog 131 = some ⟨2, 32, [(.string ⟨#[]⟩), (.string ⟨#[]⟩)], true⟩ := by kernel_rfl
theorem fi131_0 : fi Try.prog 131 0 = some (0, 1, false) := by kernel_rfl
theorem fi131_1 : fi Try.prog 131 1 = some (1, 1, false) := by kernel_rfl
theorem ti132 : ti Try.prog 132 = some ⟨1, 8, [.nilFunc], false⟩ := by kernel_rfl
theorem ti133 : ti Try.prog 133 = some ⟨3, 48, [(.string ⟨#[]⟩), (.string ⟨#[]⟩), (.string ⟨#[]⟩)], true⟩ := by kernel_rfl
theorem seq133 (a0 b0 : ByteArray) (a1 b1 : ByteArray) (a2 b2 : ByteArray) : aeqB Try.prog 133 (.agg #[.string a0, .string a1, .string a2]) (.agg #[.string b0, .string b1, .string b2]) = some (decide (a0 = b0) && (decide (a1 = b1) && (decide (a2 = b2) && true))) := by kernel_rfl
theorem sti133 : sti Try.prog 133 = some ⟨3, 48, [(.string ⟨#[]⟩), (.string ⟨#[]⟩), (.string ⟨#[]⟩)], true⟩ := by kernel_rfl
theorem fi133_0 : fi Try.prog 133 0 = some (0, 1, false) := by kernel_rfl
theorem fi133_1 : fi Try.prog 133 1 = some (1, 1, false) := by kernel_rfl
theorem fi133_2 : fi Try.prog 133 2 = some (2, 1, false) := by kernel_rfl
theorem ti134 : ti Try.prog 134 = some ⟨1, 8, [.nilFunc], false⟩ := by kernel_rfl
theorem ti135 : ti Try.prog 135 = some ⟨1, 8, [.nilFunc], false⟩ := by kernel_rfl
theorem ti136 : ti Try.prog 136 = some ⟨1, 8, [.nilFunc], false⟩ := by kernel_rfl
theorem ti138 : ti Try.prog 138 = some ⟨1, 8, [.nilFunc], false⟩ := by kernel_rfl
theorem ti139 : ti Try.prog 139 = some ⟨1, 8, [.nilFunc], false⟩ := by kernel_rfl
theorem und140 : Try.prog.underlying 140 = some (.int .u64) := by kernel_rfl
theorem ti140 : ti Try.prog 140 = some ⟨1, 8, [.int .u64 0], false⟩ := by kernel_rfl
theorem ti141 : ti Try.prog 141 = some ⟨1, 8, [.nilFunc], false⟩ := by kernel_rfl
theorem ti142 : ti Try.prog 142 = some ⟨1, 8, [.nilFunc], false⟩ := by kernel_rfl
theorem ti143 : ti Try.prog 143 = some ⟨1, 8, [.nilFunc], false⟩ := by kernel_rfl
theorem ti144 : ti Try.prog 144 = some ⟨4, 40, [.pointer none, .pointer none, .pointer none, (.string ⟨#[]⟩)], true⟩ := by kernel_rfl
theorem sti144 : sti Try.prog 144 = some ⟨4, 40, [.pointer none, .pointer none, .pointer none, (.string ⟨#[]⟩)], true⟩ := by kernel_rfl
theorem fi144_0 : fi Try.prog 144 0 = some (0, 1, false) := by kernel_rfl
theorem fi144_1 : fi Try.prog 144 1 = some (1, 1, false) := by kernel_rfl
theorem fi144_2 : fi Try.prog 144 2 = some (2, 1, false) := by kernel_rfl
theorem fi144_3 : fi Try.prog 144 3 = some (3, 1, false) := by kernel_rfl
theorem ti145 : ti Try.prog 145 = some ⟨4, 40, [.pointer none, .pointer none, .pointer none, (.string ⟨#[]⟩)], true⟩ := by kernel_rfl
theorem sti145 : sti Try.prog 145 = some ⟨4, 40, [.pointer none, .pointer none, .pointer none, (.string ⟨#[]⟩)], true⟩ := by kernel_rfl
theorem fi145_0 : fi Try.prog 145 0 = some (0, 1, false) := by kernel_rfl
theorem fi145_1 : fi Try.prog 145 1 = some (1, 1, false) := by kernel_rfl
theorem fi145_2 : fi Try.prog 145 2 = some (2, 1, false) := by kernel_rfl
theorem fi145_3 : fi Try.prog 145 3 = some (3, 1, false) := by kernel_rfl
theorem ti147 : ti Try.prog 147 = some ⟨0, 0, [], true⟩ := by kernel_rfl
theorem sti147 : sti Try.prog 147 = some ⟨0, 0, [], true⟩ := by kernel_rfl
theorem fi147_0 : fi Try.prog 147 0 = some (0, 0, true) := by kernel_rfl
theorem ti148 : ti Try.prog 148 = some ⟨0, 0, [], true⟩ := by kernel_rfl
theorem sti148 : sti Try.prog 148 = some ⟨0, 0, [], true⟩ := by kernel_rfl
theorem fi148_0 : fi Try.prog 148 0 = some (0, 0, true) := by kernel_rfl
theorem und149 : Try.prog.underlying 149 = some (.int .u8) := by kernel_rfl
theorem ti149 : ti Try.prog 149 = some ⟨1, 1, [.int .u8 0], false⟩ := by kernel_rfl
theorem und150 : Try.prog.underlying 150 = some (.int .u8) := by kernel_rfl
theorem ti150 : ti Try.prog 150 = some ⟨1, 1, [.int .u8 0], false⟩ := by kernel_rfl
theorem ti151 : ti Try.prog 151 = some ⟨1, 8, [.nilFunc], false⟩ := by kernel_rfl
theorem und152 : Try.prog.underlying 152 = some (.pointer 5) := by kernel_rfl
theorem ti152 : ti Try.prog 152 = some ⟨1, 8, [.pointer none], false⟩ := by kernel_rfl
theorem und153 : Try.prog.underlying 153 = some (.int .i32) := by kernel_rfl
theorem ti153 : ti Try.prog 153 = some ⟨1, 4, [.int .i32 0], false⟩ := by kernel_rfl
theorem und154 : Try.prog.underlying 154 = some (.int .i32) := by kernel_rfl
theorem ti154 : ti Try.prog 154 = some ⟨1, 4, [.int .i32 0], false⟩ := by kernel_rfl
theorem ti155 : ti Try.prog 155 = some ⟨11, 48, [.int .u64 0, .int .u64 0, .int .u32 0, .int .u8 0, .int .u8 0, .int .u8 0, .int .u8 0, .nilFunc, .pointer none, .int .i32 0, .int .i32 0], true⟩ := by kernel_rfl
theorem sti155 : sti Try.prog 155 = some ⟨11, 48, [.int .u64 0, .int .u64 0, .int .u32 0, .int .u8 0, .int .u8 0, .int .u8 0, .int .u8 0, .nilFunc, .pointer none, .int .i32 0, .int .i32 0], true⟩ := by kernel_rfl
theorem fi155_0 : fi Try.prog 155 0 = some (0, 1, false) := by kernel_rfl
theorem fi155_1 : fi Try.prog 155 1 = some (1, 1, false) := by kernel_rfl
theorem fi155_2 : fi Try.prog 155 2 = some (2, 1, false) := by kernel_rfl
theorem fi155_3 : fi Try.prog 155 3 = some (3, 1, false) := by kernel_rfl
theorem fi155_4 : fi Try.prog 155 4 = some (4, 1, false) := by kernel_rfl
theorem fi155_5 : fi Try.prog 155 5 = some (5, 1, false) := by kernel_rfl
theorem fi155_6 : fi Try.prog 155 6 = some (6, 1, false) := by kernel_rfl
theorem fi155_7 : fi Try.prog 155 7 = some (7, 1, false) := by kernel_rfl
theorem fi155_8 : fi Try.prog 155 8 = some (8, 1, false) := by kernel_rfl
theorem fi155_9 : fi Try.prog 155 9 = some (9, 1, false) := by kernel_rfl
theorem fi155_10 : fi Try.prog 155 10 = some (10, 1, false) := by kernel_rfl
theorem ti156 : ti Try.prog 156 = some ⟨11, 48, [.int .u64 0, .int .u64 0, .int .u32 0, .int .u8 0, .int .u8 0, .int .u8 0, .int .u8 0, .nilFunc, .pointer none, .int .i32 0, .int .i32 0], true⟩ := by kernel_rfl
theorem sti156 : sti Try.prog 156 = some ⟨11, 48, [.int .u64 0, .int .u64 0, .int .u32 0, .int .u8 0, .int .u8 0, .int .u8 0, .int .u8 0, .nilFunc, .pointer none, .int .i32 0, .int .i32 0], true⟩ := by kernel_rfl
theorem fi156_0 : fi Try.prog 156 0 = some (0, 1, false) := by kernel_rfl
theorem fi156_1 : fi Try.prog 156 1 = some (1, 1, false) := by kernel_rfl
theorem fi156_2 : fi Try.prog 156 2 = some (2, 1, false) := by kernel_rfl
theorem fi156_3 : fi Try.prog 156 3 = some (3, 1, false) := by kernel_rfl
theorem fi156_4 : fi Try.prog 156 4 = some (4, 1, false) := by kernel_rfl
theorem fi156_5 : fi Try.prog 156 5 = some (5, 1, false) := by kernel_rfl
theorem fi156_6 : fi Try.prog 156 6 = some (6, 1, false) := by kernel_rfl
theorem fi156_7 : fi Try.prog 156 7 = some (7, 1, false) := by kernel_rfl
theorem fi156_8 : fi Try.prog 156 8 = some (8, 1, false) := by kernel_rfl
theorem fi156_9 : fi Try.prog 156 9 = some (9, 1, false) := by kernel_rfl
theorem fi156_10 : fi Try.prog 156 10 = some (10, 1, false) := by kernel_rfl
attribute [push_cast] ti1 und2 ti2 und3 ti3 und4 ti4 und5 ti5 und6 ti6 ti7 sti7 fi7_0 fi7_1 fi7_2 fi7_3 ti8 sti8 fi8_0 fi8_1 fi8_2 fi8_3 und9 ti9 und10 ti10 und11 ti11 und12 ti12 ti13 sti13 fi13_0 fi13_1 ti14 sti14 fi14_0 fi14_1 und15 ti15 und16 ti16 und17 ti17 ti18 sti18 fi18_0 ti19 sti19 fi19_0 und21 ti21 ti22 sti22 fi22_0 fi22_1 fi22_2 fi22_3 fi22_4 ti23 seq23 sti23 fi23_0 fi23_1 fi23_2 fi23_3 fi23_4 ti24 ti25 ti26 seq26 sti26 fi26_0 fi26_1 fi26_2 fi26_3 fi26_4 ti27 ti28 und29 si29 ti29 ti30 und31 si31 ti31 ti33 und34 si34 ti34 ti35 ti36 ti38 ti39 ti40 ti41 ti42 ti43 ti45 ti46 ti47 und48 si48 ti48 und49 si49 ti49 ti50 sti50 fi50_0 fi50_1 fi50_2 ti51 sti51 fi51_0 fi51_1 fi51_2 ti53 ti54 ti55 ti56 ti57 und58 si58 ti58 und59 si59 ti59 ti60 sti60 fi60_0 fi60_1 fi60_2 ti61 sti61 fi61_0 fi61_1 fi61_2 ti62 ti63 ti64 ti66 ti67 ti68 ti69 ti70 und71 ti71 ti72 ti73 und74 si74 ti74 ti75 ti76 ti77 ti78 ti79 ti80 und81 ti81 ti82 seq82 sti82 fi82_0 fi82_1 fi82_2 ti83 seq83 sti83 fi83_0 fi83_1 fi83_2 ti84 und85 ti85 ti86 seq86 sti86 fi86_0 fi86_1 fi86_2 ti87 seq87 sti87 fi87_0 fi87_1 fi87_2 ti88 ti89 ti90 ti91 ti92 ti93 ti94 sti94 fi94_0 fi94_1 ti95 seq95 sti95 fi95_0 fi95_1 ti96 ti97 sti97 fi97_0 fi97_1 fi97_2 ti98 seq98 sti98 fi98_0 fi98_1 fi98_2 ti99 ti100 ti101 ti102 ti103 ti104 ti105 ti106 ti107 ti108 ti109 ti110 ti111 ti112 ti113 ti114 sti114 fi114_0 fi114_1 fi114_2 ti115 sti115 fi115_0 fi115_1 fi115_2 ti116 ti117 ti118 und119 ti119 ti120 ti121 ti122 ti124 ti125 ti126 ti127 ti128 ti129 ti130 ti131 seq131 sti131 fi131_0 fi131_1 ti132 ti133 seq133 sti133 fi133_0 fi133_1 fi133_2 ti134 ti135 ti136 ti138 ti139 und140 ti140 ti141 ti142 ti143 ti144 sti144 fi144_0 fi144_1 fi144_2 fi144_3 ti145 sti145 fi145_0 fi145_1 fi145_2 fi145_3 ti147 sti147 fi147_0 ti148 sti148 fi148_0 und149 ti149 und150 ti150 ti151 und152 ti152 und153 ti153 und154 ti154 ti155 sti155 fi155_0 fi155_1 fi155_2 fi155_3 fi155_4 fi155_5 fi155_6 fi155_7 fi155_8 fi155_9 fi155_10 ti156 sti156 fi156_0 fi156_1 fi156_2 fi156_3 fi156_4 fi156_5 fi156_6 fi156_7 fi156_8 fi156_9 fi156_10
end Go.Proofs.Ytfbcedjheempfaa
/- Temporaries ten by ten: a walk finds them in fewer steps. Conditions: none. -/
set_option linter.unusedVariables false
set_option linter.unusedSimpArgs false
namespace Go.Sim
variable {P : Program} {h : AH}
/-- Ten values and what stands behind them. -/
def N10 (a0 a1 a2 a3 a4 a5 a6 a7 a8 a9 : Value) (r : List Value) : List Value := a0 :: a1 :: a2 :: a3 :: a4 :: a5 :: a6 :: a7 :: a8 :: a9 :: r
theorem n10_getD {a0 a1 a2 a3 a4 a5 a6 a7 a8 a9 : Value} {r : List Value} (i : Nat) : (N10 a0 a1 a2 a3 a4 a5 a6 a7 a8 a9 r).getD (i + 10) undef = r.getD i undef := rfl
theorem n10_set {a0 a1 a2 a3 a4 a5 a6 a7 a8 a9 : Value} {r : List Value} (i : Nat) (v : Value) : (N10 a0 a1 a2 a3 a4 a5 a6 a7 a8 a9 r).set (i + 10) v = N10 a0 a1 a2 a3 a4 a5 a6 a7 a8 a9 (r.set i v) := rfl
theorem n10_getD0 {a0 a1 a2 a3 a4 a5 a6 a7 a8 a9 : Value} {r : List Value} : (N10 a0 a1 a2 a3 a4 a5 a6 a7 a8 a9 r).getD 0 undef = a0 := rfl
theorem n10_set0 {a0 a1 a2 a3 a4 a5 a6 a7 a8 a9 : Value} {r : List Value} (v : Value) : (N10 a0 a1 a2 a3 a4 a5 a6 a7 a8 a9 r).set 0 v = N10 v a1 a2 a3 a4 a5 a6 a7 a8 a9 r := rfl
theorem n10_getD1 {a0 a1 a2 a3 a4 a5 a6 a7 a8 a9 : Value} {r : List Value} : (N10 a0 a1 a2 a3 a4 a5 a6 a7 a8 a9 r).getD 1 undef = a1 := rfl
theorem n10_set1 {a0 a1 a2 a3 a4 a5 a6 a7 a8 a9 : Value} {r : List Value} (v : Value) : (N10 a0 a1 a2 a3 a4 a5 a6 a7 a8 a9 r).set 1 v = N10 a0 v a2 a3 a4 a5 a6 a7 a8 a9 r := rfl
theorem n10_getD2 {a0 a1 a2 a3 a4 a5 a6 a7 a8 a9 : Value} {r : List Value} : (N10 a0 a1 a2 a3 a4 a5 a6 a7 a8 a9 r).getD 2 undef = a2 := rfl
theorem n10_set2 {a0 a1 a2 a3 a4 a5 a6 a7 a8 a9 : Value} {r : List Value} (v : Value) : (N10 a0 a1 a2 a3 a4 a5 a6 a7 a8 a9 r).set 2 v = N10 a0 a1 v a3 a4 a5 a6 a7 a8 a9 r := rfl
theorem n10_getD3 {a0 a1 a2 a3 a4 a5 a6 a7 a8 a9 : Value} {r : List Value} : (N10 a0 a1 a2 a3 a4 a5 a6 a7 a8 a9 r).getD 3 undef = a3 := rfl
theorem n10_set3 {a0 a1 a2 a3 a4 a5 a6 a7 a8 a9 : Value} {r : List Value} (v : Value) : (N10 a0 a1 a2 a3 a4 a5 a6 a7 a8 a9 r).set 3 v = N10 a0 a1 a2 v a4 a5 a6 a7 a8 a9 r := rfl
theorem n10_getD4 {a0 a1 a2 a3 a4 a5 a6 a7 a8 a9 : Value} {r : List Value} : (N10 a0 a1 a2 a3 a4 a5 a6 a7 a8 a9 r).getD 4 undef = a4 := rfl
theorem n10_set4 {a0 a1 a2 a3 a4 a5 a6 a7 a8 a9 : Value} {r : List Value} (v : Value) : (N10 a0 a1 a2 a3 a4 a5 a6 a7 a8 a9 r).set 4 v = N10 a0 a1 a2 a3 v a5 a6 a7 a8 a9 r := rfl
theorem n10_getD5 {a0 a1 a2 a3 a4 a5 a6 a7 a8 a9 : Value} {r : List Value} : (N10 a0 a1 a2 a3 a4 a5 a6 a7 a8 a9 r).getD 5 undef = a5 := rfl
theorem n10_set5 {a0 a1 a2 a3 a4 a5 a6 a7 a8 a9 : Value} {r : List Value} (v : Value) : (N10 a0 a1 a2 a3 a4 a5 a6 a7 a8 a9 r).set 5 v = N10 a0 a1 a2 a3 a4 v a6 a7 a8 a9 r := rfl
theorem n10_getD6 {a0 a1 a2 a3 a4 a5 a6 a7 a8 a9 : Value} {r : List Value} : (N10 a0 a1 a2 a3 a4 a5 a6 a7 a8 a9 r).getD 6 undef = a6 := rfl
theorem n10_set6 {a0 a1 a2 a3 a4 a5 a6 a7 a8 a9 : Value} {r : List Value} (v : Value) : (N10 a0 a1 a2 a3 a4 a5 a6 a7 a8 a9 r).set 6 v = N10 a0 a1 a2 a3 a4 a5 v a7 a8 a9 r := rfl
theorem n10_getD7 {a0 a1 a2 a3 a4 a5 a6 a7 a8 a9 : Value} {r : List Value} : (N10 a0 a1 a2 a3 a4 a5 a6 a7 a8 a9 r).getD 7 undef = a7 := rfl
theorem n10_set7 {a0 a1 a2 a3 a4 a5 a6 a7 a8 a9 : Value} {r : List Value} (v : Value) : (N10 a0 a1 a2 a3 a4 a5 a6 a7 a8 a9 r).set 7 v = N10 a0 a1 a2 a3 a4 a5 a6 v a8 a9 r := rfl
theorem n10_getD8 {a0 a1 a2 a3 a4 a5 a6 a7 a8 a9 : Value} {r : List Value} : (N10 a0 a1 a2 a3 a4 a5 a6 a7 a8 a9 r).getD 8 undef = a8 := rfl
theorem n10_set8 {a0 a1 a2 a3 a4 a5 a6 a7 a8 a9 : Value} {r : List Value} (v : Value) : (N10 a0 a1 a2 a3 a4 a5 a6 a7 a8 a9 r).set 8 v = N10 a0 a1 a2 a3 a4 a5 a6 a7 v a9 r := rfl
theorem n10_getD9 {a0 a1 a2 a3 a4 a5 a6 a7 a8 a9 : Value} {r : List Value} : (N10 a0 a1 a2 a3 a4 a5 a6 a7 a8 a9 r).getD 9 undef = a9 := rfl
theorem n10_set9 {a0 a1 a2 a3 a4 a5 a6 a7 a8 a9 : Value} {r : List Value} (v : Value) : (N10 a0 a1 a2 a3 a4 a5 a6 a7 a8 a9 r).set 9 v = N10 a0 a1 a2 a3 a4 a5 a6 a7 a8 v r := rfl
def toN : List Value → List Value
  | a0 :: a1 :: a2 :: a3 :: a4 :: a5 :: a6 :: a7 :: a8 :: a9 :: r => N10 a0 a1 a2 a3 a4 a5 a6 a7 a8 a9 (toN r)
  | l => l
theorem toN_eq : ∀ l : List Value, toN l = l
  | a0 :: a1 :: a2 :: a3 :: a4 :: a5 :: a6 :: a7 :: a8 :: a9 :: r => by show N10 a0 a1 a2 a3 a4 a5 a6 a7 a8 a9 (toN r) = _; rw [toN_eq r]; rfl
  | [] => rfl
  | [a0] => rfl
  | [a0, a1] => rfl
  | [a0, a1, a2] => rfl
  | [a0, a1, a2, a3] => rfl
  | [a0, a1, a2, a3, a4] => rfl
  | [a0, a1, a2, a3, a4, a5] => rfl
  | [a0, a1, a2, a3, a4, a5, a6] => rfl
  | [a0, a1, a2, a3, a4, a5, a6, a7] => rfl
  | [a0, a1, a2, a3, a4, a5, a6, a7, a8] => rfl
theorem toN_ten {a0 a1 a2 a3 a4 a5 a6 a7 a8 a9 : Value} {r : List Value} : toN (a0 :: a1 :: a2 :: a3 :: a4 :: a5 :: a6 :: a7 :: a8 :: a9 :: r) = N10 a0 a1 a2 a3 a4 a5 a6 a7 a8 a9 (toN r) := rfl
theorem toN_0  : toN [] = [] := rfl
theorem toN_1 {a0 : Value} : toN [a0] = [a0] := rfl
theorem toN_2 {a0 a1 : Value} : toN [a0, a1] = [a0, a1] := rfl
theorem toN_3 {a0 a1 a2 : Value} : toN [a0, a1, a2] = [a0, a1, a2] := rfl
theorem toN_4 {a0 a1 a2 a3 : Value} : toN [a0, a1, a2, a3] = [a0, a1, a2, a3] := rfl
theorem toN_5 {a0 a1 a2 a3 a4 : Value} : toN [a0, a1, a2, a3, a4] = [a0, a1, a2, a3, a4] := rfl
theorem toN_6 {a0 a1 a2 a3 a4 a5 : Value} : toN [a0, a1, a2, a3, a4, a5] = [a0, a1, a2, a3, a4, a5] := rfl
theorem toN_7 {a0 a1 a2 a3 a4 a5 a6 : Value} : toN [a0, a1, a2, a3, a4, a5, a6] = [a0, a1, a2, a3, a4, a5, a6] := rfl
theorem toN_8 {a0 a1 a2 a3 a4 a5 a6 a7 : Value} : toN [a0, a1, a2, a3, a4, a5, a6, a7] = [a0, a1, a2, a3, a4, a5, a6, a7] := rfl
theorem toN_9 {a0 a1 a2 a3 a4 a5 a6 a7 a8 : Value} : toN [a0, a1, a2, a3, a4, a5, a6, a7, a8] = [a0, a1, a2, a3, a4, a5, a6, a7, a8] := rfl
theorem CC.ofN {f : FuncId} {fn : Func} {c : Code} {args : List Value} {R : Value → AH → Prop} {n : Nat} {rs : Array ResultVar} (hf : P.funcs[f]? = some fn) (hn : fn.ntmps = n) (hr : fn.results = rs) (hb : fn.body = some c)
    (hnm : fn.name ≠ "runtime.NumGoroutine") (hok : codeOK P.globals.size c = true) (hw : wpc P c (bodyQ P rs.toList R) (toN (args ++ List.replicate (n - args.length) undef)) h) : CC P f args h R :=
  CC.of' hf hn hr hb hnm hok (by rw [toN_eq] at hw; exact hw)
theorem CE.ofN {f : FuncId} {fn : Func} {c : Code} {args : List Value} {R : Value → AH → Prop} {n : Nat} {rs : Array ResultVar} (hf : P.funcs[f]? = some fn) (hn : fn.ntmps = n) (hr : fn.results = rs) (hb : fn.body = some c)
    (hok : codeOK P.globals.size c = true) (hw : wpc P c (bodyQ P rs.toList R) (toN (args ++ List.replicate (n - args.length) undef)) h) : CE P f args h R :=
  CE.of' hf hn hr hb hok (by rw [toN_eq] at hw; exact hw)
attribute [push_cast] n10_getD n10_set n10_getD0 n10_set0 n10_getD1 n10_set1 n10_getD2 n10_set2 n10_getD3 n10_set3 n10_getD4 n10_set4 n10_getD5 n10_set5 n10_getD6 n10_set6 n10_getD7 n10_set7 n10_getD8 n10_set8 n10_getD9 n10_set9 toN_ten toN_0 toN_1 toN_2 toN_3 toN_4 toN_5 toN_6 toN_7 toN_8 toN_9
end Go.Sim
/- Loops: what a round changes is told by the places that it writes. Conditions: those that each theorem names. -/
set_option linter.unusedVariables false
set_option linter.unusedSimpArgs false
namespace Go.Sim
variable {P : Program} {h : AH}

def setL (t : List Value) : List Nat → List Value → List Value
  | i :: V, x :: xs => setL (t.set i x) V xs
  | _, _ => t
def setF (t : List Value) (g : Nat → Value) : List Nat → List Value
  | i :: D => setF (t.set i (g i)) g D
  | [] => t
theorem setL_cons (t : List Value) (i : Nat) (V : List Nat) (x : Value) (xs : List Value) : setL t (i :: V) (x :: xs) = setL (t.set i x) V xs := rfl
theorem setL_nil (t : List Value) : setL t [] [] = t := rfl
theorem setF_cons (t : List Value) (g : Nat → Value) (i : Nat) (D : List Nat) : setF t g (i :: D) = setF (t.set i (g i)) g D := rfl
theorem setF_nil (t : List Value) (g : Nat → Value) : setF t g [] = t := rfl
theorem bcase_d {p : Prop} [Decidable p] {X Y : Prop} (hx : p → X) (hy : ¬ p → Y) : bcase (decide p) X Y := ⟨fun e => hx (of_decide_eq_true e), fun e => hy (of_decide_eq_false e)⟩
theorem and_keep {a b : Prop} (x : a) (y : b) : a ∧ b := ⟨x, y⟩
theorem onB_undef' (X : Bool → Prop) (Y : Prop) : onB undef X Y = Y := rfl
attribute [push_cast] onB_undef' setL_cons setL_nil setF_cons setF_nil cond_true cond_false Bool.not_true Bool.not_false Bool.false_and Bool.and_false Bool.true_or Bool.or_true Bool.false_or Bool.or_false decide_true decide_false Int.toNat_natCast

/-- A loop: 'V' are the places that it hands on from round to round, 'D' those that it writes besides. -/
theorem WC.loopA {α : Type} {c : Code} {Q : Exit → List Value → AH → Prop} {t : List Value} (hok : codeOK P.globals.size c = true) (V D : List Nat) (vals : α → List Value) (J : α → AH → Prop) (m : α → Nat) (a0 : α)
    (e0 : t = setF (setL t V (vals a0)) (fun j => t.getD j undef) D) (h0 : J a0 h)
    (round : ∀ a g h', J a h' → wpc P c (thn (fun t' h'' => ∃ b, t' = setF (setL t V (vals b)) (fun j => t'.getD j undef) D ∧ J b h'' ∧ m b < m a) Q) (setF (setL t V (vals a)) g D) h') : WC P (.loop c) Q t h := by
  intro FB w0 μ act w Q' s ht hd hq
  have key : ∀ (k : Nat) (a : α) (g : Nat → Value) (h : AH) (μ : Nat → Option Loc) (act : Act) (w : World), m a < k → J a h → Sim P FB w0 μ h w → LR μ (setF (setL t V (vals a)) g D) act.tmps.toList → act.defers = [] →
      (∀ ex t' h' μ' a' w', Q ex t' h' → Post P FB w0 μ h μ' h' w' → LR μ' t' a'.tmps.toList → a'.defers = [] → Q' ex a' w') → Code.rounds P c Q' k act w := by
    intro k
    induction k with
    | zero => intro a g h μ act w hk; omega
    | succ k ih =>
      intro a g h μ act w hk hj s ht hd hq
      rw [rounds_succ]
      refine wpc_sound hok (round a g h hj) FB w0 μ act w _ s ht hd (fun ex t1 h1 μ1 a1 w1 q1 p1 ht1 hd1 => ?_)
      cases ex with
      | normal =>
        obtain ⟨b, e1, j1, m1⟩ := q1
        rw [e1] at ht1
        exact ih b _ h1 μ1 a1 w1 (by omega) j1 p1.sim ht1 hd1 (fun ex t2 h2 μ2 a2 w2 q2 p2 ht2 hd2 => hq ex t2 h2 μ2 a2 w2 q2 (p1.trans p2) ht2 hd2)
      | _ => exact hq _ t1 h1 μ1 a1 w1 q1 p1 ht1 hd1
  exact wp_loop_rounds (m a0 + 1) (key (m a0 + 1) a0 _ h μ act w (by omega) h0 s (e0 ▸ ht) hd hq)
/-- All bytes of a text. -/
def allAt (s : ByteArray) (p : Int → Bool) : Bool := (List.range s.size).all fun i => p (byteAt s i).toNat
theorem allAt_iff {s : ByteArray} {p : Int → Bool} : allAt s p = true ↔ ∀ i, i < s.size → p (byteAt s i).toNat = true := by simp [allAt]
theorem allAt_false {s : ByteArray} {p : Int → Bool} {i : Nat} (hi : i < s.size) (e : p (byteAt s i).toNat = false) : allAt s p = false := by
  cases h : allAt s p with
  | false => rfl
  | true => have := allAt_iff.1 h i hi; rw [e] at this; cases this
theorem byte_lt (s : ByteArray) (i : Nat) : ((byteAt s i).toNat : Int) < 256 := by have := (byteAt s i).toNat_lt; omega
theorem wrapNat {n : Nat} (h : n ≤ 9223372036854775807) : IntKind.i64.wrap ((n : Nat) : Int) = (n : Nat) := w64 (by omega) (by omega)
theorem wrapSucc {n : Nat} (h : n < 9223372036854775807) : IntKind.i64.wrap ((n : Int) + 1) = ((n + 1 : Nat) : Int) := by rw [w64 (by omega) (by omega)]; rfl
theorem all2 (a0 a1 : Value) (e0 : one a0 = true) (e1 : one a1 = true) : #[a0, a1].all one 0 2 = true := by simp [e0, e1]
theorem all3 (a0 a1 a2 : Value) (e0 : one a0 = true) (e1 : one a1 = true) (e2 : one a2 = true) : #[a0, a1, a2].all one 0 3 = true := by simp [e0, e1, e2]
theorem all4 (a0 a1 a2 a3 : Value) (e0 : one a0 = true) (e1 : one a1 = true) (e2 : one a2 = true) (e3 : one a3 = true) : #[a0, a1, a2, a3].all one 0 4 = true := by simp [e0, e1, e2, e3]
theorem all5 (a0 a1 a2 a3 a4 : Value) (e0 : one a0 = true) (e1 : one a1 = true) (e2 : one a2 = true) (e3 : one a3 = true) (e4 : one a4 = true) : #[a0, a1, a2, a3, a4].all one 0 5 = true := by simp [e0, e1, e2, e3, e4]
theorem all6 (a0 a1 a2 a3 a4 a5 : Value) (e0 : one a0 = true) (e1 : one a1 = true) (e2 : one a2 = true) (e3 : one a3 = true) (e4 : one a4 = true) (e5 : one a5 = true) : #[a0, a1, a2, a3, a4, a5].all one 0 6 = true := by simp [e0, e1, e2, e3, e4, e5]
theorem all7 (a0 a1 a2 a3 a4 a5 a6 : Value) (e0 : one a0 = true) (e1 : one a1 = true) (e2 : one a2 = true) (e3 : one a3 = true) (e4 : one a4 = true) (e5 : one a5 = true) (e6 : one a6 = true) : #[a0, a1, a2, a3, a4, a5, a6].all one 0 7 = true := by simp [e0, e1, e2, e3, e4, e5, e6]
attribute [push_cast] all2 all3 all4 all5 all6 all7
theorem maxLen_eq : maxLen = 9223372036854775807 := by decide
end Go.Sim
/- Slices that are read: elements of so many cells each. Conditions: those that each theorem names. -/
set_option linter.unusedVariables false
set_option linter.unusedSimpArgs false
namespace Go.Sim
variable {P : Program} {h : AH}

def Big (h : AH) : Prop := ∀ i, h.n ≤ i → h.ob i = .none
theorem CC.withBig {f : FuncId} {args : List Value} {R : Value → AH → Prop} (hc : Big h → CC P f args h R) : CC P f args h R := fun FB w0 μ w cargs o a K Q s => hc s.big FB w0 μ w cargs o a K Q s
theorem CD.withBig {f : FuncId} {args : List Value} {V : Value} {H : AH} (hc : Big h → CD P f args h V H) : CD P f args h V H := CC.withBig hc
theorem Big.alloc (b : Big h) (o : AOb) : Big (h.alloc o) := fun i hi => by
  have hi' : h.n + 1 ≤ i := hi
  have : i ≠ h.n := by omega
  simp only [AH.alloc, this, if_false]; exact b i (by omega)
theorem Big.set (b : Big h) {j : Nat} (o : AOb) (hj : j < h.n) : Big (h.set j o) := fun i hi => by
  have hi' : h.n ≤ i := hi
  rw [set_ne o (by omega)]; exact b i hi'
theorem rd_some {i off n : Nat} {vs : List Value} (e : rd h i off n = some vs) : h.ob i ≠ .none := fun e' => by rw [rd_eq, e'] at e; cases e
theorem Big.lt (b : Big h) {i off n : Nat} {vs : List Value} (e : rd h i off n = some vs) : i < h.n := Nat.lt_of_not_le (fun hi => rd_some e (b i hi))
theorem Pre.rd {h' : AH} (p : Pre h h') {i : Nat} (hi : i < h.n) (off n : Nat) : rd h' i off n = Sim.rd h i off n := by rw [rd_eq, rd_eq, p.ob i hi]
theorem Pre.rd1 {h' : AH} (p : Pre h h') {i : Nat} (hi : i < h.n) (off : Nat) : rd1 h' i off = Sim.rd1 h i off := by rw [rd1_eq, rd1_eq, p.ob i hi]

/-- A slice whose elements are read, k cells each. -/
def RdE {α : Type} (h : AH) (A : Option Addr) (k : Nat) (enc : α → List Value) (l : List α) : Prop :=
  ∀ i (hi : i < l.length), ∃ id off, A = some ⟨id, off, none⟩ ∧ rd h id (off + i * k) k = some (enc l[i])
theorem RdE.at {α : Type} {A : Option Addr} {k : Nat} {enc : α → List Value} {l : List α} (r : RdE h A k enc l) (b : Big h) {h1 : AH} (p : Pre h h1) {i : Nat} (hi : i < l.length) :
    ∃ id off, A = some ⟨id, off, none⟩ ∧ id < h1.n ∧ rd h1 id (off + i * k) k = some (enc l[i]) := by
  obtain ⟨id, off, e, hr⟩ := r i hi
  have hlt := b.lt hr
  exact ⟨id, off, e, Nat.lt_of_lt_of_le hlt p.n, (p.rd hlt _ _).trans hr⟩
theorem RdE.use {α : Type} {A : Option Addr} {k : Nat} {enc : α → List Value} {l : List α} (r : RdE h A k enc l) (b : Big h) {h1 : AH} (p : Pre h h1) {i : Nat} (hi : i < l.length) {G : Prop}
    (hg : ∀ id off, A = some ⟨id, off, none⟩ → id < h1.n → rd h1 id (off + i * k) k = some (enc l[i]) → G) : G := by
  obtain ⟨id, off, a, b, c⟩ := r.at b p hi
  exact hg id off a b c
theorem RdE.rdAt {α : Type} {id off : Nat} {k : Nat} {enc : α → List Value} {l : List α} (r : RdE h (some ⟨id, off, none⟩) k enc l) (b : Big h) {h1 : AH} (p : Pre h h1) {i : Nat} (hi : i < l.length) : rd h1 id (off + i * k) k = some (enc l[i]) := by
  obtain ⟨id', off', a, _, c⟩ := r.at b p hi
  simp only [Option.some.injEq, Addr.mk.injEq] at a
  obtain ⟨rfl, rfl, _⟩ := a
  exact c
theorem RdE.pre {α : Type} {A : Option Addr} {k : Nat} {enc : α → List Value} {l : List α} (r : RdE h A k enc l) (b : Big h) {h1 : AH} (p : Pre h h1) : RdE h1 A k enc l := fun i hi => by
  obtain ⟨id, off, e, _, hr⟩ := r.at b p hi
  exact ⟨id, off, e, hr⟩
def idsOf (A : Option Addr) : List Nat := match A with | some a => [a.block] | none => []
theorem RdE.kept {α : Type} {A : Option Addr} {k : Nat} {enc : α → List Value} {l : List α} (r : RdE h A k enc l) {h1 : AH} (e : ∀ id ∈ idsOf A, h1.ob id = h.ob id) : RdE h1 A k enc l := fun i hi => by
  obtain ⟨id, off, ea, hr⟩ := r i hi
  subst ea
  exact ⟨id, off, rfl, by rw [← hr, rd_eq, rd_eq, e id (by simp [idsOf])]⟩
theorem RdE.nil {α : Type} (A : Option Addr) (k : Nat) (enc : α → List Value) : RdE h A k enc [] := fun i hi => absurd hi (Nat.not_lt_zero i)
theorem rd_len {i off n : Nat} {vs : List Value} (e : rd h i off n = some vs) : vs.length = n := by
  rw [rd_eq] at e
  unfold rdO at e
  split at e
  · split at e
    · simp only [Option.some.injEq] at e; subst e; simp; omega
    · cases e
  · cases e
theorem rd_rd1 {i off n : Nat} {vs : List Value} (e : rd h i off n = some vs) {j : Nat} (hj : j < n) : rd1 h i (off + j) = vs[j]? := by
  rw [rd_eq] at e
  rw [rd1_eq]
  unfold rdO at e
  unfold rd1O
  split at e
  · rename_i cs st ln ho
    split at e
    · simp only [Option.some.injEq] at e; subst e
      simp [List.getElem?_take, hj]
    · cases e
  · cases e
theorem rd_1 {i off : Nat} {a : Value} (e : rd h i off 1 = some [a]) : rd1 h i off = some a := rd_rd1 e (j := 0) (by omega)
theorem rd_2 {i off : Nat} {a b : Value} (e : rd h i off 2 = some [a, b]) : rd1 h i off = some a ∧ rd1 h i (off + 1) = some b := ⟨rd_rd1 e (j := 0) (by omega), rd_rd1 e (j := 1) (by omega)⟩
theorem rd_3 {i off : Nat} {a b c : Value} (e : rd h i off 3 = some [a, b, c]) : rd1 h i off = some a ∧ rd1 h i (off + 1) = some b ∧ rd1 h i (off + 2) = some c :=
  ⟨rd_rd1 e (j := 0) (by omega), rd_rd1 e (j := 1) (by omega), rd_rd1 e (j := 2) (by omega)⟩
theorem rd_4 {i off : Nat} {a b c d : Value} (e : rd h i off 4 = some [a, b, c, d]) : rd1 h i off = some a ∧ rd1 h i (off + 1) = some b ∧ rd1 h i (off + 2) = some c ∧ rd1 h i (off + 3) = some d :=
  ⟨rd_rd1 e (j := 0) (by omega), rd_rd1 e (j := 1) (by omega), rd_rd1 e (j := 2) (by omega), rd_rd1 e (j := 3) (by omega)⟩

/-- All numbers below n. -/
def allN (n : Nat) (p : Nat → Bool) : Bool := (List.range n).all p
theorem allN_iff {n : Nat} {p : Nat → Bool} : allN n p = true ↔ ∀ i, i < n → p i = true := by simp [allN]
theorem allN_false {n : Nat} {p : Nat → Bool} {i : Nat} (hi : i < n) (e : p i = false) : allN n p = false := by
  cases h : allN n p with
  | false => rfl
  | true => have := allN_iff.1 h i hi; rw [e] at this; cases this
theorem allTo_succ {p : Nat → Bool} {i : Nat} (h : ∀ j, j < i → p j = true) (e : p i = true) : ∀ j, j < i + 1 → p j = true := fun j hj => by
  rcases Nat.lt_succ_iff_lt_or_eq.1 hj with h1 | h1
  · exact h j h1
  · subst h1; exact e
theorem allTo_zero {p : Nat → Bool} : ∀ j, j < 0 → p j = true := fun j hj => absurd hj (Nat.not_lt_zero j)
theorem wrapPred {n : Nat} (h0 : 0 < n) (h : n ≤ 9223372036854775807) : IntKind.i64.wrap ((n : Int) - 1) = ((n - 1 : Nat) : Int) := by rw [w64 (by omega) (by omega)]; omega
theorem nameB (n : ByteArray) {G : Prop} (k : ∀ N, N = n → G) : G := k n rfl
theorem nameN (n : Nat) {G : Prop} (k : ∀ N, N = n → G) : G := k n rfl
theorem Pre.keep {h' : AH} (p : Pre h h') : Keep h.n h h' := p.ob
theorem Keep.toPre {h' : AH} (k : Keep h.n h h') (e : h.n ≤ h'.n) : Pre h h' := ⟨e, k⟩

/-- A function of the model's own. -/
theorem CC.ext {f : FuncId} {args : List Value} {R : Value → AH → Prop} {V : Value} (hl : ∀ (v : Value) (hv : v ∈ args), isPlain v = true)
    (hr : ∀ w : World, (callFunc f args.toArray).run P w = .ok (.value V) w) (hV : isPlain V = true) (hR : R V h) : CC P f args h R := by
  intro FB w0 μ w cargs o a K Q s ha hk
  have key : ∀ v c, isPlain v = true → VR μ v c → v = c := by
    intro v c hp hv
    cases hv with
    | plain _ _ => rfl
    | agg a a' hs e => simp [isPlain] at hp
    | tuple a a' hs e =>
      simp [isPlain] at hp; subst hp
      have : a' = #[] := by apply Array.eq_empty_of_size_eq_zero; simpa using hs.symm
      subst this; rfl
    | _ => simp [isPlain] at hp
  have e : cargs = args.toArray := by
    apply Array.toList_inj.1
    apply List.ext_getElem ha.1.symm
    intro j x y
    exact (key _ _ (hl _ (List.getElem_mem y)) (ha.2 j y x)).symm
  subst e
  rw [hr w]
  exact hk V h μ V w hR s.post (.plain V hV)
end Go.Sim
/- Slices that grow: made by the call itself, appended to. Conditions: those that each theorem names. -/
set_option linter.unusedVariables false
set_option linter.unusedSimpArgs false
namespace Go.Sim
variable {P : Program} {h h0 : AH}

/-- A slice of the call's own (its objects are no elder than n0), or nil: its cells. -/
def Gr (n0 : Nat) (h : AH) (v : Value) (k : Nat) (cs : List Value) : Prop :=
  (∃ c, v = .slice none 0 c ∧ cs = []) ∨ ∃ id off n, v = .slice (some ⟨id, off, none⟩) n k ∧ n0 ≤ id ∧ Own h id off n k cs
theorem Gr.nil (n0 : Nat) (h : AH) (c k : Nat) : Gr n0 h (.slice none 0 c) k [] := .inl ⟨c, rfl, rfl⟩
theorem Gr.new {n0 : Nat} (hn : n0 ≤ h.n) (cs : List Value) (n k : Nat) (e : cs.length = n * k) : Gr n0 (h.alloc (.cells cs .solo h.n)) (.slice (some ⟨h.n, 0, none⟩) n k) k cs := .inr ⟨h.n, 0, n, rfl, hn, Own.new cs n k e⟩
theorem Gr.pre {n0 : Nat} {h' : AH} {v : Value} {k : Nat} {cs : List Value} (w : Gr n0 h v k cs) (p : Pre h h') : Gr n0 h' v k cs := by
  rcases w with w | ⟨id, off, n, a, b, c⟩
  · exact .inl w
  · exact .inr ⟨id, off, n, a, b, c.pre p⟩
theorem Gr.alloc {n0 : Nat} {v : Value} {k : Nat} {cs : List Value} (w : Gr n0 h v k cs) (o : AOb) : Gr n0 (h.alloc o) v k cs := w.pre ((Pre.refl h).alloc o)
/-- Its objects. -/
def atBlock (v : Value) (i : Nat) : Prop := match v with | .slice (some a) _ _ => a.block = i | _ => False
theorem Gr.keep {n0 : Nat} {h' : AH} {v : Value} {k : Nat} {cs : List Value} (w : Gr n0 h v k cs) (hn : h.n ≤ h'.n) (e : ∀ i, atBlock v i → h'.ob i = h.ob i) : Gr n0 h' v k cs := by
  rcases w with w | ⟨id, off, n, rfl, b, c⟩
  · exact .inl w
  · exact .inr ⟨id, off, n, rfl, b, c.same (e id rfl) hn⟩

theorem Gr.app {t u e : TypeId} {s b : Nat} {z : List Value} {ag : Bool} {v x : Value} {cs new : List Value} {m : Nat} {K : Value → AH → Prop} {n0 : Nat}
    (hs : si P t = some (e, ⟨s, b, z, ag⟩)) (hpos : 0 < s) (hby : b ≤ 256) (hu : notInt (P.underlying u)) (w : Gr h0.n h v s cs) (p : Pre h0 h) (hx : asrc h s x = some (m, new)) (hm : new.length = m * s) (hb : cs.length / s + m < 274877906944) (h1 : 0 < m)
    (hk : ∀ h', Gr h0.n h' (.slice (some ⟨h.n, 0, none⟩) (cs.length / s + m) s) s (cs ++ new) → Own h' h.n 0 (cs.length / s + m) s (cs ++ new) → Pre h0 h' → h'.n = h.n + 1 → (∀ i, i < h.n → ¬ atBlock v i → h'.ob i = h.ob i) → K (.slice (some ⟨h.n, 0, none⟩) (cs.length / s + m) s) h') :
    aappend P h t u v x K := by
  rcases w with ⟨c, rfl, rfl⟩ | ⟨id, off, n, rfl, b', w⟩
  · simp only [List.length_nil, Nat.zero_div, Nat.zero_add, List.nil_append] at hk hb
    refine app_nil hs hpos hby hu hx hm hb h1 (fun h' w' hn he => hk h' (.inr ⟨_, _, _, rfl, p.n, w'⟩) w' ⟨by have := p.n; omega, fun i hi => (he i (Nat.lt_of_lt_of_le hi p.n)).trans (p.ob i hi)⟩ hn (fun i hi _ => he i hi))
  · have hl : cs.length / s = n := by rw [w.len]; exact Nat.mul_div_cancel n hpos
    rw [hl] at hb hk
    refine app_own hs hpos hby hu w hx hm hb (fun h' w' hn he => hk h' (.inr ⟨_, _, _, rfl, p.n, w'⟩) w' ⟨by have := p.n; omega, fun i hi => (he i (Nat.lt_of_lt_of_le hi p.n) (by omega)).trans (p.ob i hi)⟩ hn (fun i hi hb => he i hi (fun e => hb e.symm)))

theorem Gr.not_new {n0 : Nat} {v : Value} {k : Nat} {cs : List Value} (w : Gr n0 h v k cs) : ¬ atBlock v h.n := by
  rcases w with ⟨c, rfl, rfl⟩ | ⟨id, off, n, rfl, b, o⟩
  · exact id
  · exact fun e => absurd (show id < h.n from o.lt) (by have e' : id = h.n := e; omega)

/-- An append of new elements, laid down just before. -/
theorem Gr.app1 {t u e : TypeId} {s b : Nat} {z : List Value} {ag : Bool} {v : Value} {cs new : List Value} {m c : Nat} {K : Value → AH → Prop}
    (hs : si P t = some (e, ⟨s, b, z, ag⟩)) (hpos : 0 < s) (hby : b ≤ 256) (hu : notInt (P.underlying u)) (w : Gr h0.n h v s cs) (p : Pre h0 h) (hm : new.length = m * s) (hb : cs.length / s + m < 274877906944) (h1 : 0 < m)
    (hk : ∀ h', Gr h0.n h' (.slice (some ⟨h.n + 1, 0, none⟩) (cs.length / s + m) s) s (cs ++ new) → Own h' (h.n + 1) 0 (cs.length / s + m) s (cs ++ new) → Pre h0 h' → h'.n = h.n + 2 → (∀ i, i < h.n → ¬ atBlock v i → h'.ob i = h.ob i) → K (.slice (some ⟨h.n + 1, 0, none⟩) (cs.length / s + m) s) h') :
    aappend P (h.alloc (.cells new .solo h.n)) t u v (.slice (some ⟨h.n, 0, none⟩) m c) K :=
  Gr.app (n0 := 0) hs hpos hby hu (w.alloc _) (p.alloc _) (asrc_new new s m c hm) hm hb h1 (fun h' g o p' hn he => hk h' g o p' hn (fun i hi hv => (he i (Nat.lt_succ_of_lt hi) hv).trans (alloc_lt _ hi)))
theorem notInt_sl {e : TypeId} {o : Option TypeDesc} (h : o = some (.slice e)) : notInt o := by rw [h, notInt_slice]; trivial
theorem notInt_str {o : Option TypeDesc} (h : o = some .string) : notInt o := by rw [h, notInt_string]; trivial

theorem toBytes_nat : ∀ l : List Nat, toBytes (l.map fun b => Value.int .u8 (b : Nat)) = some (l.map UInt8.ofNat)
  | [] => rfl
  | b :: r => by simp [toBytes, toBytes_nat r]
theorem set_set (h : AH) (p : Nat) (o o' : AOb) : (h.set p o).set p o' = h.set p o' := by
  unfold AH.set
  simp only
  congr 1
  funext j
  split <;> rfl
attribute [push_cast] set_set
theorem lt_set_of {h : AH} {i j : Nat} (o : AOb) (e : i < h.n) : i < (h.set j o).n := e
attribute [push_cast] lt_set_of
theorem castLit0 : ((0 : Nat) : Int) = 0 := rfl
theorem castLit1 : ((1 : Nat) : Int) = 1 := rfl
theorem castLit2 : ((2 : Nat) : Int) = 2 := rfl
theorem castLit3 : ((3 : Nat) : Int) = 3 := rfl
theorem castLit4 : ((4 : Nat) : Int) = 4 := rfl
theorem castLit5 : ((5 : Nat) : Int) = 5 := rfl
theorem castLit6 : ((6 : Nat) : Int) = 6 := rfl
theorem castLit7 : ((7 : Nat) : Int) = 7 := rfl
theorem castLit8 : ((8 : Nat) : Int) = 8 := rfl
theorem castLit9 : ((9 : Nat) : Int) = 9 := rfl
theorem castLit10 : ((10 : Nat) : Int) = 10 := rfl
theorem castLit11 : ((11 : Nat) : Int) = 11 := rfl
theorem castLit12 : ((12 : Nat) : Int) = 12 := rfl
theorem castLit13 : ((13 : Nat) : Int) = 13 := rfl
theorem castLit14 : ((14 : Nat) : Int) = 14 := rfl
theorem castLit15 : ((15 : Nat) : Int) = 15 := rfl
theorem castLit16 : ((16 : Nat) : Int) = 16 := rfl
theorem castLit17 : ((17 : Nat) : Int) = 17 := rfl
theorem castLit18 : ((18 : Nat) : Int) = 18 := rfl
theorem castLit19 : ((19 : Nat) : Int) = 19 := rfl
theorem castLit20 : ((20 : Nat) : Int) = 20 := rfl
attribute [push_cast high] castLit0 castLit1 castLit2 castLit3 castLit4 castLit5 castLit6 castLit7 castLit8 castLit9 castLit10 castLit11 castLit12 castLit13 castLit14 castLit15 castLit16 castLit17 castLit18 castLit19 castLit20
attribute [push_cast] List.replicate_succ List.replicate_zero ne_eq not_false_eq_true all1 Nat.zero_le Nat.le_refl
end Go.Sim
/- Numbers in bytes of seven bits: what is written comes back. Conditions: none. -/
set_option linter.unusedSimpArgs false
set_option linter.unusedVariables false
namespace Go.Sim
def var (n : Nat) : List Nat := if n ≤ 127 then [n] else (n % 128 + 128) :: var (n / 128)
termination_by n
decreasing_by omega
def sumv : List Nat → Nat
  | [] => 0
  | b :: r => b % 128 + 128 * sumv r
theorem sumv_snoc (x : Nat) : ∀ l : List Nat, sumv (l ++ [x]) = sumv l + x % 128 * 128 ^ l.length
  | [] => by simp [sumv]
  | b :: l => by
    simp only [List.cons_append, sumv, sumv_snoc x l, List.length_cons, Nat.pow_succ]
    rw [Nat.mul_add, Nat.add_assoc]
    congr 2
    rw [Nat.mul_comm 128, Nat.mul_assoc]
theorem sumv_pos (c : Nat) (hc : c % 128 ≠ 0) : ∀ l : List Nat, 0 < sumv (l ++ [c])
  | [] => by simp [sumv]; omega
  | b :: l => by
    have := sumv_pos c hc l
    simp only [List.cons_append, sumv]; omega
theorem var_sum (c : Nat) (hc : c < 128) : ∀ l : List Nat, (∀ b ∈ l, 127 < b ∧ b < 256) → (c ≠ 0 ∨ l = []) → var (sumv (l ++ [c])) = l ++ [c]
  | [], _, _ => by
    have : sumv ([] ++ [c]) = c := by simp [sumv]; omega
    rw [this, var, if_pos (by omega)]; rfl
  | b :: l, hall, hne => by
    have hc0 : c ≠ 0 := by simpa using hne
    have hb := hall b (by simp)
    have hp := sumv_pos c (by omega) l
    have ih := var_sum c hc l (fun x hx => hall x (by simp [hx])) (.inl hc0)
    have e : sumv (b :: l ++ [c]) = b % 128 + 128 * sumv (l ++ [c]) := rfl
    rw [e, var, if_neg (by omega)]
    have e1 : (b % 128 + 128 * sumv (l ++ [c])) % 128 + 128 = b := by omega
    have e2 : (b % 128 + 128 * sumv (l ++ [c])) / 128 = sumv (l ++ [c]) := by omega
    rw [e1, e2, ih]; rfl
theorem var_last (n : Nat) : n ≠ 0 → (var n).getLast? ≠ some 0 := by
  induction n using Nat.strongRecOn with
  | ind n ih =>
    intro hn
    rw [var]
    split
    · simpa using hn
    · have h1 : n / 128 ≠ 0 := by omega
      have := ih (n / 128) (by omega) h1
      have hne : var (n / 128) ≠ [] := by rw [var]; split <;> simp
      rw [List.getLast?_cons_of_ne_nil hne]; exact this
theorem var_no (l : List Nat) (hl : l ≠ []) : var (sumv (l ++ [0])) ≠ l ++ [0] := fun e => by
  by_cases h0 : sumv (l ++ [0]) = 0
  · rw [h0, var, if_pos (by omega)] at e
    cases l with
    | nil => exact hl rfl
    | cons a l => simp at e
  · have := var_last _ h0
    rw [e] at this
    simp at this
theorem var_lt (n : Nat) : ∀ b ∈ var n, b < 256 := by
  induction n using Nat.strongRecOn with
  | ind n ih =>
    intro b hb
    rw [var] at hb
    split at hb
    · simp at hb; omega
    · rcases List.mem_cons.1 hb with rfl | hb
      · omega
      · exact ih _ (by omega) b hb
theorem ofNat_inj : ∀ a b : List Nat, (∀ x ∈ a, x < 256) → (∀ x ∈ b, x < 256) → a.map UInt8.ofNat = b.map UInt8.ofNat → a = b
  | [], [], _, _, _ => rfl
  | [], _ :: _, _, _, e => by simp at e
  | _ :: _, [], _, _, e => by simp at e
  | x :: a, y :: b, ha, hb, e => by
    simp only [List.map_cons, List.cons.injEq] at e
    have hx := ha x (by simp)
    have hy := hb y (by simp)
    have h1 : x = y := by
      have := congrArg UInt8.toNat e.1
      simp [UInt8.toNat_ofNat'] at this
      omega
    rw [h1, ofNat_inj a b (fun z hz => ha z (by simp [hz])) (fun z hz => hb z (by simp [hz])) e.2]
/-- Bytes of a text from a place on. -/
def bN (s : ByteArray) (i : Nat) : Nat := (byteAt s i).toNat
theorem bN_lt (s : ByteArray) (i : Nat) : bN s i < 256 := (byteAt s i).toNat_lt
def bl (s : ByteArray) (a i : Nat) : List Nat := (List.range i).map fun j => bN s (a + j)
theorem bl_succ (s : ByteArray) (a i : Nat) : bl s a (i + 1) = bl s a i ++ [bN s (a + i)] := by simp [bl, List.range_succ]
theorem bl_len (s : ByteArray) (a i : Nat) : (bl s a i).length = i := by simp [bl]
theorem bl_lt (s : ByteArray) (a i : Nat) : ∀ b ∈ bl s a i, b < 256 := fun b hb => by
  simp only [bl, List.mem_map] at hb
  obtain ⟨j, _, rfl⟩ := hb
  exact bN_lt _ _
theorem extract_bl (s : ByteArray) (a i : Nat) (h : a + i ≤ s.size) : s.extract a (a + i) = ⟨((bl s a i).map UInt8.ofNat).toArray⟩ := by
  have hs : s.size = s.data.size := rfl
  apply ByteArray.ext
  apply Array.ext
  · rw [ByteArray.data_extract, Array.size_extract]
    simp only [List.size_toArray, List.length_map, bl_len]
    omega
  · intro j h1 h2
    simp only [List.size_toArray, List.length_map, bl_len] at h2
    have hj : a + j < s.data.size := by omega
    simp only [ByteArray.data_extract, Array.getElem_extract, List.getElem_toArray, List.getElem_map, bl, List.getElem_range, bN, byteAt]
    simp only [Array.getD, hj, dite_true]
    simp
theorem vt_eq (n : Nat) (s : ByteArray) (a i : Nat) (h : a + i ≤ s.size) : (⟨((var n).map UInt8.ofNat).toArray⟩ : ByteArray) = s.extract a (a + i) ↔ var n = bl s a i := by
  rw [extract_bl s a i h]
  constructor
  · intro e
    have e1 : (var n).map UInt8.ofNat = (bl s a i).map UInt8.ofNat := by simpa using e
    exact ofNat_inj _ _ (var_lt n) (bl_lt s a i) e1
  · intro e; rw [e]
/-- VarText of a number that has one. -/
def vt (n : Int) : ByteArray := ⟨((var n.toNat).map UInt8.ofNat).toArray⟩
def VN (out : List Nat) : List Value := out.map fun b => .int .u8 (b : Nat)
theorem vn_len (out : List Nat) : (VN out).length = out.length := by simp [VN]
theorem vn_snoc (out : List Nat) (x : Nat) : VN (out ++ [x]) = VN out ++ [.int .u8 (x : Nat)] := by simp [VN]
/-- What is read of a number: from its i-th byte on. -/
def rvGo (s : ByteArray) (a : Nat) : Nat → Nat → Nat → Option (Nat × Nat)
  | 0, _, _ => none
  | k + 1, i, n => if a + i < s.size then (if 127 < bN s (a + i) then rvGo s a k (i + 1) (n + bN s (a + i) % 128 * 128 ^ i)
      else if (0 < i ∧ bN s (a + i) = 0) ∨ 1000000000 < n + bN s (a + i) % 128 * 128 ^ i then none else some (n + bN s (a + i) % 128 * 128 ^ i, a + i + 1)) else none
def inB (n low high : Int) : Bool := decide (low ≤ n) && decide (n ≤ high)
def rv (s : ByteArray) (a : Int) : Option (Nat × Nat) := if inB a 0 s.size then rvGo s a.toNat 5 0 0 else none
def oN (r : Option (Nat × Nat)) : Int := match r with | some p => (p.1 : Nat) | none => 0
def oX (r : Option (Nat × Nat)) : Int := match r with | some p => (p.2 : Nat) | none => 0
theorem rvGo_succ (s : ByteArray) (a k i n : Nat) (h : a + i < s.size) : rvGo s a (k + 1) i n = if 127 < bN s (a + i) then rvGo s a k (i + 1) (n + bN s (a + i) % 128 * 128 ^ i)
      else if (0 < i ∧ bN s (a + i) = 0) ∨ 1000000000 < n + bN s (a + i) % 128 * 128 ^ i then none else some (n + bN s (a + i) % 128 * 128 ^ i, a + i + 1) := by rw [rvGo, if_pos h]
theorem rvGo_out (s : ByteArray) (a k i n : Nat) (h : ¬ a + i < s.size) : rvGo s a k i n = none := by cases k with
  | zero => rfl
  | succ k => rw [rvGo, if_neg h]
theorem pow128 {i : Nat} (h : i < 5) : 128 ^ i ≤ 268435456 := by
  have : i = 0 ∨ i = 1 ∨ i = 2 ∨ i = 3 ∨ i = 4 := by omega
  rcases this with rfl | rfl | rfl | rfl | rfl <;> decide
theorem dig_lt {c i : Nat} (h : i < 5) : c % 128 * 128 ^ i ≤ 127 * 128 ^ i := Nat.mul_le_mul_right _ (by omega)
/-- What is read of a number ends in the text, and is a number that may be told. -/
theorem rvGo_some (s : ByteArray) (a : Nat) : ∀ (k i n : Nat) (p : Nat × Nat), rvGo s a k i n = some p → p.1 ≤ 1000000000 ∧ a + i < p.2 ∧ p.2 ≤ s.size
  | 0, i, n, p, h => by cases h
  | k + 1, i, n, p, h => by
    rw [rvGo] at h
    split at h
    · split at h
      · have := rvGo_some s a k (i + 1) _ p h
        omega
      · split at h
        · cases h
        · cases h
          simp only; omega
    · cases h
theorem rv_some {s : ByteArray} {a : Int} {p : Nat × Nat} (h : rv s a = some p) : p.1 ≤ 1000000000 ∧ 0 ≤ a ∧ a < p.2 ∧ p.2 ≤ s.size := by
  unfold rv at h
  split at h
  · rename_i hb
    simp [inB] at hb
    have := rvGo_some _ _ _ _ _ _ h
    omega
  · cases h
/-- What is read of a short text. -/
def rs (s : ByteArray) (a : Int) : Option (Nat × Nat) := match rv s a with
  | some p => if 20000 < p.1 ∨ s.size < p.2 + p.1 then none else some p
  | none => none
theorem rs_some {s : ByteArray} {a : Int} {p : Nat × Nat} (h : rs s a = some p) : rv s a = some p ∧ p.1 ≤ 20000 ∧ p.2 + p.1 ≤ s.size := by
  unfold rs at h
  split at h
  · rename_i q hq
    split at h
    · cases h
    · rename_i hc
      cases h
      exact ⟨hq, by omega, by omega⟩
  · cases h
/-- The short text, and what is behind it. -/
def sT (s : ByteArray) (r : Option (Nat × Nat)) : ByteArray := match r with | some p => s.extract p.2 (p.2 + p.1) | none => ⟨#[]⟩
def sX (r : Option (Nat × Nat)) : Int := match r with | some p => (p.2 + p.1 : Nat) | none => 0
/-- A reader's state behind it: the place. -/
def nxN (r : Option (Nat × Nat)) (a : Nat) : Nat := match r with | some p => p.2 | none => a
def nxT (r : Option (Nat × Nat)) (a : Nat) : Nat := match r with | some p => p.2 + p.1 | none => a
def rdOb (p : Nat) (text : ByteArray) (a : Nat) (bad : Bool) : AOb := .cells [.string text, .int .i64 (a : Nat), .bool bad] .solo p
theorem rdOb_low (n p : Nat) (text : ByteArray) (a : Nat) (bad : Bool) : LowOb n (rdOb p text a bad) := by
  simp only [rdOb, LowOb]
  intro v hv
  simp only [List.mem_cons, List.not_mem_nil, or_false] at hv
  rcases hv with rfl | rfl | rfl
  · exact low_string _ _
  · exact low_int _ _ _
  · exact low_bool _ _
theorem Big.ltOb {h : AH} (b : Big h) {p : Nat} {o : AOb} (e : h.ob p = o) (ho : o ≠ .none) : p < h.n := Nat.lt_of_not_le (fun hi => ho (e.symm.trans (b p hi)))
theorem oN_some (n x : Nat) : oN (some (n, x)) = (n : Int) := rfl
theorem oN_none : oN none = 0 := rfl
theorem oX_some (n x : Nat) : oX (some (n, x)) = (x : Int) := rfl
theorem oX_none : oX none = 0 := rfl
theorem sX_none : sX none = 0 := rfl
theorem sT_none (s : ByteArray) : sT s none = ⟨#[]⟩ := rfl
theorem nxN_some (n x a : Nat) : nxN (some (n, x)) a = x := rfl
theorem nxN_none (a : Nat) : nxN none a = a := rfl
theorem nxT_some (n x a : Nat) : nxT (some (n, x)) a = x + n := rfl
theorem nxT_none (a : Nat) : nxT none a = a := rfl
attribute [push_cast] oN_some oN_none oX_some oX_none sX_none sT_none nxN_some nxN_none nxT_none Option.isSome_some Option.isSome_none Option.isNone_some Option.isNone_none Option.getD_none Option.getD_some
end Go.Sim
/- The sum of a text, and its four bytes. Conditions: those that each theorem names. -/
set_option linter.unusedSimpArgs false
set_option linter.unusedVariables false
namespace Go.Sim
def sx (a b : Int) : Int := IntKind.u32.wrap (BitVec.ofInt IntKind.u32.bits a ^^^ BitVec.ofInt IntKind.u32.bits b).toNat
def half (s : Int) : Int := IntKind.u32.wrap (s.tdiv 2)
def bit (s : Int) : Int := if s.tmod 2 = 1 then sx (half s) 3558460437 else half s
def cbits : Nat → Int → Int
  | 0, s => s
  | n + 1, s => cbits n (bit s)
def sum1 (s : Int) (b : Nat) : Int := cbits 8 (sx s (IntKind.u32.wrap b))
theorem cbits_step {j : Nat} {u : Int} (hj : j < 8) : cbits (8 - j) u = cbits (8 - (j + 1)) (bit u) := by
  rw [show 8 - j = (8 - (j + 1)) + 1 by omega]; rfl
theorem bit_pos {u : Int} (h : u.tmod 2 = 1) : bit u = sx (half u) 3558460437 := by rw [bit, if_pos h]
theorem bit_neg {u : Int} (h : ¬ u.tmod 2 = 1) : bit u = half u := by rw [bit, if_neg h]
def sumFrom (t : ByteArray) (i : Nat) (s : Int) : Int := if i < t.size then sumFrom t (i + 1) (sum1 s (byteAt t i).toNat) else s
termination_by t.size - i
theorem sumFrom_lt {t : ByteArray} {i : Nat} {s : Int} (h : i < t.size) : sumFrom t i s = sumFrom t (i + 1) (sum1 s (byteAt t i).toNat) := by rw [sumFrom, if_pos h]
theorem sumFrom_end {t : ByteArray} {i : Nat} {s : Int} (h : ¬ i < t.size) : sumFrom t i s = s := by rw [sumFrom, if_neg h]
def U32 (x : Int) : Prop := 0 ≤ x ∧ x < 4294967296
theorem wrap_u32 (n : Int) : U32 (IntKind.u32.wrap n) := by
  simp only [IntKind.wrap, IntKind.bits, IntKind.signed, Bool.false_and, U32]
  simp; omega
theorem cbits_u32 : ∀ (n : Nat) (s : Int), U32 s → U32 (cbits n s)
  | 0, s, h => h
  | n + 1, s, h => cbits_u32 n (bit s) (by unfold bit; split <;> exact wrap_u32 _)
theorem sumFrom_u32 (t : ByteArray) (i : Nat) (s : Int) (h : U32 s) : U32 (sumFrom t i s) := by
  by_cases hi : i < t.size
  · rw [sumFrom_lt hi]
    exact sumFrom_u32 t (i + 1) _ (cbits_u32 8 _ (wrap_u32 _))
  · rw [sumFrom_end hi]; exact h
termination_by t.size - i
def b8 (x : Int) (k : Nat) : UInt8 := UInt8.ofNat (x.toNat / 256 ^ k)
/-- A sum's four bytes, the highest first. -/
def four (x : Int) : ByteArray := ⟨#[b8 x 3, b8 x 2, b8 x 1, b8 x 0]⟩
theorem four_size (x : Int) : (four x).size = 4 := rfl
def crc (t : ByteArray) : Int := sumFrom t 0 4294967295
theorem crc_u32 (t : ByteArray) : U32 (crc t) := sumFrom_u32 t 0 _ ⟨by decide, by decide⟩
def sealT (t : ByteArray) : ByteArray := t ++ four (crc t)
theorem u8_ofNat (n : Nat) : UInt8.ofNat (IntKind.u8.wrap (n : Int)).toNat = UInt8.ofNat n := by
  simp only [IntKind.wrap, IntKind.bits, IntKind.signed, Bool.false_and]
  apply UInt8.toNat_inj.1
  simp; omega
theorem fdiv_nat (n k : Nat) : ((n : Int).fdiv (k : Int)) = ((n / k : Nat) : Int) := by
  rw [Int.fdiv_eq_ediv_of_nonneg _ (by omega)]; norm_cast
theorem sh_byte {x : Int} (hx : U32 x) (k : Nat) (hk : k < 4) (m : Nat) (hm : m = 8 * k) : UInt8.ofNat (IntKind.u8.wrap (x.fdiv (2 ^ min m IntKind.u32.bits))).toNat = b8 x k := by
  obtain ⟨n, rfl⟩ := Int.eq_ofNat_of_zero_le hx.1
  have e : min m IntKind.u32.bits = 8 * k := by rw [hm]; exact Nat.min_eq_left (by show 8 * k ≤ 32; omega)
  rw [e, show (2 : Int) ^ (8 * k) = ((256 ^ k : Nat) : Int) by rw [Int.pow_mul]; norm_cast, fdiv_nat, u8_ofNat]
  simp [b8]
theorem sh_byte0 {x : Int} (hx : U32 x) : UInt8.ofNat (IntKind.u8.wrap x).toNat = b8 x 0 := by
  obtain ⟨n, rfl⟩ := Int.eq_ofNat_of_zero_le hx.1
  rw [u8_ofNat]; simp [b8]
def sh8 : Nat → Int → Int
  | 0, x => x
  | j + 1, x => (sh8 j x).fdiv (2 ^ min (Int.toNat 8) IntKind.i64.bits)
def lo8 (x : Int) : Int := IntKind.u8.wrap (IntKind.i64.wrap (BitVec.ofInt IntKind.i64.bits x &&& BitVec.ofInt IntKind.i64.bits 255).toNat)
theorem sh8_nat (n : Nat) : ∀ j, sh8 j (n : Int) = ((n / 256 ^ j : Nat) : Int)
  | 0 => by simp [sh8]
  | j + 1 => by
    rw [sh8, sh8_nat n j, show ((2 : Int) ^ min (Int.toNat 8) IntKind.i64.bits) = ((256 : Nat) : Int) from rfl, fdiv_nat, Nat.div_div_eq_div_mul, Nat.pow_succ]
theorem lo8_nat (n : Nat) (h : n < 4294967296) : lo8 (n : Int) = ((n % 256 : Nat) : Int) := by
  unfold lo8
  have e : (BitVec.ofInt IntKind.i64.bits (n : Int) &&& BitVec.ofInt IntKind.i64.bits 255).toNat = n % 256 := by
    show (BitVec.ofInt 64 (n : Int) &&& BitVec.ofInt 64 255).toNat = n % 256
    have e1 : BitVec.ofInt 64 (n : Int) = BitVec.ofNat 64 n := by simp
    have e2 : BitVec.ofInt 64 (255 : Int) = BitVec.ofNat 64 255 := by rfl
    rw [e1, e2, BitVec.toNat_and, BitVec.toNat_ofNat, BitVec.toNat_ofNat]
    have e3 : n % 2 ^ 64 = n := Nat.mod_eq_of_lt (by omega)
    have e4 : 255 % 2 ^ 64 = 2 ^ 8 - 1 := by decide
    rw [e3, e4, Nat.and_two_pow_sub_one_eq_mod]
  rw [e, wrapNat (by omega), w8 (by omega) (by omega)]
theorem lo_byte {x : Int} (hx : U32 x) (k : Nat) : UInt8.ofNat (lo8 (sh8 k x)).toNat = b8 x k := by
  obtain ⟨n, rfl⟩ := Int.eq_ofNat_of_zero_le hx.1
  have h2 : n < 4294967296 := by have := hx.2; omega
  rw [sh8_nat, lo8_nat _ (Nat.lt_of_le_of_lt (Nat.div_le_self _ _) h2)]
  rw [Int.toNat_natCast, b8, Int.toNat_natCast]
  apply UInt8.toNat_inj.1
  simp
/-- Four bytes, of which the last j are written. -/
def hfL (x : Int) : Nat → List Value
  | 0 => [.int .u8 0, .int .u8 0, .int .u8 0, .int .u8 0]
  | 1 => [.int .u8 0, .int .u8 0, .int .u8 0, .int .u8 (lo8 (sh8 0 x))]
  | 2 => [.int .u8 0, .int .u8 0, .int .u8 (lo8 (sh8 1 x)), .int .u8 (lo8 (sh8 0 x))]
  | 3 => [.int .u8 0, .int .u8 (lo8 (sh8 2 x)), .int .u8 (lo8 (sh8 1 x)), .int .u8 (lo8 (sh8 0 x))]
  | _ => [.int .u8 (lo8 (sh8 3 x)), .int .u8 (lo8 (sh8 2 x)), .int .u8 (lo8 (sh8 1 x)), .int .u8 (lo8 (sh8 0 x))]
theorem hfL_len (x : Int) (j : Nat) : (hfL x j).length = 4 := by unfold hfL; split <;> rfl
theorem hfL_set (x : Int) (j : Nat) (h : j < 4) : (hfL x j).set (3 - j) (.int .u8 (lo8 (sh8 j x))) = hfL x (j + 1) := by
  have : j = 0 ∨ j = 1 ∨ j = 2 ∨ j = 3 := by omega
  rcases this with rfl | rfl | rfl | rfl <;> rfl
theorem hfL_bytes {x : Int} (hx : U32 x) : toBytes (hfL x 4) = some [b8 x 3, b8 x 2, b8 x 1, b8 x 0] := by
  simp only [hfL, toBytes_cons, toBytes_nil, Option.map_some, lo_byte hx]
end Go.Sim
/- Messages: what is told of one, and what is read. Conditions: those that each theorem names. -/
set_option linter.unusedSimpArgs false
set_option linter.unusedVariables false
namespace Go.Sim
/-- What was read of a number is told by the bytes that were read. -/
theorem rvGo_vt (s : ByteArray) (a : Nat) : ∀ (k i n : Nat) (p : Nat × Nat), n = sumv (bl s a i) → (∀ b ∈ bl s a i, 127 < b ∧ b < 256) → rvGo s a k i n = some p → vt (p.1 : Int) = s.extract a p.2
  | 0, i, n, p, _, _, h => by cases h
  | k + 1, i, n, p, hn, hall, h => by
    rw [rvGo] at h
    split at h
    · rename_i hlt
      have hv : n + bN s (a + i) % 128 * 128 ^ i = sumv (bl s a (i + 1)) := by rw [bl_succ, sumv_snoc, bl_len, hn]
      split at h
      · rename_i hc
        refine rvGo_vt s a k (i + 1) _ p hv (fun b hb => ?_) h
        rw [bl_succ, List.mem_append, List.mem_singleton] at hb
        rcases hb with hb | hb
        · exact hall b hb
        · rw [hb]; exact ⟨hc, bN_lt _ _⟩
      · rename_i hc
        split at h
        · cases h
        · rename_i hne
          cases h
          show (⟨((var ((n + bN s (a + i) % 128 * 128 ^ i : Nat) : Int).toNat).map UInt8.ofNat).toArray⟩ : ByteArray) = s.extract a (a + i + 1)
          rw [Int.toNat_natCast]
          refine (vt_eq _ s a (i + 1) (by omega)).2 ?_
          rw [hv, bl_succ]
          refine var_sum _ (by omega) _ hall ?_
          by_cases h0 : bN s (a + i) = 0
          · right
            have : i = 0 := by omega
            rw [this]; rfl
          · exact .inl h0
    · cases h
theorem rv_vt {s : ByteArray} {a : Nat} {p : Nat × Nat} (h : rv s (a : Int) = some p) : vt (p.1 : Int) = s.extract a p.2 := by
  unfold rv at h
  split at h
  · rw [Int.toNat_natCast] at h
    exact rvGo_vt s a 5 0 0 p rfl (by simp [bl]) h
  · cases h
theorem var_len : ∀ (k m : Nat), m < 128 ^ (k + 1) → (var m).length ≤ k + 1
  | 0, m, h => by rw [var, if_pos (by omega)]; simp
  | k + 1, m, h => by
    rw [var]
    split
    · simp
    · have : (var (m / 128)).length ≤ k + 1 := var_len k (m / 128) (by
        rw [Nat.div_lt_iff_lt_mul (by omega)]
        rw [Nat.pow_succ] at h; exact h)
      simp only [List.length_cons]; omega
theorem vt_size {n : Int} (h : n ≤ 1000000000) : (vt n).size ≤ 5 := by
  have h5 : n.toNat < 128 ^ (4 + 1) := by omega
  have := var_len 4 n.toNat h5
  simpa [vt, ByteArray.size] using this
theorem extract_app (s : ByteArray) (a b c : Nat) (h1 : a ≤ b) (h2 : b ≤ c) : s.extract a b ++ s.extract b c = s.extract a c := by
  rw [ByteArray.extract_append_extract, Nat.min_eq_left h1, Nat.max_eq_right h2]
theorem extract_all (s : ByteArray) : s.extract 0 s.size = s := by simp
structure Msg where
  kind : Int
  worker : Int
  task : Int
  try_ : Int
  body : ByteArray
  deriving DecidableEq
def Msg.v (m : Msg) : Value := .agg #[.int .i64 m.kind, .int .i64 m.worker, .int .i64 m.task, .int .i64 m.try_, .string m.body]
def msgOk (m : Msg) : Bool := inB m.kind 1 4 && inB m.worker 1 3 && inB m.task 0 20 && inB m.try_ 0 1000000000 && decide ((m.body.size : Int) ≤ 15000) && (decide (m.body = ⟨#[]⟩) || decide (m.kind = 2) || decide (m.kind = 3))
def msgBytes (m : Msg) : ByteArray := (⟨#[UInt8.ofNat (IntKind.u8.wrap m.kind).toNat, UInt8.ofNat (IntKind.u8.wrap m.worker).toNat]⟩ : ByteArray) ++ vt m.task ++ vt m.try_ ++ m.body
def msgText (m : Msg) : ByteArray := if msgOk m = true then sealT (msgBytes m) else ⟨#[]⟩
theorem msgOk_ (m : Msg) (h : msgOk m = true) : (1 ≤ m.kind ∧ m.kind ≤ 4) ∧ (1 ≤ m.worker ∧ m.worker ≤ 3) ∧ (0 ≤ m.task ∧ m.task ≤ 20) ∧ (0 ≤ m.try_ ∧ m.try_ ≤ 1000000000) ∧ (m.body.size : Int) ≤ 15000 := by
  simp only [msgOk, inB, Bool.and_eq_true, decide_eq_true_eq] at h
  omega
theorem msgBytes_size (m : Msg) (h : msgOk m = true) : (msgBytes m).size ≤ 15012 := by
  obtain ⟨_, _, h1, h2, h3⟩ := msgOk_ m h
  have z1 := vt_size (n := m.task) (by omega)
  have z2 := vt_size (n := m.try_) (by omega)
  have z0 : (⟨#[UInt8.ofNat (IntKind.u8.wrap m.kind).toNat, UInt8.ofNat (IntKind.u8.wrap m.worker).toNat]⟩ : ByteArray).size = 2 := rfl
  simp only [msgBytes, ByteArray.size_append, z0]
  omega
def unsealT (t : ByteArray) : Option ByteArray := if t.size < 4 then none else if t.size - 4 ≤ 20000 ∧ sealT (t.extract 0 (t.size - 4)) = t then some (t.extract 0 (t.size - 4)) else none
theorem unsealT_some {t s : ByteArray} (h : unsealT t = some s) : sealT s = t ∧ s.size ≤ 20000 := by
  unfold unsealT at h
  split at h
  · cases h
  · split at h
    · rename_i hc
      cases h
      refine ⟨hc.2, ?_⟩
      simp only [ByteArray.size_extract]; omega
    · cases h
theorem app_eq_iff {a b t : ByteArray} (ha : a = t.extract 0 a.size) (h : t.size = a.size + b.size) : a ++ b = t ↔ t.extract a.size t.size = b := by
  constructor
  · intro e
    have : t.extract a.size t.size = (a ++ b).extract a.size (a ++ b).size := by rw [e]
    rw [this, ByteArray.size_append]; first | exact ByteArray.extract_append_eq_right rfl rfl | simp
  · intro e
    rw [← e]
    conv => lhs; lhs; rw [ha]
    rw [extract_app t 0 a.size t.size (by omega) (by omega), extract_all]
theorem seal_iff {t : ByteArray} (h4 : ¬ t.size < 4) : sealT (t.extract 0 (t.size - 4)) = t ↔ t.extract (t.size - 4) t.size = four (crc (t.extract 0 (t.size - 4))) := by
  have hs : (t.extract 0 (t.size - 4)).size = t.size - 4 := by simp only [ByteArray.size_extract]; omega
  have := app_eq_iff (a := t.extract 0 (t.size - 4)) (b := four (crc (t.extract 0 (t.size - 4)))) (t := t) (by rw [hs]) (by rw [hs, four_size]; omega)
  rw [hs] at this
  exact this
def readMsg (t : ByteArray) : Option Msg := match unsealT t with
  | none => none
  | some s => if s.size < 2 then none else match rv s 2 with
    | none => none
    | some p => match rv s (p.2 : Nat) with
      | none => none
      | some q => if msgOk ⟨bN s 0, bN s 1, p.1, q.1, s.extract q.2 s.size⟩ then some ⟨bN s 0, bN s 1, p.1, q.1, s.extract q.2 s.size⟩ else none
def msg0 : Msg := ⟨0, 0, 0, 0, ⟨#[]⟩⟩
theorem head2 (s : ByteArray) (h : 2 ≤ s.size) : (⟨#[UInt8.ofNat (bN s 0), UInt8.ofNat (bN s 1)]⟩ : ByteArray) = s.extract 0 2 := by
  rw [show (2 : Nat) = 0 + 2 from rfl, extract_bl s 0 2 (by omega)]
  simp [bl, List.range_succ]
/-- What was read is told by the text that was read. -/
theorem msg_back {s : ByteArray} (h2 : 2 ≤ s.size) {p q : Nat × Nat} (hp : rv s ((2 : Nat) : Int) = some p) (hq : rv s (p.2 : Nat) = some q) : msgBytes ⟨bN s 0, bN s 1, p.1, q.1, s.extract q.2 s.size⟩ = s := by
  have e1 := rv_some hp
  have e2 := rv_some hq
  simp only [msgBytes]
  rw [u8_ofNat, u8_ofNat, head2 s h2, rv_vt hp, rv_vt hq, extract_app s 0 2 p.2 (by omega) (by omega), extract_app s 0 p.2 q.2 (by omega) (by omega), extract_app s 0 q.2 s.size (by omega) (by omega), extract_all]
end Go.Sim
/- Stores: what is told of one. Conditions: those that each theorem names. -/
set_option linter.unusedSimpArgs false
set_option linter.unusedVariables false
namespace Go.Sim
structure Var where
  name : ByteArray
  val : ByteArray
  deriving DecidableEq
structure Cell where
  name : ByteArray
  key : ByteArray
  val : ByteArray
  deriving DecidableEq
structure Store where
  vars : List Var
  cells : List Cell
  out : ByteArray
  deriving DecidableEq
def Var.enc (x : Var) : List Value := [.string x.name, .string x.val]
def Cell.enc (x : Cell) : List Value := [.string x.name, .string x.key, .string x.val]
/-- A short text. -/
def short (s : ByteArray) : ByteArray := vt (s.size : Nat) ++ s
theorem short_size (s : ByteArray) (h : s.size ≤ 1000000000) : (short s).size ≤ s.size + 5 := by
  have := vt_size (n := (s.size : Int)) (by omega)
  simp only [short, ByteArray.size_append]; omega
def cat (l : List ByteArray) : ByteArray := l.foldl (· ++ ·) ⟨#[]⟩
theorem cat_snoc (l : List ByteArray) (x : ByteArray) : cat (l ++ [x]) = cat l ++ x := by simp [cat]
def Var.txt (x : Var) : ByteArray := short x.name ++ short x.val
def Cell.txt (x : Cell) : ByteArray := short x.name ++ short x.key ++ short x.val
def varsT (l : List Var) (i : Nat) : ByteArray := cat ((l.take i).map Var.txt)
def cellsT (l : List Cell) (i : Nat) : ByteArray := cat ((l.take i).map Cell.txt)
theorem varsT_succ {l : List Var} {i : Nat} (h : i < l.length) : varsT l (i + 1) = varsT l i ++ l[i].txt := by
  simp only [varsT, List.take_add_one, List.getElem?_eq_getElem h, Option.toList_some, List.map_append, List.map_cons, List.map_nil, cat_snoc]
theorem cellsT_succ {l : List Cell} {i : Nat} (h : i < l.length) : cellsT l (i + 1) = cellsT l i ++ l[i].txt := by
  simp only [cellsT, List.take_add_one, List.getElem?_eq_getElem h, Option.toList_some, List.map_append, List.map_cons, List.map_nil, cat_snoc]
theorem varsT_all (l : List Var) : varsT l l.length = cat (l.map Var.txt) := by simp [varsT]
theorem cellsT_all (l : List Cell) : cellsT l l.length = cat (l.map Cell.txt) := by simp [cellsT]
/-- The text of a store that is right. -/
def storeT (s : Store) : ByteArray := vt (s.vars.length : Nat) ++ varsT s.vars s.vars.length ++ vt (s.cells.length : Nat) ++ cellsT s.cells s.cells.length ++ short s.out
theorem app_assoc (a b c : ByteArray) : a ++ (b ++ c) = a ++ b ++ c := (ByteArray.append_assoc).symm
def letter (c : Int) : Bool := inB c 97 122 || inB c 65 90
def letters (s : ByteArray) : Bool := allAt s letter && inB s.size 1 8
def ltB (a b : ByteArray) : Bool := Op.bytesLess a.toList b.toList
def cmpB (a b : ByteArray) : Int := Lib.compareBytes a.data.toList b.data.toList
def cellCmp (a b : Cell) : Int := if a.name = b.name then cmpB a.key b.key else cmpB a.name b.name
def varOkAt (l : List Var) (j : Nat) : Bool := match l[j]? with
  | some x => letters x.name && decide ((x.val.size : Int) ≤ 40) && (j == 0 || match l[j - 1]? with | some y => ltB y.name x.name | none => false)
  | none => false
def cellOkAt (l : List Cell) (j : Nat) : Bool := match l[j]? with
  | some x => letters x.name && decide ((x.key.size : Int) ≤ 40) && decide ((x.val.size : Int) ≤ 40) && (j == 0 || match l[j - 1]? with | some y => decide (cellCmp y x < 0) | none => false)
  | none => false
def storeOk (s : Store) : Bool := allN s.vars.length (varOkAt s.vars) && allN s.cells.length (cellOkAt s.cells) && decide ((s.vars.length : Int) ≤ 60) && decide ((s.cells.length : Int) ≤ 2000) && decide ((s.out.size : Int) ≤ 3000)
structure RdS (h : AH) (A B : Option Addr) (s : Store) : Prop where
  vars : RdE h A 2 Var.enc s.vars
  cells : RdE h B 3 Cell.enc s.cells
structure Sz (s : Store) : Prop where
  vars : ∀ x ∈ s.vars, x.name.size ≤ maxLen ∧ x.val.size ≤ maxLen
  cells : ∀ x ∈ s.cells, x.name.size ≤ maxLen ∧ x.key.size ≤ maxLen ∧ x.val.size ≤ maxLen
  out : s.out.size ≤ maxLen
  nv : s.vars.length < 274877906944
  nc : s.cells.length < 274877906944
theorem storeOk_v {s : Store} {i : Nat} (hi : i < s.vars.length) (e : varOkAt s.vars i = false) : false = storeOk s := by simp [storeOk, allN_false hi e]
theorem storeOk_c {s : Store} {i : Nat} (hi : i < s.cells.length) (e : cellOkAt s.cells i = false) : false = storeOk s := by simp [storeOk, allN_false hi e]
theorem varOkAt_eq {l : List Var} {i : Nat} (hi : i < l.length) : varOkAt l i = (letters l[i].name && decide ((l[i].val.size : Int) ≤ 40) && (i == 0 || ltB (l[i - 1]'(by omega)).name l[i].name)) := by
  simp [varOkAt, hi, show i - 1 < l.length by omega]
theorem cellOkAt_eq {l : List Cell} {i : Nat} (hi : i < l.length) : cellOkAt l i = (letters l[i].name && decide ((l[i].key.size : Int) ≤ 40) && decide ((l[i].val.size : Int) ≤ 40) && (i == 0 || decide (cellCmp (l[i - 1]'(by omega)) l[i] < 0))) := by
  simp [cellOkAt, hi, show i - 1 < l.length by omega]

theorem varOk_size {s : Store} (h : storeOk s = true) {i : Nat} (hi : i < s.vars.length) : s.vars[i].name.size ≤ 8 ∧ s.vars[i].val.size ≤ 40 := by
  simp only [storeOk, Bool.and_eq_true] at h
  have h1 := allN_iff.1 h.1.1.1.1 i hi
  rw [varOkAt_eq hi] at h1
  simp only [letters, inB, Bool.and_eq_true, decide_eq_true_eq] at h1
  omega
theorem cellOk_size {s : Store} (h : storeOk s = true) {i : Nat} (hi : i < s.cells.length) : s.cells[i].name.size ≤ 8 ∧ s.cells[i].key.size ≤ 40 ∧ s.cells[i].val.size ≤ 40 := by
  simp only [storeOk, Bool.and_eq_true] at h
  have h1 := allN_iff.1 h.1.1.1.2 i hi
  rw [cellOkAt_eq hi] at h1
  simp only [letters, inB, Bool.and_eq_true, decide_eq_true_eq] at h1
  omega
theorem storeOk_len {s : Store} (h : storeOk s = true) : s.vars.length ≤ 60 ∧ s.cells.length ≤ 2000 ∧ s.out.size ≤ 3000 := by
  simp only [storeOk, Bool.and_eq_true, decide_eq_true_eq] at h
  omega
theorem varsT_size {s : Store} (h : storeOk s = true) : ∀ i, i ≤ s.vars.length → (varsT s.vars i).size ≤ 58 * i
  | 0, _ => by simp [varsT, cat, ByteArray.size]
  | i + 1, hi => by
    have ih := varsT_size h i (by omega)
    have hs := varOk_size h (i := i) (by omega)
    have h1 := short_size s.vars[i].name (by omega)
    have h2 := short_size s.vars[i].val (by omega)
    rw [varsT_succ (by omega), ByteArray.size_append, Var.txt, ByteArray.size_append]
    omega
theorem cellsT_size {s : Store} (h : storeOk s = true) : ∀ i, i ≤ s.cells.length → (cellsT s.cells i).size ≤ 103 * i
  | 0, _ => by simp [cellsT, cat, ByteArray.size]
  | i + 1, hi => by
    have ih := cellsT_size h i (by omega)
    have hs := cellOk_size h (i := i) (by omega)
    have h1 := short_size s.cells[i].name (by omega)
    have h2 := short_size s.cells[i].key (by omega)
    have h3 := short_size s.cells[i].val (by omega)
    rw [cellsT_succ (by omega), ByteArray.size_append, Cell.txt, ByteArray.size_append, ByteArray.size_append]
    omega
theorem bytesV_append (a b : ByteArray) : bytesV (a ++ b) = bytesV a ++ bytesV b := by simp [bytesV]
theorem bytesV_len (a : ByteArray) : (bytesV a).length = a.size := by simp [bytesV]
theorem toBytes_bytesV (a : ByteArray) : (toBytes (bytesV a)).map (fun l => (⟨l.toArray⟩ : ByteArray)) = some a := by
  simp [bytesV, toBytes_map]
theorem toBytes_bytesV' (a : ByteArray) : toBytes (bytesV a) = some a.data.toList := by
  simp [bytesV, toBytes_map]
theorem vt_pos (n : Int) : 0 < (vt n).size := by
  have : 0 < (var n.toNat).length := by rw [var]; split <;> simp
  simpa [vt, ByteArray.size] using this
theorem short_pos (s : ByteArray) : 0 < (short s).size := by
  have := vt_pos (s.size : Nat)
  simp only [short, ByteArray.size_append]; omega
theorem cmpL_lt : ∀ a b : List UInt8, (Lib.compareBytes a b < 0) ↔ Op.bytesLess a b = true
  | [], [] => by simp [Lib.compareBytes, Op.bytesLess]
  | [], _ :: _ => by simp [Lib.compareBytes, Op.bytesLess]
  | _ :: _, [] => by simp [Lib.compareBytes, Op.bytesLess]
  | x :: a, y :: b => by
    simp only [Lib.compareBytes, Op.bytesLess]
    have ih := cmpL_lt a b
    by_cases h1 : x < y
    · simp [h1]
    · by_cases h2 : y < x
      · have hne : ¬ x = y := fun e => by subst e; exact h1 h2
        simp [h1, h2, hne]
      · have e : x = y := UInt8.le_antisymm (UInt8.not_lt.1 h2) (UInt8.not_lt.1 h1)
        simp [h1, h2, e, ih]
theorem cmpL_eq : ∀ a b : List UInt8, (Lib.compareBytes a b = 0) ↔ a = b
  | [], [] => by simp [Lib.compareBytes]
  | [], _ :: _ => by simp [Lib.compareBytes]
  | _ :: _, [] => by simp [Lib.compareBytes]
  | x :: a, y :: b => by
    simp only [Lib.compareBytes]
    have ih := cmpL_eq a b
    by_cases h1 : x < y
    · have hne : ¬ x = y := fun e => by subst e; exact UInt8.lt_irrefl _ h1
      simp [h1, hne]
    · by_cases h2 : y < x
      · have hne : ¬ x = y := fun e => by subst e; exact h1 h2
        simp [h1, h2, hne]
      · have e : x = y := UInt8.le_antisymm (UInt8.not_lt.1 h2) (UInt8.not_lt.1 h1)
        simp [h1, h2, e, ih]
theorem cmp_lt (a b : ByteArray) : (cmpB a b < 0) ↔ ltB a b = true := by
  unfold cmpB ltB
  rw [ByteArray.toList_eq, ByteArray.toList_eq]; exact cmpL_lt _ _
theorem cellCmp_lt (a b : Cell) : decide (cellCmp a b < 0) = (ltB a.name b.name || (decide (a.name = b.name) && ltB a.key b.key)) := by
  have irr : ∀ l : List UInt8, Op.bytesLess l l = false := by
    intro l
    induction l with
    | nil => rfl
    | cons x l ih => simp [Op.bytesLess, ih]
  unfold cellCmp
  by_cases e : a.name = b.name
  · have h1 : ltB b.name b.name = false := irr _
    rw [if_pos e, e, h1]
    simp [cmp_lt]
  · rw [if_neg e]
    simp [cmp_lt, e]
theorem app_empty (a : ByteArray) : a ++ (⟨#[]⟩ : ByteArray) = a := by
  have : (⟨#[]⟩ : ByteArray) = ByteArray.empty := rfl
  rw [this]; simp
theorem varsT_zero (l : List Var) : varsT l 0 = ⟨#[]⟩ := rfl
theorem cellsT_zero (l : List Cell) : cellsT l 0 = ⟨#[]⟩ := rfl
end Go.Sim
namespace Go.Proofs.Ytfbcedjheempfaa
open Go Go.Sim Go.Proofs
set_option linter.unusedSimpArgs false
set_option linter.unusedVariables false
set_option maxRecDepth 100000
set_option maxHeartbeats 4000000
theorem within_c (n lo hi : Int) (h : AH) : CD Try.prog 51 [.int .i64 n, .int .i64 lo, .int .i64 hi] h (.bool (inB n lo hi)) h := by
  refine CD.quiet ?_ (low_bool _ _)
  refine CC.ofN Try.func51 Try.ntmps51 Try.results51 rfl (by decide) (by kernel_rfl) ?_
  simp (maxSteps := 1000000) -implicitDefEqProofs only [push_cast, seval]
  repeat' (first | with_reducible (first | exact Keep.refl _ _ | assumption | exact byte_lt _ _ | apply Keep.alloc | (refine Keep.set ?_ ?_; rotate_left; · omega) | apply Pre.alloc | apply Pre.set | exact Pre.refl _ | exact le_alloc _ | (refine Pre.keep ?_; assumption) | (refine Pre.n ?_; assumption)) | ((with_reducible (first | refine bcase_d (fun hb => ?_) (fun hb => ?_) | refine bcase_mk (fun hb => ?_) (fun hb => ?_))) <;> try simp (maxSteps := 1000000) -implicitDefEqProofs only [push_cast, seval]) | with_reducible refine And.intro ?_ ?_ | omega | (simp only [alloc_n, set_n, kill_n]; omega) | (exfalso; omega))
  all_goals simp [hb, inB]
theorem l01In_c (n lo hi : Int) (h : AH) : CD Try.prog 50 [.int .i64 n, .int .i64 lo, .int .i64 hi] h (.bool (inB n lo hi)) h := by
  refine CD.quiet ?_ (low_bool _ _)
  refine CC.ofN Try.func50 Try.ntmps50 Try.results50 rfl (by decide) (by kernel_rfl) ?_
  simp (maxSteps := 1000000) -implicitDefEqProofs only [push_cast, seval]
  repeat' (first | with_reducible (first | exact Keep.refl _ _ | assumption | exact byte_lt _ _ | apply Keep.alloc | (refine Keep.set ?_ ?_; rotate_left; · omega) | apply Pre.alloc | apply Pre.set | exact Pre.refl _ | exact le_alloc _ | (refine Pre.keep ?_; assumption) | (refine Pre.n ?_; assumption)) | ((with_reducible (first | refine bcase_d (fun hb => ?_) (fun hb => ?_) | refine bcase_mk (fun hb => ?_) (fun hb => ?_))) <;> try simp (maxSteps := 1000000) -implicitDefEqProofs only [push_cast, seval]) | with_reducible refine And.intro ?_ ?_ | omega | (simp only [alloc_n, set_n, kill_n]; omega) | (exfalso; omega))
  all_goals simp [hb, inB]
theorem isLetter_c (c : Int) (h0 : 0 ≤ c) (h1 : c < 256) (h : AH) : CD Try.prog 111 [.int .u8 c] h (.bool (letter c)) h := by
  refine CD.quiet ?_ (low_bool _ _)
  refine CC.ofN Try.func111 Try.ntmps111 Try.results111 rfl (by decide) (by kernel_rfl) ?_
  simp (maxSteps := 1000000) -implicitDefEqProofs only [push_cast, seval]
  rw [w64 (by omega) (by omega)]
  repeat' (first | with_reducible (first | exact Keep.refl _ _ | assumption | exact byte_lt _ _ | apply Keep.alloc | (refine Keep.set ?_ ?_; rotate_left; · omega) | apply Pre.alloc | apply Pre.set | exact Pre.refl _ | exact le_alloc _ | (refine Pre.keep ?_; assumption) | (refine Pre.n ?_; assumption)) | ((with_reducible (first | refine CD.to (within_c _ _ _ _) ?_ | refine CQ.pure (fun _ => within_c _ _ _ _) ?_ | refine bcase_d (fun hb => ?_) (fun hb => ?_) | refine bcase_mk (fun hb => ?_) (fun hb => ?_))) <;> try simp (maxSteps := 1000000) -implicitDefEqProofs only [push_cast, seval]) | with_reducible refine And.intro ?_ ?_ | omega | (simp only [alloc_n, set_n, kill_n]; omega) | (exfalso; omega))
  · simp [letter, hb]
  · rw [w64 (by omega) (by omega)]; simp [letter, hb]
theorem l05Letter_c (c : Int) (h : AH) : CD Try.prog 113 [.int .u8 c] h (.bool (letter c)) h := by
  refine CD.quiet ?_ (low_bool _ _)
  refine CC.ofN Try.func113 Try.ntmps113 Try.results113 rfl (by decide) (by kernel_rfl) ?_
  simp (maxSteps := 1000000) -implicitDefEqProofs only [push_cast, seval]
  repeat' (first | with_reducible (first | exact Keep.refl _ _ | assumption | exact byte_lt _ _ | apply Keep.alloc | (refine Keep.set ?_ ?_; rotate_left; · omega) | apply Pre.alloc | apply Pre.set | exact Pre.refl _ | exact le_alloc _ | (refine Pre.keep ?_; assumption) | (refine Pre.n ?_; assumption)) | ((with_reducible (first | refine bcase_d (fun hb => ?_) (fun hb => ?_) | refine bcase_mk (fun hb => ?_) (fun hb => ?_))) <;> try simp (maxSteps := 1000000) -implicitDefEqProofs only [push_cast, seval]) | with_reducible refine And.intro ?_ ?_ | omega | (simp only [alloc_n, set_n, kill_n]; omega) | (exfalso; omega))
  all_goals simp [letter, inB, *]
theorem isLetters_c (s : ByteArray) (hs : s.size ≤ maxLen) (h : AH) : CD Try.prog 76 [.string s] h (.bool (letters s)) h := by
  refine CD.quiet ?_ (low_bool _ _)
  refine CC.ofN Try.func76 Try.ntmps76 Try.results76 rfl (by decide) (by kernel_rfl) ?_
  simp (maxSteps := 1000000) -implicitDefEqProofs only [push_cast, seval]
  rw [maxLen_eq] at hs
  refine WC.loopA (by kernel_rfl) [6] [2, 3, 7, 8, 9, 10, 11, 12, 13, 14] (fun i : Nat => [.int .i64 i]) (fun i h' => (i ≤ s.size ∧ ∀ j, j < i → letter (byteAt s j).toNat = true) ∧ h' = h) (fun i => s.size - i) 0 (by kernel_rfl) ⟨⟨Nat.zero_le _, by omega⟩, rfl⟩ ?_
  intro i g h' hJ
  have hi := hJ.1.1
  have hj := hJ.1.2
  have e := hJ.2
  clear hJ
  subst e
  simp (maxSteps := 1000000) -implicitDefEqProofs only [push_cast, seval]
  repeat' (first | with_reducible (first | exact Keep.refl _ _ | assumption | exact byte_lt _ _ | apply Keep.alloc | (refine Keep.set ?_ ?_; rotate_left; · omega) | apply Pre.alloc | apply Pre.set | exact Pre.refl _ | exact le_alloc _ | (refine Pre.keep ?_; assumption) | (refine Pre.n ?_; assumption)) | ((with_reducible (first | refine CD.to (isLetter_c _ ?_ ?_ _) ?_ | refine CQ.pure (fun _ => isLetter_c _ ?_ ?_ _) ?_ | refine CD.to (within_c _ _ _ _) ?_ | refine CQ.pure (fun _ => within_c _ _ _ _) ?_ | refine bcase_d (fun hb => ?_) (fun hb => ?_) | refine bcase_mk (fun hb => ?_) (fun hb => ?_))) <;> try simp (maxSteps := 1000000) -implicitDefEqProofs only [push_cast, seval]) | with_reducible refine And.intro ?_ ?_ | omega | (simp only [alloc_n, set_n, kill_n]; omega) | (exfalso; omega))
  · rw [wrapSucc (by omega)]
    exact ⟨i + 1, by kernel_rfl, ⟨by omega, fun j hj' => (Nat.lt_succ_iff_lt_or_eq.1 hj').elim (hj j) (fun e => by subst e; exact hb)⟩, by omega⟩
  · simp only [letters, allAt_false (s := s) (i := i) (by omega) hb]; rfl
  · have : allAt s letter = true := allAt_iff.2 (fun j hj' => hj j (by omega))
    simp [letters, this]
end Go.Proofs.Ytfbcedjheempfaa
namespace Go.Proofs.Ytfbcedjheempfaa
open Go Go.Sim Go.Proofs
set_option linter.unusedSimpArgs false
set_option linter.unusedVariables false
set_option maxRecDepth 100000
set_option maxHeartbeats 4000000
theorem cmpstring_c (a b : ByteArray) (h : AH) : CD Try.prog 132 [.string a, .string b] h (.int .i64 (cmpB a b)) h := by
  have key : ∀ w : World, (callFunc 132 #[.string a, .string b]).run Try.prog w = .ok (.value (.int .i64 (cmpB a b))) w := fun w => ?_
  · exact CC.ext (P := Try.prog) (f := 132) (args := [.string a, .string b]) (V := .int .i64 (cmpB a b)) (R := fun v h' => v = .int .i64 (cmpB a b) ∧ h' = h) (fun v hv => by
      simp only [List.mem_cons, List.not_mem_nil, or_false] at hv
      rcases hv with rfl | rfl <;> rfl) key rfl (And.intro rfl rfl)
  have e1 : Extern.findNext Try.f132 = none := by kernel_rfl
  have e2 : Extern.find Try.f132 = some Extern.BytealgCompare.compare := by kernel_rfl
  have e3 : ¬ Try.f132.name = "runtime.NumGoroutine" := by
    have : (Try.f132.name == "runtime.NumGoroutine") = false := by kernel_rfl
    simpa using this
  have e4 : Try.f132.body = none := by kernel_rfl
  simp [callFunc, Try.func132, e1, e2, e3, e4, Lib.run_compareString, cmpB, mark, Sem.run]
theorem CompareString_c (a b : ByteArray) (h : AH) : CD Try.prog 130 [.string a, .string b] h (.int .i64 (cmpB a b)) h := by
  refine CD.quiet ?_ (low_int _ _ _)
  refine CC.ofN Try.func130 Try.ntmps130 Try.results130 rfl (by decide) (by kernel_rfl) ?_
  simp (maxSteps := 1000000) -implicitDefEqProofs only [push_cast, seval]
  repeat' (first | with_reducible (first | exact Keep.refl _ _ | assumption | exact byte_lt _ _ | apply Keep.alloc | (refine Keep.set ?_ ?_; rotate_left; · omega) | apply Pre.alloc | apply Pre.set | exact Pre.refl _ | exact le_alloc _ | (refine Pre.keep ?_; assumption) | (refine Pre.n ?_; assumption)) | ((with_reducible (first | refine CD.to (cmpstring_c _ _ _) ?_ | refine CQ.pure (fun _ => cmpstring_c _ _ _) ?_ | refine bcase_d (fun hb => ?_) (fun hb => ?_) | refine bcase_mk (fun hb => ?_) (fun hb => ?_))) <;> try simp (maxSteps := 1000000) -implicitDefEqProofs only [push_cast, seval]) | with_reducible refine And.intro ?_ ?_ | omega | (simp only [alloc_n, set_n, kill_n]; omega) | (exfalso; omega))
theorem Compare_c (a b : ByteArray) (h : AH) : CD Try.prog 112 [.string a, .string b] h (.int .i64 (cmpB a b)) h := by
  refine CD.quiet ?_ (low_int _ _ _)
  refine CC.ofN Try.func112 Try.ntmps112 Try.results112 rfl (by decide) (by kernel_rfl) ?_
  simp (maxSteps := 1000000) -implicitDefEqProofs only [push_cast, seval]
  repeat' (first | with_reducible (first | exact Keep.refl _ _ | assumption | exact byte_lt _ _ | apply Keep.alloc | (refine Keep.set ?_ ?_; rotate_left; · omega) | apply Pre.alloc | apply Pre.set | exact Pre.refl _ | exact le_alloc _ | (refine Pre.keep ?_; assumption) | (refine Pre.n ?_; assumption)) | ((with_reducible (first | refine CD.to (CompareString_c _ _ _) ?_ | refine CQ.pure (fun _ => CompareString_c _ _ _) ?_ | refine bcase_d (fun hb => ?_) (fun hb => ?_) | refine bcase_mk (fun hb => ?_) (fun hb => ?_))) <;> try simp (maxSteps := 1000000) -implicitDefEqProofs only [push_cast, seval]) | with_reducible refine And.intro ?_ ?_ | omega | (simp only [alloc_n, set_n, kill_n]; omega) | (exfalso; omega))
theorem byKey_c (a b : Cell) (h : AH) : CD Try.prog 77 [.agg #[.string a.name, .string a.key, .string a.val], .agg #[.string b.name, .string b.key, .string b.val]] h (.int .i64 (cellCmp a b)) h := by
  refine CD.quiet ?_ (low_int _ _ _)
  refine CC.ofN Try.func77 Try.ntmps77 Try.results77 rfl (by decide) (by kernel_rfl) ?_
  simp (maxSteps := 1000000) -implicitDefEqProofs only [push_cast, seval]
  repeat' (first | with_reducible (first | exact Keep.refl _ _ | assumption | exact byte_lt _ _ | apply Keep.alloc | (refine Keep.set ?_ ?_; rotate_left; · omega) | apply Pre.alloc | apply Pre.set | exact Pre.refl _ | exact le_alloc _ | (refine Pre.keep ?_; assumption) | (refine Pre.n ?_; assumption)) | ((with_reducible (first | refine CD.to (Compare_c _ _ _) ?_ | refine CQ.pure (fun _ => Compare_c _ _ _) ?_ | refine bcase_d (fun hb => ?_) (fun hb => ?_) | refine bcase_mk (fun hb => ?_) (fun hb => ?_))) <;> try simp (maxSteps := 1000000) -implicitDefEqProofs only [push_cast, seval]) | with_reducible refine And.intro ?_ ?_ | omega | (simp only [alloc_n, set_n, kill_n]; omega) | (exfalso; omega))
  all_goals simp [cellCmp, hb]
theorem StoreOk_i (s : Store) (A B : Option Addr) (ca cb : Nat) (h : AH) (hR : RdS h A B s) (hz : Sz s) :
    CD Try.prog 38 [.agg #[.slice A s.vars.length ca, .slice B s.cells.length cb, .string s.out]] h (.bool (storeOk s)) h := by
  refine CD.withBig (fun big => ?_)
  refine CD.quiet ?_ (low_bool _ _)
  have hA := hR.vars
  have hB := hR.cells
  have hz1 := hz.vars
  have hz2 := hz.cells
  have nv := hz.nv
  have nc := hz.nc
  refine CC.ofN Try.func38 Try.ntmps38 Try.results38 rfl (by decide) (by kernel_rfl) ?_
  simp (maxSteps := 1000000) -implicitDefEqProofs only [push_cast, seval]
  refine WC.loopA (by kernel_rfl) [10] [2, 3, 4, 11, 12, 13, 14, 15, 16, 17, 18, 19, 20, 21, 22, 23, 24, 25, 26, 27, 28, 29, 30, 31, 32, 33, 34, 35, 36, 37, 38, 39, 40, 41] (fun i : Nat => [.int .i64 i]) (fun i h' => (i ≤ s.vars.length ∧ ∀ j, j < i → varOkAt s.vars j = true) ∧ Pre (h.alloc (AOb.cells [Value.slice A s.vars.length ca, Value.slice B s.cells.length cb, Value.string s.out] Stat.solo h.n)) h') (fun i => s.vars.length - i) 0 (by kernel_rfl) ⟨⟨Nat.zero_le _, allTo_zero⟩, Pre.refl _⟩ ?_
  intro i g h1 hJ
  have hi := hJ.1.1
  have hj := hJ.1.2
  have hp := hJ.2
  clear hJ
  have p0 : Pre h h1 := ((Pre.refl _).alloc _).trans hp
  have l1 : h.n < h1.n := Nat.lt_of_lt_of_le (lt_alloc _) hp.n
  have e1 : h1.ob h.n = _ := (hp.ob _ (lt_alloc _)).trans (alloc_same _)
  simp (maxSteps := 1000000) -implicitDefEqProofs only [push_cast, seval]
  with_reducible refine bcase_d (fun hb => ?_) (fun hb => ?_)
  · have hi' : i < s.vars.length := by omega
    with_reducible refine hA.use big p0 hi' (fun id off eA hlt hr => ?_)
    subst eA
    simp only [Var.enc] at hr
    have r0 := (rd_2 hr).1
    have r1 := (rd_2 hr).2
    have hz' := (hz1 _ (List.getElem_mem hi')).1
    simp (maxSteps := 1000000) -implicitDefEqProofs only [push_cast, seval, hr, r0, r1, hlt, rd_of e1, rd1_of e1, l1]
    refine And.intro (by omega) (And.intro (by omega) ?_)
    refine WC.draw' (by kernel_rfl) (by kernel_rfl) (.q 0 (.q 1 (.c 2 (.q 3 (.q 4 (.q 5 (.q 6 (.q 7 (.q 8 (.q 9 (.q 10 (.q 11 (.q 12 (.q 13 (.q 14 (.q 15 (.q 16 (.q 17 (.q 18 (.q 19 (.q 20 (.q 21 (.q 22 (.q 23 (.q 24 (.q 25 (.done))))))))))))))))))))))))))) (by kernel_rfl) ?_
    simp (maxSteps := 1000000) -implicitDefEqProofs only [push_cast, seval, e1, hr, r0, r1, hlt, rd_of e1, rd1_of e1, l1]
    have hv := varOkAt_eq hi'
    rcases Nat.eq_zero_or_pos i with h0 | h0
    · repeat' (first | with_reducible (first | exact Keep.refl _ _ | assumption | exact byte_lt _ _ | apply Keep.alloc | (refine Keep.set ?_ ?_; rotate_left; · omega) | apply Pre.alloc | apply Pre.set | exact Pre.refl _ | exact le_alloc _ | (refine Pre.keep ?_; assumption) | (refine Pre.n ?_; assumption)) | ((with_reducible (first | refine CD.to (isLetters_c _ ?_ _) ?_ | refine CQ.pure (fun _ => isLetters_c _ ?_ _) ?_ | refine bcase_d (fun hb => ?_) (fun hb => ?_) | refine bcase_mk (fun hb => ?_) (fun hb => ?_))) <;> try simp (maxSteps := 1000000) -implicitDefEqProofs only [push_cast, seval, e1, hr, r0, r1, hlt, rd_of e1, rd1_of e1, l1]) | with_reducible refine And.intro ?_ ?_ | omega | (simp only [alloc_n, set_n, kill_n]; omega) | (exfalso; omega))
      all_goals first
        | exact congrArg Value.bool (storeOk_v hi' (by rw [hv]; grind [ltB]))
        | (rw [wrapSucc (by omega)]
           refine ⟨i + 1, by kernel_rfl, ⟨⟨by omega, allTo_succ hj (by rw [hv]; grind [ltB])⟩, ?_⟩, by omega⟩
           repeat' (first | with_reducible (first | exact Keep.refl _ _ | assumption | exact byte_lt _ _ | apply Keep.alloc | (refine Keep.set ?_ ?_; rotate_left; · omega) | apply Pre.alloc | apply Pre.set | exact Pre.refl _ | exact le_alloc _ | (refine Pre.keep ?_; assumption) | (refine Pre.n ?_; assumption)) | ((with_reducible (first | refine bcase_d (fun hb => ?_) (fun hb => ?_) | refine bcase_mk (fun hb => ?_) (fun hb => ?_))) <;> try simp (maxSteps := 1000000) -implicitDefEqProofs only [push_cast, seval]) | with_reducible refine And.intro ?_ ?_ | omega | (simp only [alloc_n, set_n, kill_n]; omega) | (exfalso; omega)))
    · have w1 := wrapPred h0 (by omega)
      have q0 := (rd_2 (hA.rdAt big p0 (i := i - 1) (by omega))).1
      have hn0 : ¬ i = 0 := by omega
      repeat' (first | with_reducible (first | exact Keep.refl _ _ | assumption | exact byte_lt _ _ | apply Keep.alloc | (refine Keep.set ?_ ?_; rotate_left; · omega) | apply Pre.alloc | apply Pre.set | exact Pre.refl _ | exact le_alloc _ | (refine Pre.keep ?_; assumption) | (refine Pre.n ?_; assumption)) | ((with_reducible (first | refine CD.to (isLetters_c _ ?_ _) ?_ | refine CQ.pure (fun _ => isLetters_c _ ?_ _) ?_ | refine bcase_d (fun hb => ?_) (fun hb => ?_) | refine bcase_mk (fun hb => ?_) (fun hb => ?_))) <;> try simp (maxSteps := 1000000) -implicitDefEqProofs only [push_cast, seval, e1, hr, r0, r1, hlt, rd_of e1, rd1_of e1, l1, w1, q0]) | with_reducible refine And.intro ?_ ?_ | omega | (simp only [alloc_n, set_n, kill_n]; omega) | (exfalso; omega))
      all_goals first
        | exact congrArg Value.bool (storeOk_v hi' (by rw [hv]; grind [ltB]))
        | (rw [wrapSucc (by omega)]
           refine ⟨i + 1, by kernel_rfl, ⟨⟨by omega, allTo_succ hj (by rw [hv]; grind [ltB])⟩, ?_⟩, by omega⟩
           repeat' (first | with_reducible (first | exact Keep.refl _ _ | assumption | exact byte_lt _ _ | apply Keep.alloc | (refine Keep.set ?_ ?_; rotate_left; · omega) | apply Pre.alloc | apply Pre.set | exact Pre.refl _ | exact le_alloc _ | (refine Pre.keep ?_; assumption) | (refine Pre.n ?_; assumption)) | ((with_reducible (first | refine bcase_d (fun hb => ?_) (fun hb => ?_) | refine bcase_mk (fun hb => ?_) (fun hb => ?_))) <;> try simp (maxSteps := 1000000) -implicitDefEqProofs only [push_cast, seval]) | with_reducible refine And.intro ?_ ?_ | omega | (simp only [alloc_n, set_n, kill_n]; omega) | (exfalso; omega)))
       
  · simp (maxSteps := 1000000) -implicitDefEqProofs only [push_cast, seval, rd_of e1, rd1_of e1, l1]
    have hV : allN s.vars.length (varOkAt s.vars) = true := allN_iff.2 (fun j hj' => hj j (by omega))
    clear hb hj hi
    refine WC.loopA (by kernel_rfl) [45] [2, 5, 6, 46, 47, 48, 49, 50, 51, 52, 53, 54, 55, 56, 57, 58, 59, 60, 61, 62, 63, 64, 65, 66, 67, 68, 69, 70, 71, 72, 73, 74, 75, 76, 77, 78, 79, 80, 81] (fun i : Nat => [.int .i64 i]) (fun i h' => (i ≤ s.cells.length ∧ ∀ j, j < i → cellOkAt s.cells j = true) ∧ Pre h1 h') (fun i => s.cells.length - i) 0 (by kernel_rfl) ⟨⟨Nat.zero_le _, allTo_zero⟩, Pre.refl _⟩ ?_
    intro i g2 h2 hJ
    have hi := hJ.1.1
    have hj := hJ.1.2
    have hp2 := hJ.2
    clear hJ
    have p2 : Pre h h2 := p0.trans hp2
    have l2 : h.n < h2.n := Nat.lt_of_lt_of_le l1 hp2.n
    have e2 : h2.ob h.n = _ := (hp2.ob _ l1).trans e1
    simp (maxSteps := 1000000) -implicitDefEqProofs only [push_cast, seval]
    with_reducible refine bcase_d (fun hb => ?_) (fun hb => ?_)
    · have hi' : i < s.cells.length := by omega
      with_reducible refine hB.use big p2 hi' (fun id off eA hlt hr => ?_)
      subst eA
      simp only [Cell.enc] at hr
      have r0 := (rd_3 hr).1
      have r1 := (rd_3 hr).2.1
      have r2 := (rd_3 hr).2.2
      have hz' := (hz2 _ (List.getElem_mem hi')).1
      simp (maxSteps := 1000000) -implicitDefEqProofs only [push_cast, seval, hr, r0, r1, r2, hlt, rd_of e2, rd1_of e2, l2]
      refine And.intro (by omega) (And.intro (by omega) ?_)
      refine WC.draw' (by kernel_rfl) (by kernel_rfl) (.q 0 (.q 1 (.c 2 (.q 3 (.q 4 (.q 5 (.q 6 (.q 7 (.q 8 (.q 9 (.q 10 (.q 11 (.q 12 (.q 13 (.q 14 (.q 15 (.q 16 (.q 17 (.q 18 (.q 19 (.q 20 (.q 21 (.q 22 (.q 23 (.q 24 (.q 25 (.q 26 (.c 27 (.q 28 (.q 29 (.q 30 (.done)))))))))))))))))))))))))))))))) (by kernel_rfl) ?_
      simp (maxSteps := 1000000) -implicitDefEqProofs only [push_cast, seval, e2, hr, r0, r1, r2, hlt, rd_of e2, rd1_of e2, l2]
      have hv := cellOkAt_eq hi'
      rcases Nat.eq_zero_or_pos i with h0 | h0
      · repeat' (first | with_reducible (first | exact Keep.refl _ _ | assumption | exact byte_lt _ _ | apply Keep.alloc | (refine Keep.set ?_ ?_; rotate_left; · omega) | apply Pre.alloc | apply Pre.set | exact Pre.refl _ | exact le_alloc _ | (refine Pre.keep ?_; assumption) | (refine Pre.n ?_; assumption)) | ((with_reducible (first | refine CD.to (isLetters_c _ ?_ _) ?_ | refine CQ.pure (fun _ => isLetters_c _ ?_ _) ?_ | refine bcase_d (fun hb => ?_) (fun hb => ?_) | refine bcase_mk (fun hb => ?_) (fun hb => ?_))) <;> try simp (maxSteps := 1000000) -implicitDefEqProofs only [push_cast, seval, e2, hr, r0, r1, r2, hlt, rd_of e2, rd1_of e2, l2]) | with_reducible refine And.intro ?_ ?_ | omega | (simp only [alloc_n, set_n, kill_n]; omega) | (exfalso; omega))
        all_goals first
          | exact congrArg Value.bool (storeOk_c hi' (by rw [hv]; grind))
          | (rw [wrapSucc (by omega)]
             refine ⟨i + 1, by kernel_rfl, ⟨⟨by omega, allTo_succ hj (by rw [hv]; grind)⟩, ?_⟩, by omega⟩
             repeat' (first | with_reducible (first | exact Keep.refl _ _ | assumption | exact byte_lt _ _ | apply Keep.alloc | (refine Keep.set ?_ ?_; rotate_left; · omega) | apply Pre.alloc | apply Pre.set | exact Pre.refl _ | exact le_alloc _ | (refine Pre.keep ?_; assumption) | (refine Pre.n ?_; assumption)) | ((with_reducible (first | refine bcase_d (fun hb => ?_) (fun hb => ?_) | refine bcase_mk (fun hb => ?_) (fun hb => ?_))) <;> try simp (maxSteps := 1000000) -implicitDefEqProofs only [push_cast, seval]) | with_reducible refine And.intro ?_ ?_ | omega | (simp only [alloc_n, set_n, kill_n]; omega) | (exfalso; omega)))
      · have w1 := wrapPred h0 (by omega)
        have q0 := hB.rdAt big p2 (i := i - 1) (by omega)
        simp only [Cell.enc] at q0
        have hn0 : ¬ i = 0 := by omega
        repeat' (first | with_reducible (first | exact Keep.refl _ _ | assumption | exact byte_lt _ _ | apply Keep.alloc | (refine Keep.set ?_ ?_; rotate_left; · omega) | apply Pre.alloc | apply Pre.set | exact Pre.refl _ | exact le_alloc _ | (refine Pre.keep ?_; assumption) | (refine Pre.n ?_; assumption)) | ((with_reducible (first | refine CD.to (isLetters_c _ ?_ _) ?_ | refine CQ.pure (fun _ => isLetters_c _ ?_ _) ?_ | refine CD.to (byKey_c _ _ _) ?_ | refine CQ.pure (fun _ => byKey_c _ _ _) ?_ | refine bcase_d (fun hb => ?_) (fun hb => ?_) | refine bcase_mk (fun hb => ?_) (fun hb => ?_))) <;> try simp (maxSteps := 1000000) -implicitDefEqProofs only [push_cast, seval, e2, hr, r0, r1, r2, hlt, rd_of e2, rd1_of e2, l2, w1, q0]) | with_reducible refine And.intro ?_ ?_ | omega | (simp only [alloc_n, set_n, kill_n]; omega) | (exfalso; omega))
        all_goals first
          | exact congrArg Value.bool (storeOk_c hi' (by rw [hv]; grind))
          | (rw [wrapSucc (by omega)]
             refine ⟨i + 1, by kernel_rfl, ⟨⟨by omega, allTo_succ hj (by rw [hv]; grind)⟩, ?_⟩, by omega⟩
             repeat' (first | with_reducible (first | exact Keep.refl _ _ | assumption | exact byte_lt _ _ | apply Keep.alloc | (refine Keep.set ?_ ?_; rotate_left; · omega) | apply Pre.alloc | apply Pre.set | exact Pre.refl _ | exact le_alloc _ | (refine Pre.keep ?_; assumption) | (refine Pre.n ?_; assumption)) | ((with_reducible (first | refine bcase_d (fun hb => ?_) (fun hb => ?_) | refine bcase_mk (fun hb => ?_) (fun hb => ?_))) <;> try simp (maxSteps := 1000000) -implicitDefEqProofs only [push_cast, seval]) | with_reducible refine And.intro ?_ ?_ | omega | (simp only [alloc_n, set_n, kill_n]; omega) | (exfalso; omega)))
         
    · simp (maxSteps := 1000000) -implicitDefEqProofs only [push_cast, seval, rd_of e2, rd1_of e2, l2]
      have hC : allN s.cells.length (cellOkAt s.cells) = true := allN_iff.2 (fun j hj' => hj j (by omega))
      repeat' (first | with_reducible (first | exact Keep.refl _ _ | assumption | exact byte_lt _ _ | apply Keep.alloc | (refine Keep.set ?_ ?_; rotate_left; · omega) | apply Pre.alloc | apply Pre.set | exact Pre.refl _ | exact le_alloc _ | (refine Pre.keep ?_; assumption) | (refine Pre.n ?_; assumption)) | ((with_reducible (first | refine bcase_d (fun hb => ?_) (fun hb => ?_) | refine bcase_mk (fun hb => ?_) (fun hb => ?_))) <;> try simp (maxSteps := 1000000) -implicitDefEqProofs only [push_cast, seval, rd_of e2, rd1_of e2, l2]) | with_reducible refine And.intro ?_ ?_ | omega | (simp only [alloc_n, set_n, kill_n]; omega) | (exfalso; omega))
      all_goals first | (simp only [storeOk, hV, hC]; grind)
end Go.Proofs.Ytfbcedjheempfaa
namespace Go.Proofs.Ytfbcedjheempfaa
open Go Go.Sim Go.Proofs
set_option linter.unusedSimpArgs false
set_option linter.unusedVariables false
set_option maxRecDepth 100000
set_option maxHeartbeats 4000000
theorem VarText_c (n : Int) (h : AH) : CD Try.prog 103 [.int .i64 n] h (.tuple #[.string (if inB n 0 1000000000 then vt n else ⟨#[]⟩), .bool (inB n 0 1000000000)]) h := by
  refine CD.quiet ?_ (low_tuple (by simp [low_string, low_bool]))
  refine CC.ofN Try.func103 Try.ntmps103 Try.results103 rfl (by decide) (by kernel_rfl) ?_
  simp (maxSteps := 1000000) -implicitDefEqProofs only [push_cast, seval]
  repeat' (first | with_reducible (first | exact Keep.refl _ _ | assumption | exact byte_lt _ _ | apply Keep.alloc | (refine Keep.set ?_ ?_; rotate_left; · omega) | apply Pre.alloc | apply Pre.set | exact Pre.refl _ | exact le_alloc _ | (refine Pre.keep ?_; assumption) | (refine Pre.n ?_; assumption)) | ((with_reducible (first | refine CD.to (within_c _ _ _ _) ?_ | refine CQ.pure (fun _ => within_c _ _ _ _) ?_ | refine bcase_d (fun hb => ?_) (fun hb => ?_) | refine bcase_mk (fun hb => ?_) (fun hb => ?_))) <;> try simp (maxSteps := 1000000) -implicitDefEqProofs only [push_cast, seval]) | with_reducible refine And.intro ?_ ?_ | omega | (simp only [alloc_n, set_n, kill_n]; omega) | (exfalso; omega))
  rotate_left
  · simp [hb]
  · have hn : 0 ≤ n ∧ n ≤ 1000000000 := by simpa [inB] using hb
    refine WC.loopA (by kernel_rfl) [0, 4] [9, 10, 11, 12, 13, 14, 15, 16, 17, 18, 19] (fun a : Nat × List Nat × Value => [.int .i64 (a.1 : Nat), a.2.2]) (fun a h' => (Gr h.n h' a.2.2 1 (VN a.2.1) ∧ Pre h h') ∧ a.2.1 ++ var a.1 = var n.toNat ∧ a.2.1.length + a.1 ≤ 1000000000) (fun a => a.1) (n.toNat, [], .slice (some ⟨h.n, 0, none⟩) 0 1) ?_ ⟨⟨Gr.new (Nat.le_refl _) [] 0 1 rfl, (Pre.refl _).alloc _⟩, rfl, by simp; omega⟩ ?_
    · rw [Int.toNat_of_nonneg hn.1]; kernel_rfl
    intro a g h1 hJ
    have ho := hJ.1.1
    have hp := hJ.1.2
    have hv := hJ.2.1
    have hkm := hJ.2.2
    clear hJ
    simp (maxSteps := 1000000) -implicitDefEqProofs only [push_cast, seval]
    with_reducible refine bcase_d (fun hm => ?_) (fun hm => ?_)
    · simp (maxSteps := 1000000) -implicitDefEqProofs only [push_cast, seval]
      repeat (with_reducible refine And.intro ?_ ?_; · (first | omega | decide))
      have e1 : IntKind.u8.wrap (IntKind.i64.wrap ((a.1 : Int).tmod 128 + 128)) = ((a.1 % 128 + 128 : Nat) : Int) := by
        rw [Int.tmod_eq_emod_of_nonneg (by omega), w64 (by omega) (by omega), w8 (by omega) (by omega)]; omega
      have e2 : IntKind.i64.wrap ((a.1 : Int).tdiv 128) = ((a.1 / 128 : Nat) : Int) := by
        rw [Int.tdiv_eq_ediv_of_nonneg (by omega), w64 (by omega) (by omega)]; omega
      rw [e1]
      refine Gr.app1 si29 (by decide) (by decide) (notInt_sl und29) ho hp rfl (by rw [vn_len]; omega) (by decide) (fun h' gr ow p' hn' he => ?_)
      simp (maxSteps := 1000000) -implicitDefEqProofs only [push_cast, seval, e2]
      repeat (with_reducible refine And.intro ?_ ?_; · (first | omega | decide))
      refine ⟨(a.1 / 128, a.2.1 ++ [a.1 % 128 + 128], .slice (some ⟨h1.n + 1, 0, none⟩) ((VN a.2.1).length / 1 + 1) 1), by kernel_rfl, ⟨⟨by rw [vn_snoc]; exact gr, p'⟩, ?_, ?_⟩, ?_⟩
      · have hv' : var a.1 = (a.1 % 128 + 128) :: var (a.1 / 128) := by rw [var, if_neg (by omega)]
        rw [List.append_assoc, ← hv, hv']; rfl
      · simp only [List.length_append, List.length_singleton]; omega
      · show a.1 / 128 < a.1
        omega
    · simp (maxSteps := 1000000) -implicitDefEqProofs only [push_cast, seval]
      rw [w8 (by omega) (by omega)]
      refine Gr.app1 si29 (by decide) (by decide) (notInt_sl und29) ho hp rfl (by rw [vn_len]; omega) (by decide) (fun h' gr ow p' hn' he => ?_)
      have er := ow.rdAll
      rw [Nat.mul_one] at er
      have et : toBytes (VN a.2.1 ++ [.int .u8 (a.1 : Nat)]) = some ((var n.toNat).map UInt8.ofNat) := by
        have : (VN a.2.1 ++ [.int .u8 (a.1 : Nat)]) = VN (a.2.1 ++ [a.1]) := by simp [VN]
        rw [this, VN, toBytes_nat, ← hv, var, if_pos (by omega)]
      simp (maxSteps := 1000000) -implicitDefEqProofs only [push_cast, seval, er, et]
      exact ⟨by simp [vt, hb], p'.keep⟩
theorem l01Var_c (n : Int) (hn : 0 ≤ n ∧ n ≤ 1000000000) (h : AH) : CD Try.prog 59 [.int .i64 n] h (.string (vt n)) h := by
  refine CD.quiet ?_ (low_string _ _)
  refine CC.ofN Try.func59 Try.ntmps59 Try.results59 rfl (by decide) (by kernel_rfl) ?_
  simp (maxSteps := 1000000) -implicitDefEqProofs only [push_cast, seval]
  refine WC.loopA (by kernel_rfl) [0, 3] [5, 6, 7, 8, 9, 10, 11, 12, 13, 14, 15] (fun a : Nat × List Nat × Value => [.int .i64 (a.1 : Nat), a.2.2]) (fun a h' => (Gr h.n h' a.2.2 1 (VN a.2.1) ∧ Pre h h') ∧ a.2.1 ++ var a.1 = var n.toNat ∧ a.2.1.length + a.1 ≤ 1000000000) (fun a => a.1) (n.toNat, [], .slice (some ⟨h.n, 0, none⟩) 0 1) ?_ ⟨⟨Gr.new (Nat.le_refl _) [] 0 1 rfl, (Pre.refl _).alloc _⟩, rfl, by simp; omega⟩ ?_
  · rw [Int.toNat_of_nonneg hn.1]; kernel_rfl
  intro a g h1 hJ
  have ho := hJ.1.1
  have hp := hJ.1.2
  have hv := hJ.2.1
  have hkm := hJ.2.2
  clear hJ
  simp (maxSteps := 1000000) -implicitDefEqProofs only [push_cast, seval]
  with_reducible refine bcase_d (fun hm => ?_) (fun hm => ?_)
  · simp (maxSteps := 1000000) -implicitDefEqProofs only [push_cast, seval]
    repeat (with_reducible refine And.intro ?_ ?_; · (first | omega | decide))
    have e1 : IntKind.u8.wrap (IntKind.i64.wrap ((a.1 : Int).tmod 128 + 128)) = ((a.1 % 128 + 128 : Nat) : Int) := by
      rw [Int.tmod_eq_emod_of_nonneg (by omega), w64 (by omega) (by omega), w8 (by omega) (by omega)]; omega
    have e2 : IntKind.i64.wrap ((a.1 : Int).tdiv 128) = ((a.1 / 128 : Nat) : Int) := by
      rw [Int.tdiv_eq_ediv_of_nonneg (by omega), w64 (by omega) (by omega)]; omega
    rw [e1]
    refine Gr.app1 si29 (by decide) (by decide) (notInt_sl und29) ho hp rfl (by rw [vn_len]; omega) (by decide) (fun h' gr ow p' hn' he => ?_)
    simp (maxSteps := 1000000) -implicitDefEqProofs only [push_cast, seval, e2]
    repeat (with_reducible refine And.intro ?_ ?_; · (first | omega | decide))
    refine ⟨(a.1 / 128, a.2.1 ++ [a.1 % 128 + 128], .slice (some ⟨h1.n + 1, 0, none⟩) ((VN a.2.1).length / 1 + 1) 1), by kernel_rfl, ⟨⟨by rw [vn_snoc]; exact gr, p'⟩, ?_, ?_⟩, ?_⟩
    · have hv' : var a.1 = (a.1 % 128 + 128) :: var (a.1 / 128) := by rw [var, if_neg (by omega)]
      rw [List.append_assoc, ← hv, hv']; rfl
    · simp only [List.length_append, List.length_singleton]; omega
    · show a.1 / 128 < a.1
      omega
  · simp (maxSteps := 1000000) -implicitDefEqProofs only [push_cast, seval]
    rw [w8 (by omega) (by omega)]
    refine Gr.app1 si29 (by decide) (by decide) (notInt_sl und29) ho hp rfl (by rw [vn_len]; omega) (by decide) (fun h' gr ow p' hn' he => ?_)
    have er := ow.rdAll
    rw [Nat.mul_one] at er
    have et : toBytes (VN a.2.1 ++ [.int .u8 (a.1 : Nat)]) = some ((var n.toNat).map UInt8.ofNat) := by
      have : (VN a.2.1 ++ [.int .u8 (a.1 : Nat)]) = VN (a.2.1 ++ [a.1]) := by simp [VN]
      rw [this, VN, toBytes_nat, ← hv, var, if_pos (by omega)]
    simp (maxSteps := 1000000) -implicitDefEqProofs only [push_cast, seval, er, et]
    exact ⟨rfl, p'.keep⟩
theorem numberText_c (n : Int) (hn : 0 ≤ n ∧ n ≤ 1000000000) (h : AH) : CD Try.prog 61 [.int .i64 n] h (.string (vt n)) h := by
  refine CD.quiet ?_ (low_string _ _)
  refine CC.ofN Try.func61 Try.ntmps61 Try.results61 rfl (by decide) (by kernel_rfl) ?_
  simp (maxSteps := 1000000) -implicitDefEqProofs only [push_cast, seval]
  repeat' (first | with_reducible (first | exact Keep.refl _ _ | assumption | exact byte_lt _ _ | apply Keep.alloc | (refine Keep.set ?_ ?_; rotate_left; · omega) | apply Pre.alloc | apply Pre.set | exact Pre.refl _ | exact le_alloc _ | (refine Pre.keep ?_; assumption) | (refine Pre.n ?_; assumption)) | ((with_reducible (first | refine CD.to (VarText_c _ _) ?_ | refine CQ.pure (fun _ => VarText_c _ _) ?_ | refine bcase_d (fun hb => ?_) (fun hb => ?_) | refine bcase_mk (fun hb => ?_) (fun hb => ?_))) <;> try simp (maxSteps := 1000000) -implicitDefEqProofs only [push_cast, seval]) | with_reducible refine And.intro ?_ ?_ | omega | (simp only [alloc_n, set_n, kill_n]; omega) | (exfalso; omega))
  simp [inB, hn]
end Go.Proofs.Ytfbcedjheempfaa
namespace Go.Proofs.Ytfbcedjheempfaa
open Go Go.Sim Go.Proofs
set_option linter.unusedSimpArgs false
set_option linter.unusedVariables false
set_option maxRecDepth 100000
set_option maxHeartbeats 1000000
theorem ReadVar_i (s : ByteArray) (a : Int) (hs : s.size ≤ maxLen - 16) (h : AH) : CD Try.prog 105 [.string s, .int .i64 a] h (.tuple #[.int .i64 (oN (rv s a)), .int .i64 (oX (rv s a)), .bool (rv s a).isSome]) h := by
  rw [maxLen_eq] at hs
  refine CD.quiet ?_ (low_tuple (by simp [low_int, low_bool]))
  refine CC.ofN Try.func105 Try.ntmps105 Try.results105 rfl (by decide) (by kernel_rfl) ?_
  simp (maxSteps := 1000000) -implicitDefEqProofs only [push_cast, seval]
  repeat' (first | with_reducible (first | exact Keep.refl _ _ | assumption | exact byte_lt _ _ | apply Keep.alloc | (refine Keep.set ?_ ?_; rotate_left; · omega) | apply Pre.alloc | apply Pre.set | exact Pre.refl _ | exact le_alloc _ | (refine Pre.keep ?_; assumption) | (refine Pre.n ?_; assumption)) | ((with_reducible (first | refine CD.to (within_c _ _ _ _) ?_ | refine CQ.pure (fun _ => within_c _ _ _ _) ?_ | refine bcase_d (fun hb => ?_) (fun hb => ?_) | refine bcase_mk (fun hb => ?_) (fun hb => ?_))) <;> try simp (maxSteps := 1000000) -implicitDefEqProofs only [push_cast, seval]) | with_reducible refine And.intro ?_ ?_ | omega | (simp only [alloc_n, set_n, kill_n]; omega) | (exfalso; omega))
  rotate_left
  · simp [rv, hb, oN, oX]
  · have hn : 0 ≤ a ∧ a ≤ s.size := by simpa [inB] using hb
    obtain ⟨a, rfl⟩ := Int.eq_ofNat_of_zero_le hn.1
    have hr : rv s (a : Int) = rvGo s a 5 0 0 := by simp [rv, hb]
    rw [hr]
    have hn2 : a ≤ s.size := by omega
    refine WC.loopA (by kernel_rfl) [7, 8] [4, 5, 6, 9, 15, 16, 17, 18, 19, 20, 21, 22, 23, 24, 25, 26, 27, 28, 29, 30, 31, 32, 33, 34, 35, 36, 37, 38, 39, 40, 41, 42, 43, 44, 45, 46, 47, 48, 49, 50, 51, 52, 53, 54, 55, 56] (fun p : Nat × Nat => [.int .i64 (p.2 : Nat), .int .i64 (p.1 : Nat)]) (fun p h' => (p.1 ≤ 5 ∧ p.2 < 128 ^ p.1 ∧ rvGo s a (5 - p.1) p.1 p.2 = rvGo s a 5 0 0) ∧ h' = h) (fun p => 5 - p.1) (0, 0) (by kernel_rfl) ⟨⟨by omega, by simp, rfl⟩, rfl⟩ ?_
    intro p g h1 hJ
    have hi := hJ.1.1
    have hlt := hJ.1.2.1
    have hgo := hJ.1.2.2
    have hh := hJ.2
    clear hJ
    subst hh
    with_reducible refine nameN (a + p.1) (fun N hN => ?_)
    have w1 : IntKind.i64.wrap ((a : Int) + (p.1 : Nat)) = (N : Int) := by rw [w64 (by omega) (by omega)]; omega
    simp (maxSteps := 1000000) -implicitDefEqProofs only [push_cast, seval, w1]
    with_reducible refine bcase_d (fun hb1 => ?_) (fun hb1 => ?_)
    rotate_left
    · have h5 : p.1 = 5 := by omega
      rw [h5] at hgo
      simp (maxSteps := 1000000) -implicitDefEqProofs only [push_cast, seval]
      have : rvGo s a 5 0 0 = none := by rw [← hgo]; rfl
      rw [this]
      exact ⟨rfl, Keep.refl _ _⟩
    simp (maxSteps := 1000000) -implicitDefEqProofs only [push_cast, seval, w1]
    with_reducible refine bcase_d (fun hb2 => ?_) (fun hb2 => ?_)
    rotate_left
    · simp (maxSteps := 1000000) -implicitDefEqProofs only [push_cast, seval]
      have : rvGo s a 5 0 0 = none := by rw [← hgo, rvGo_out _ _ _ _ _ (by omega)]
      rw [this]
      exact ⟨rfl, Keep.refl _ _⟩
    have h5 : p.1 < 5 := by omega
    have hp5 := pow128 h5
    have hsz : a + p.1 < s.size := by omega
    with_reducible refine nameN (bN s N) (fun c hc => ?_)
    with_reducible refine nameN (c % 128) (fun d hd => ?_)
    with_reducible refine nameN (7 * p.1) (fun j7 hj7 => ?_)
    with_reducible refine nameN (d * 128 ^ p.1) (fun x hx => ?_)
    with_reducible refine nameN (p.2 + x) (fun v hv => ?_)
    have hcl : c < 256 := hc ▸ bN_lt s N
    have hxl : x ≤ 127 * 128 ^ p.1 := hx ▸ hd ▸ dig_lt h5
    have eb : ((byteAt s N).toNat : Int) = (c : Int) := by rw [hc]; rfl
    have w2 : IntKind.i64.wrap (c : Int) = (c : Int) := wrapNat (by omega)
    have w3 : (c : Int).tmod 128 = (d : Int) := by rw [Int.tmod_eq_emod_of_nonneg (by omega)]; omega
    have w4 : IntKind.i64.wrap (7 * (p.1 : Int)) = (j7 : Int) := by rw [w64 (by omega) (by omega)]; omega
    have w5 : IntKind.i64.wrap ((d : Int) * 2 ^ min j7 IntKind.i64.bits) = (x : Int) := by
      have e : min j7 IntKind.i64.bits = 7 * p.1 := by rw [hj7]; exact Nat.min_eq_left (by show 7 * p.1 ≤ 64; omega)
      rw [e, show (2 : Int) ^ (7 * p.1) = ((128 ^ p.1 : Nat) : Int) by rw [Int.pow_mul]; norm_cast, ← Int.natCast_mul, ← hx]
      exact wrapNat (by omega)
    have w6 : IntKind.i64.wrap ((p.2 : Int) + (x : Int)) = (v : Int) := by
      rw [← Int.natCast_add, ← hv]; exact wrapNat (by omega)
    have w7 : IntKind.i64.wrap ((N : Int) + 1) = ((N + 1 : Nat) : Int) := wrapSucc (by omega)
    have hgo2 : rvGo s a (5 - p.1) p.1 p.2 = rvGo s a (4 - p.1 + 1) p.1 p.2 := by congr 1; omega
    rw [hgo2, rvGo_succ _ _ _ _ _ hsz, ← hN, ← hc, ← hd, ← hx, ← hv] at hgo
    have w8 := wrapSucc (n := p.1) (by omega)
    simp (maxSteps := 1000000) -implicitDefEqProofs only [push_cast, seval, w1, eb, w2, w3, w4, w5, w6]
    repeat' (first | with_reducible (first | exact Keep.refl _ _ | assumption | exact byte_lt _ _ | apply Keep.alloc | (refine Keep.set ?_ ?_; rotate_left; · omega) | apply Pre.alloc | apply Pre.set | exact Pre.refl _ | exact le_alloc _ | (refine Pre.keep ?_; assumption) | (refine Pre.n ?_; assumption)) | ((with_reducible (first | refine bcase_d (fun hb => ?_) (fun hb => ?_) | refine bcase_mk (fun hb => ?_) (fun hb => ?_))) <;> try simp (maxSteps := 1000000) -implicitDefEqProofs only [push_cast, seval, w1, eb, w2, w3, w4, w5, w6]) | with_reducible refine And.intro ?_ ?_ | omega | (simp only [alloc_n, set_n, kill_n]; omega) | (exfalso; omega))
    · rw [if_pos (by omega)] at hgo
      refine ⟨(p.1 + 1, v), by rw [w8], ?_, ?_⟩
      · refine ⟨by show p.1 + 1 ≤ 5; omega, by show v < 128 ^ (p.1 + 1); rw [Nat.pow_succ]; omega, ?_⟩
        rw [← hgo]; congr 1; show 5 - (p.1 + 1) = 4 - p.1; omega
      · show 5 - (p.1 + 1) < 5 - p.1
        omega
    all_goals
      rw [if_neg (by omega)] at hgo
      first
        | (rw [if_pos (by omega)] at hgo; rw [← hgo]; rfl)
        | (rw [if_neg (by omega)] at hgo; rw [← hgo, w7]; rfl)
end Go.Proofs.Ytfbcedjheempfaa
namespace Go.Proofs.Ytfbcedjheempfaa
open Go Go.Sim Go.Proofs
set_option linter.unusedSimpArgs false
set_option linter.unusedVariables false
set_option maxRecDepth 100000
set_option maxHeartbeats 1000000
theorem ReadVar_s (s : ByteArray) (a : Int) (hs : s.size ≤ maxLen - 16) (h : AH) : CD Try.prog 104 [.string s, .int .i64 a] h (.tuple #[.int .i64 (oN (rv s a)), .int .i64 (oX (rv s a)), .bool (rv s a).isSome]) h := by
  rw [maxLen_eq] at hs
  refine CD.quiet ?_ (low_tuple (by simp [low_int, low_bool]))
  refine CC.ofN Try.func104 Try.ntmps104 Try.results104 rfl (by decide) (by kernel_rfl) ?_
  simp (maxSteps := 1000000) -implicitDefEqProofs only [push_cast, seval]
  repeat' (first | with_reducible (first | exact Keep.refl _ _ | assumption | exact byte_lt _ _ | apply Keep.alloc | (refine Keep.set ?_ ?_; rotate_left; · omega) | apply Pre.alloc | apply Pre.set | exact Pre.refl _ | exact le_alloc _ | (refine Pre.keep ?_; assumption) | (refine Pre.n ?_; assumption)) | ((with_reducible (first | refine CD.to (l01In_c _ _ _ _) ?_ | refine CQ.pure (fun _ => l01In_c _ _ _ _) ?_ | refine bcase_d (fun hb => ?_) (fun hb => ?_) | refine bcase_mk (fun hb => ?_) (fun hb => ?_))) <;> try simp (maxSteps := 1000000) -implicitDefEqProofs only [push_cast, seval]) | with_reducible refine And.intro ?_ ?_ | omega | (simp only [alloc_n, set_n, kill_n]; omega) | (exfalso; omega))
  rotate_left
  · simp [rv, hb, oN, oX]
  · have hn : 0 ≤ a ∧ a ≤ s.size := by simpa [inB] using hb
    obtain ⟨a, rfl⟩ := Int.eq_ofNat_of_zero_le hn.1
    have hr : rv s (a : Int) = rvGo s a 5 0 0 := by simp [rv, hb]
    rw [hr]
    have hn2 : a ≤ s.size := by omega
    refine WC.loopA (by kernel_rfl) [7, 8, 9] [4, 5, 6, 16, 17, 18, 19, 20, 21, 22, 23, 24, 25, 26, 27, 28, 29, 30, 31, 32, 33, 34, 35, 36, 37, 38, 39, 40, 41, 42, 43, 44, 45, 46, 47, 48, 49, 50, 51, 52, 53, 54, 55, 56, 57] (fun z : Nat × Nat × Nat × Nat => [.int .i64 (z.2.1 : Nat), .int .i64 (z.2.2.1 : Nat), .int .i64 (z.2.2.2 : Nat)]) (fun z h' => ((z.2.1 = sumv (bl s a z.1) ∧ z.2.2.1 = 128 ^ z.1 ∧ z.2.2.2 = a + z.1) ∧ z.1 ≤ 5 ∧ a + z.1 ≤ s.size ∧ (∀ b ∈ bl s a z.1, 127 < b ∧ b < 256) ∧ z.2.1 < z.2.2.1 ∧ rvGo s a (5 - z.1) z.1 z.2.1 = rvGo s a 5 0 0) ∧ h' = h) (fun z => 5 - z.1) (0, 0, 1, a) (by kernel_rfl) ⟨⟨⟨rfl, rfl, rfl⟩, by omega, by show a + 0 ≤ s.size; omega, by simp [bl], by show 0 < 1; decide, rfl⟩, rfl⟩ ?_
    intro z g h1 hJ
    have hq := hJ.1.1.1
    have hsc := hJ.1.1.2.1
    have hN := hJ.1.1.2.2
    have hi := hJ.1.2.1
    have hsz0 := hJ.1.2.2.1
    have hall := hJ.1.2.2.2.1
    have hlt := hJ.1.2.2.2.2.1
    have hgo := hJ.1.2.2.2.2.2
    have hh := hJ.2
    clear hJ
    subst hh
    with_reducible refine nameN z.1 (fun i hi0 => ?_)
    with_reducible refine nameN z.2.1 (fun q hq0 => ?_)
    with_reducible refine nameN z.2.2.1 (fun sc hsc0 => ?_)
    with_reducible refine nameN z.2.2.2 (fun N hN0 => ?_)
    rw [← hi0, ← hq0] at hgo
    rw [← hq0, ← hsc0] at hlt
    rw [← hi0] at hall hsz0 hi
    rw [← hi0, ← hq0] at hq
    rw [← hi0, ← hsc0] at hsc
    rw [← hi0, ← hN0] at hN
    rw [← hq0, ← hsc0, ← hN0]
    simp (maxSteps := 1000000) -implicitDefEqProofs only [push_cast, seval]
    with_reducible refine bcase_d (fun hb1 => ?_) (fun hb1 => ?_)
    rotate_left
    · simp (maxSteps := 1000000) -implicitDefEqProofs only [push_cast, seval]
      have : rvGo s a 5 0 0 = none := by rw [← hgo, rvGo_out _ _ _ _ _ (by omega)]
      rw [this]
      exact ⟨rfl, Keep.refl _ _⟩
    have w1 : IntKind.i64.wrap ((a : Int) + 5) = (a : Int) + 5 := by rw [w64 (by omega) (by omega)]
    simp (maxSteps := 1000000) -implicitDefEqProofs only [push_cast, seval, w1]
    with_reducible refine bcase_d (fun hb2 => ?_) (fun hb2 => ?_)
    rotate_left
    · have h5 : i = 5 := by omega
      rw [h5] at hgo
      simp (maxSteps := 1000000) -implicitDefEqProofs only [push_cast, seval]
      have : rvGo s a 5 0 0 = none := by rw [← hgo]; rfl
      rw [this]
      exact ⟨rfl, Keep.refl _ _⟩
    have h5 : i < 5 := by omega
    have hp5 := pow128 h5
    have hsz : a + i < s.size := by omega
    with_reducible refine nameN (bN s N) (fun c hc => ?_)
    with_reducible refine nameN (c % 128) (fun d hd => ?_)
    with_reducible refine nameN (d * sc) (fun x hx => ?_)
    with_reducible refine nameN (q + x) (fun v hv => ?_)
    with_reducible refine nameN (sc * 128) (fun sc' hsc' => ?_)
    have hcl : c < 256 := hc ▸ bN_lt s N
    have hxl : x ≤ 127 * 128 ^ i := by rw [hx, hsc, hd]; exact dig_lt h5
    have eb : ((byteAt s N).toNat : Int) = (c : Int) := by rw [hc]; rfl
    have w2 : IntKind.i64.wrap (c : Int) = (c : Int) := wrapNat (by omega)
    have w3 : (c : Int).tmod 128 = (d : Int) := by rw [Int.tmod_eq_emod_of_nonneg (by omega)]; omega
    have w5 : IntKind.i64.wrap ((d : Int) * (sc : Int)) = (x : Int) := by rw [← Int.natCast_mul, ← hx]; exact wrapNat (by omega)
    have w6 : IntKind.i64.wrap ((q : Int) + (x : Int)) = (v : Int) := by
      rw [← Int.natCast_add, ← hv]; exact wrapNat (by omega)
    have w9 : IntKind.i64.wrap ((sc : Int) * 128) = (sc' : Int) := by rw [w64 (by omega) (by omega)]; omega
    have w7 : IntKind.i64.wrap ((N : Int) + 1) = ((N + 1 : Nat) : Int) := wrapSucc (by omega)
    have hv2 : v = sumv (bl s a (i + 1)) := by rw [bl_succ, sumv_snoc, bl_len, ← hN, ← hc, ← hd, ← hsc, ← hx, ← hq, hv]
    have hgo2 : rvGo s a (5 - i) i q = rvGo s a (4 - i + 1) i q := by congr 1; omega
    rw [hgo2, rvGo_succ _ _ _ _ _ hsz, ← hN, ← hc, ← hd, ← hsc, ← hx, ← hv] at hgo
    have h1000 : v ≤ 34359738367 := by omega
    simp (maxSteps := 1000000) -implicitDefEqProofs only [push_cast, seval, eb, w2, w3, w5, w6, w9]
    repeat' (first | with_reducible (first | exact Keep.refl _ _ | assumption | exact byte_lt _ _ | apply Keep.alloc | (refine Keep.set ?_ ?_; rotate_left; · omega) | apply Pre.alloc | apply Pre.set | exact Pre.refl _ | exact le_alloc _ | (refine Pre.keep ?_; assumption) | (refine Pre.n ?_; assumption)) | ((with_reducible (first | refine bcase_d (fun hb => ?_) (fun hb => ?_) | refine bcase_mk (fun hb => ?_) (fun hb => ?_))) <;> try simp (maxSteps := 1000000) -implicitDefEqProofs only [push_cast, seval, eb, w2, w3, w5, w6, w9]) | with_reducible refine And.intro ?_ ?_ | omega | (simp only [alloc_n, set_n, kill_n]; omega) | (exfalso; omega))
    rotate_left
    · rw [if_pos (by omega)] at hgo
      refine ⟨(i + 1, v, sc', N + 1), by rw [w7], ?_, ?_⟩
      · refine ⟨⟨hv2, by show sc' = 128 ^ (i + 1); rw [Nat.pow_succ, ← hsc, hsc'], by show N + 1 = a + (i + 1); omega⟩, by show i + 1 ≤ 5; omega, by show a + (i + 1) ≤ s.size; omega, ?_, ?_, ?_⟩
        · intro b hb'
          have hb' : b ∈ bl s a (i + 1) := hb'
          rw [bl_succ, List.mem_append, List.mem_singleton] at hb'
          rcases hb' with h' | h'
          · exact hall b h'
          · rw [h', ← hN, ← hc]; omega
        · show v < sc'
          rw [hsc']; omega
        · rw [← hgo]
          show rvGo s a (5 - (i + 1)) (i + 1) v = _
          congr 1; omega
      · show 5 - (i + 1) < 5 - z.1
        omega
    · rw [if_neg (by omega)] at hgo
      have key : (vt (v : Int) = s.extract a (N + 1)) ↔ ¬ (0 < i ∧ c = 0) := by
        have e0 : N + 1 = a + (i + 1) := by omega
        have e1 : bl s a (i + 1) = bl s a i ++ [c] := by rw [bl_succ, ← hN, ← hc]
        have e2 := vt_eq v s a (i + 1) (by omega)
        rw [e0]
        show (⟨((var (v : Int).toNat).map UInt8.ofNat).toArray⟩ : ByteArray) = _ ↔ _
        rw [Int.toNat_natCast, e2, hv2, e1]
        constructor
        · rintro e ⟨h0, hc0⟩
          rw [hc0] at e
          exact var_no _ (by intro e'; have := bl_len s a i; rw [e'] at this; simp at this; omega) e
        · intro hne
          refine var_sum c (by omega) _ hall ?_
          by_cases hc0 : c = 0
          · right
            have : i = 0 := by omega
            rw [this]; rfl
          · exact .inl hc0
      refine WC.draw' (by kernel_rfl) (by kernel_rfl) (.q 0 (.q 1 (.q 2 (.q 3 (.q 5 (.q 6 (.q 7 (.q 8 (.q 9 (.c 4 (.q 10 (.q 11 (.done))))))))))))) (by kernel_rfl) ?_
      simp (maxSteps := 1000000) -implicitDefEqProofs only [push_cast, seval, eb, w2, w3, w5, w6, w9, w7]
      repeat' (first | with_reducible (first | exact Keep.refl _ _ | assumption | exact byte_lt _ _ | apply Keep.alloc | (refine Keep.set ?_ ?_; rotate_left; · omega) | apply Pre.alloc | apply Pre.set | exact Pre.refl _ | exact le_alloc _ | (refine Pre.keep ?_; assumption) | (refine Pre.n ?_; assumption)) | ((with_reducible (first | refine CD.to (l01Var_c _ ?_ _) ?_ | refine CQ.pure (fun _ => l01Var_c _ ?_ _) ?_ | refine bcase_d (fun hb => ?_) (fun hb => ?_) | refine bcase_mk (fun hb => ?_) (fun hb => ?_))) <;> try simp (maxSteps := 1000000) -implicitDefEqProofs only [push_cast, seval, eb, w2, w3, w5, w6, w9, w7]) | with_reducible refine And.intro ?_ ?_ | omega | (simp only [alloc_n, set_n, kill_n]; omega) | (exfalso; omega))
      · rw [if_pos (by omega)] at hgo; rw [← hgo]; rfl
      · rw [if_neg (by have := key.1 hb; omega)] at hgo; rw [← hgo, hN]; rfl
      · rw [if_pos (by by_cases h' : 0 < i ∧ c = 0
                       · exact .inl h'
                       · exact absurd (key.2 h') hb)] at hgo
        rw [← hgo]; rfl
end Go.Proofs.Ytfbcedjheempfaa
namespace Go.Proofs.Ytfbcedjheempfaa
open Go Go.Sim Go.Proofs
set_option linter.unusedSimpArgs false
set_option linter.unusedVariables false
set_option maxRecDepth 100000
set_option maxHeartbeats 1000000
theorem ReadShort_i (s : ByteArray) (a : Int) (hs : s.size ≤ maxLen - 16) (h : AH) : CD Try.prog 122 [.string s, .int .i64 a] h (.tuple #[.string (sT s (rs s a)), .int .i64 (sX (rs s a)), .bool (rs s a).isSome]) h := by
  refine CD.quiet ?_ (low_tuple (by simp [low_int, low_bool, low_string]))
  have hm := maxLen_eq
  rcases hr : rv s a with _ | ⟨n, x⟩
  · have e : rs s a = none := by simp [rs, hr]
    rw [e]
    refine CC.ofN Try.func122 Try.ntmps122 Try.results122 rfl (by decide) (by kernel_rfl) ?_
    simp (maxSteps := 1000000) -implicitDefEqProofs only [push_cast, seval]
    repeat' (first | with_reducible (first | exact Keep.refl _ _ | assumption | exact byte_lt _ _ | apply Keep.alloc | (refine Keep.set ?_ ?_; rotate_left; · omega) | apply Pre.alloc | apply Pre.set | exact Pre.refl _ | exact le_alloc _ | (refine Pre.keep ?_; assumption) | (refine Pre.n ?_; assumption)) | ((with_reducible (first | refine CD.to (ReadVar_i _ _ ?_ _) ?_ | refine CQ.pure (fun _ => ReadVar_i _ _ ?_ _) ?_ | refine bcase_d (fun hb => ?_) (fun hb => ?_) | refine bcase_mk (fun hb => ?_) (fun hb => ?_))) <;> try simp (maxSteps := 1000000) -implicitDefEqProofs only [push_cast, seval, hr]) | with_reducible refine And.intro ?_ ?_ | omega | (simp only [alloc_n, set_n, kill_n]; omega) | (exfalso; omega))
  · have hx := rv_some hr
    simp only at hx
    have e : rs s a = if 20000 < n ∨ s.size < x + n then none else some (n, x) := by simp [rs, hr]
    have w1 : IntKind.i64.wrap ((s.size : Int) - (x : Int)) = (s.size : Int) - (x : Int) := by rw [w64 (by omega) (by omega)]
    rw [e]
    by_cases hc : 20000 < n ∨ s.size < x + n
    · rw [if_pos hc]
      refine CC.ofN Try.func122 Try.ntmps122 Try.results122 rfl (by decide) (by kernel_rfl) ?_
      simp (maxSteps := 1000000) -implicitDefEqProofs only [push_cast, seval]
      repeat' (first | with_reducible (first | exact Keep.refl _ _ | assumption | exact byte_lt _ _ | apply Keep.alloc | (refine Keep.set ?_ ?_; rotate_left; · omega) | apply Pre.alloc | apply Pre.set | exact Pre.refl _ | exact le_alloc _ | (refine Pre.keep ?_; assumption) | (refine Pre.n ?_; assumption)) | ((with_reducible (first | refine CD.to (ReadVar_i _ _ ?_ _) ?_ | refine CQ.pure (fun _ => ReadVar_i _ _ ?_ _) ?_ | refine bcase_d (fun hb => ?_) (fun hb => ?_) | refine bcase_mk (fun hb => ?_) (fun hb => ?_))) <;> try simp (maxSteps := 1000000) -implicitDefEqProofs only [push_cast, seval, hr, w1]) | with_reducible refine And.intro ?_ ?_ | omega | (simp only [alloc_n, set_n, kill_n]; omega) | (exfalso; omega))
    · rw [if_neg hc]
      have w2 : IntKind.i64.wrap ((x : Int) + (n : Int)) = (x : Int) + (n : Int) := by rw [w64 (by omega) (by omega)]
      refine CC.ofN Try.func122 Try.ntmps122 Try.results122 rfl (by decide) (by kernel_rfl) ?_
      simp (maxSteps := 1000000) -implicitDefEqProofs only [push_cast, seval]
      repeat' (first | with_reducible (first | exact Keep.refl _ _ | assumption | exact byte_lt _ _ | apply Keep.alloc | (refine Keep.set ?_ ?_; rotate_left; · omega) | apply Pre.alloc | apply Pre.set | exact Pre.refl _ | exact le_alloc _ | (refine Pre.keep ?_; assumption) | (refine Pre.n ?_; assumption)) | ((with_reducible (first | refine CD.to (ReadVar_i _ _ ?_ _) ?_ | refine CQ.pure (fun _ => ReadVar_i _ _ ?_ _) ?_ | refine bcase_d (fun hb => ?_) (fun hb => ?_) | refine bcase_mk (fun hb => ?_) (fun hb => ?_))) <;> try simp (maxSteps := 1000000) -implicitDefEqProofs only [push_cast, seval, hr, w1, w2]) | with_reducible refine And.intro ?_ ?_ | omega | (simp only [alloc_n, set_n, kill_n]; omega) | (exfalso; omega))
      rw [show ((x : Int) + (n : Int)).toNat = x + n by omega]; rfl
theorem ReadShort_s (s : ByteArray) (a : Int) (hs : s.size ≤ maxLen - 16) (h : AH) : CD Try.prog 121 [.string s, .int .i64 a] h (.tuple #[.string (sT s (rs s a)), .int .i64 (sX (rs s a)), .bool (rs s a).isSome]) h := by
  refine CD.quiet ?_ (low_tuple (by simp [low_int, low_bool, low_string]))
  have hm := maxLen_eq
  rcases hr : rv s a with _ | ⟨n, x⟩
  · have e : rs s a = none := by simp [rs, hr]
    rw [e]
    refine CC.ofN Try.func121 Try.ntmps121 Try.results121 rfl (by decide) (by kernel_rfl) ?_
    simp (maxSteps := 1000000) -implicitDefEqProofs only [push_cast, seval]
    repeat' (first | with_reducible (first | exact Keep.refl _ _ | assumption | exact byte_lt _ _ | apply Keep.alloc | (refine Keep.set ?_ ?_; rotate_left; · omega) | apply Pre.alloc | apply Pre.set | exact Pre.refl _ | exact le_alloc _ | (refine Pre.keep ?_; assumption) | (refine Pre.n ?_; assumption)) | ((with_reducible (first | refine CD.to (ReadVar_s _ _ ?_ _) ?_ | refine CQ.pure (fun _ => ReadVar_s _ _ ?_ _) ?_ | refine bcase_d (fun hb => ?_) (fun hb => ?_) | refine bcase_mk (fun hb => ?_) (fun hb => ?_))) <;> try simp (maxSteps := 1000000) -implicitDefEqProofs only [push_cast, seval, hr]) | with_reducible refine And.intro ?_ ?_ | omega | (simp only [alloc_n, set_n, kill_n]; omega) | (exfalso; omega))
  · have hx := rv_some hr
    simp only at hx
    have e : rs s a = if 20000 < n ∨ s.size < x + n then none else some (n, x) := by simp [rs, hr]
    have w1 : IntKind.i64.wrap ((s.size : Int) - (x : Int)) = (s.size : Int) - (x : Int) := by rw [w64 (by omega) (by omega)]
    rw [e]
    by_cases hc : 20000 < n ∨ s.size < x + n
    · rw [if_pos hc]
      refine CC.ofN Try.func121 Try.ntmps121 Try.results121 rfl (by decide) (by kernel_rfl) ?_
      simp (maxSteps := 1000000) -implicitDefEqProofs only [push_cast, seval]
      repeat' (first | with_reducible (first | exact Keep.refl _ _ | assumption | exact byte_lt _ _ | apply Keep.alloc | (refine Keep.set ?_ ?_; rotate_left; · omega) | apply Pre.alloc | apply Pre.set | exact Pre.refl _ | exact le_alloc _ | (refine Pre.keep ?_; assumption) | (refine Pre.n ?_; assumption)) | ((with_reducible (first | refine CD.to (ReadVar_s _ _ ?_ _) ?_ | refine CQ.pure (fun _ => ReadVar_s _ _ ?_ _) ?_ | refine bcase_d (fun hb => ?_) (fun hb => ?_) | refine bcase_mk (fun hb => ?_) (fun hb => ?_))) <;> try simp (maxSteps := 1000000) -implicitDefEqProofs only [push_cast, seval, hr, w1]) | with_reducible refine And.intro ?_ ?_ | omega | (simp only [alloc_n, set_n, kill_n]; omega) | (exfalso; omega))
    · rw [if_neg hc]
      have w2 : IntKind.i64.wrap ((x : Int) + (n : Int)) = (x : Int) + (n : Int) := by rw [w64 (by omega) (by omega)]
      refine CC.ofN Try.func121 Try.ntmps121 Try.results121 rfl (by decide) (by kernel_rfl) ?_
      simp (maxSteps := 1000000) -implicitDefEqProofs only [push_cast, seval]
      repeat' (first | with_reducible (first | exact Keep.refl _ _ | assumption | exact byte_lt _ _ | apply Keep.alloc | (refine Keep.set ?_ ?_; rotate_left; · omega) | apply Pre.alloc | apply Pre.set | exact Pre.refl _ | exact le_alloc _ | (refine Pre.keep ?_; assumption) | (refine Pre.n ?_; assumption)) | ((with_reducible (first | refine CD.to (ReadVar_s _ _ ?_ _) ?_ | refine CQ.pure (fun _ => ReadVar_s _ _ ?_ _) ?_ | refine bcase_d (fun hb => ?_) (fun hb => ?_) | refine bcase_mk (fun hb => ?_) (fun hb => ?_))) <;> try simp (maxSteps := 1000000) -implicitDefEqProofs only [push_cast, seval, hr, w1, w2]) | with_reducible refine And.intro ?_ ?_ | omega | (simp only [alloc_n, set_n, kill_n]; omega) | (exfalso; omega))
      rw [show ((x : Int) + (n : Int)).toNat = x + n by omega]; rfl
theorem number_c (p : Nat) (s : ByteArray) (a : Nat) (bad : Bool) (hs : s.size ≤ maxLen - 16) (h : AH) (e : h.ob p = rdOb p s a bad) :
    CD Try.prog 68 [.pointer (some ⟨p, 0, none⟩)] h (.int .i64 (oN (if bad then none else rv s a))) (h.set p (rdOb p s (nxN (if bad then none else rv s a) a) (if bad then none else rv s a).isNone)) := by
  refine CD.withBig (fun big => ?_)
  have hp : p < h.n := big.ltOb e (by simp [rdOb])
  refine CD.wrote hp ?_ (low_int _ _ _) (rdOb_low _ _ _ _ _)
  simp only [rdOb] at e ⊢
  cases bad with
  | true =>
    simp only [if_true, oN_none, nxN_none, Option.isNone_none]
    refine CC.ofN Try.func68 Try.ntmps68 Try.results68 rfl (by decide) (by kernel_rfl) ?_
    simp (maxSteps := 1000000) -implicitDefEqProofs only [push_cast, seval]
    refine WC.draw' (by kernel_rfl) (by kernel_rfl) (.q 0 (.q 1 (.q 2 (.q 3 (.q 4 (.q 5 (.q 6 (.q 7 (.c 8 (.q 9 (.q 10 (.q 11 (.q 12 (.q 13 (.q 14 (.q 15 (.done))))))))))))))))) (by kernel_rfl) ?_
    simp (maxSteps := 1000000) -implicitDefEqProofs only [push_cast, seval, rd_of e, rd1_of e, e, hp]
    repeat' (first | with_reducible (first | exact Keep.refl _ _ | assumption | exact byte_lt _ _ | apply Keep.alloc | (refine Keep.set ?_ ?_; rotate_left; · omega) | apply Pre.alloc | apply Pre.set | exact Pre.refl _ | exact le_alloc _ | (refine Pre.keep ?_; assumption) | (refine Pre.n ?_; assumption)) | ((with_reducible (first | refine CD.to (ReadVar_i _ _ ?_ _) ?_ | refine CQ.pure (fun _ => ReadVar_i _ _ ?_ _) ?_ | refine bcase_d (fun hb => ?_) (fun hb => ?_) | refine bcase_mk (fun hb => ?_) (fun hb => ?_))) <;> try simp (maxSteps := 1000000) -implicitDefEqProofs only [push_cast, seval, rd_of e, rd1_of e, e, hp]) | with_reducible refine And.intro ?_ ?_ | omega | (simp only [alloc_n, set_n, kill_n]; omega) | (exfalso; omega))
  | false =>
    rcases hr : rv s a with _ | ⟨n, x⟩
    · simp only [Bool.false_eq_true, if_false, oN_none, nxN_none, Option.isNone_none, oN_some, nxN_some, Option.isNone_some]
      refine CC.ofN Try.func68 Try.ntmps68 Try.results68 rfl (by decide) (by kernel_rfl) ?_
      simp (maxSteps := 1000000) -implicitDefEqProofs only [push_cast, seval]
      refine WC.draw' (by kernel_rfl) (by kernel_rfl) (.q 0 (.q 1 (.q 2 (.q 3 (.q 4 (.q 5 (.q 6 (.q 7 (.c 8 (.q 9 (.q 10 (.q 11 (.q 12 (.q 13 (.q 14 (.q 15 (.done))))))))))))))))) (by kernel_rfl) ?_
      simp (maxSteps := 1000000) -implicitDefEqProofs only [push_cast, seval, rd_of e, rd1_of e, e, hp]
      repeat' (first | with_reducible (first | exact Keep.refl _ _ | assumption | exact byte_lt _ _ | apply Keep.alloc | (refine Keep.set ?_ ?_; rotate_left; · omega) | apply Pre.alloc | apply Pre.set | exact Pre.refl _ | exact le_alloc _ | (refine Pre.keep ?_; assumption) | (refine Pre.n ?_; assumption)) | ((with_reducible (first | refine CD.to (ReadVar_i _ _ ?_ _) ?_ | refine CQ.pure (fun _ => ReadVar_i _ _ ?_ _) ?_ | refine bcase_d (fun hb => ?_) (fun hb => ?_) | refine bcase_mk (fun hb => ?_) (fun hb => ?_))) <;> try simp (maxSteps := 1000000) -implicitDefEqProofs only [push_cast, seval, rd_of e, rd1_of e, e, hp, hr]) | with_reducible refine And.intro ?_ ?_ | omega | (simp only [alloc_n, set_n, kill_n]; omega) | (exfalso; omega))
    · simp only [Bool.false_eq_true, if_false, oN_none, nxN_none, Option.isNone_none, oN_some, nxN_some, Option.isNone_some]
      refine CC.ofN Try.func68 Try.ntmps68 Try.results68 rfl (by decide) (by kernel_rfl) ?_
      simp (maxSteps := 1000000) -implicitDefEqProofs only [push_cast, seval]
      refine WC.draw' (by kernel_rfl) (by kernel_rfl) (.q 0 (.q 1 (.q 2 (.q 3 (.q 4 (.q 5 (.q 6 (.q 7 (.c 8 (.q 9 (.q 10 (.q 11 (.q 12 (.q 13 (.q 14 (.q 15 (.done))))))))))))))))) (by kernel_rfl) ?_
      simp (maxSteps := 1000000) -implicitDefEqProofs only [push_cast, seval, rd_of e, rd1_of e, e, hp]
      repeat' (first | with_reducible (first | exact Keep.refl _ _ | assumption | exact byte_lt _ _ | apply Keep.alloc | (refine Keep.set ?_ ?_; rotate_left; · omega) | apply Pre.alloc | apply Pre.set | exact Pre.refl _ | exact le_alloc _ | (refine Pre.keep ?_; assumption) | (refine Pre.n ?_; assumption)) | ((with_reducible (first | refine CD.to (ReadVar_i _ _ ?_ _) ?_ | refine CQ.pure (fun _ => ReadVar_i _ _ ?_ _) ?_ | refine bcase_d (fun hb => ?_) (fun hb => ?_) | refine bcase_mk (fun hb => ?_) (fun hb => ?_))) <;> try simp (maxSteps := 1000000) -implicitDefEqProofs only [push_cast, seval, rd_of e, rd1_of e, e, hp, hr]) | with_reducible refine And.intro ?_ ?_ | omega | (simp only [alloc_n, set_n, kill_n]; omega) | (exfalso; omega))
theorem l07Var_c (p : Nat) (s : ByteArray) (a : Nat) (bad : Bool) (hs : s.size ≤ maxLen - 16) (h : AH) (e : h.ob p = rdOb p s a bad) :
    CD Try.prog 65 [.pointer (some ⟨p, 0, none⟩)] h (.int .i64 (oN (if bad then none else rv s a))) (h.set p (rdOb p s (nxN (if bad then none else rv s a) a) (if bad then none else rv s a).isNone)) := by
  refine CD.withBig (fun big => ?_)
  have hp : p < h.n := big.ltOb e (by simp [rdOb])
  refine CD.wrote hp ?_ (low_int _ _ _) (rdOb_low _ _ _ _ _)
  simp only [rdOb] at e ⊢
  cases bad with
  | true =>
    simp only [if_true, oN_none, nxN_none, Option.isNone_none]
    refine CC.ofN Try.func65 Try.ntmps65 Try.results65 rfl (by decide) (by kernel_rfl) ?_
    simp (maxSteps := 1000000) -implicitDefEqProofs only [push_cast, seval]
    refine WC.draw' (by kernel_rfl) (by kernel_rfl) (.q 0 (.q 1 (.q 2 (.q 3 (.q 4 (.q 5 (.q 6 (.q 7 (.c 8 (.q 9 (.q 10 (.q 11 (.q 12 (.q 13 (.q 14 (.q 15 (.done))))))))))))))))) (by kernel_rfl) ?_
    simp (maxSteps := 1000000) -implicitDefEqProofs only [push_cast, seval, rd_of e, rd1_of e, e, hp]
    repeat' (first | with_reducible (first | exact Keep.refl _ _ | assumption | exact byte_lt _ _ | apply Keep.alloc | (refine Keep.set ?_ ?_; rotate_left; · omega) | apply Pre.alloc | apply Pre.set | exact Pre.refl _ | exact le_alloc _ | (refine Pre.keep ?_; assumption) | (refine Pre.n ?_; assumption)) | ((with_reducible (first | refine CD.to (ReadVar_s _ _ ?_ _) ?_ | refine CQ.pure (fun _ => ReadVar_s _ _ ?_ _) ?_ | refine bcase_d (fun hb => ?_) (fun hb => ?_) | refine bcase_mk (fun hb => ?_) (fun hb => ?_))) <;> try simp (maxSteps := 1000000) -implicitDefEqProofs only [push_cast, seval, rd_of e, rd1_of e, e, hp]) | with_reducible refine And.intro ?_ ?_ | omega | (simp only [alloc_n, set_n, kill_n]; omega) | (exfalso; omega))
  | false =>
    rcases hr : rv s a with _ | ⟨n, x⟩
    · simp only [Bool.false_eq_true, if_false, oN_none, nxN_none, Option.isNone_none, oN_some, nxN_some, Option.isNone_some]
      refine CC.ofN Try.func65 Try.ntmps65 Try.results65 rfl (by decide) (by kernel_rfl) ?_
      simp (maxSteps := 1000000) -implicitDefEqProofs only [push_cast, seval]
      refine WC.draw' (by kernel_rfl) (by kernel_rfl) (.q 0 (.q 1 (.q 2 (.q 3 (.q 4 (.q 5 (.q 6 (.q 7 (.c 8 (.q 9 (.q 10 (.q 11 (.q 12 (.q 13 (.q 14 (.q 15 (.done))))))))))))))))) (by kernel_rfl) ?_
      simp (maxSteps := 1000000) -implicitDefEqProofs only [push_cast, seval, rd_of e, rd1_of e, e, hp]
      repeat' (first | with_reducible (first | exact Keep.refl _ _ | assumption | exact byte_lt _ _ | apply Keep.alloc | (refine Keep.set ?_ ?_; rotate_left; · omega) | apply Pre.alloc | apply Pre.set | exact Pre.refl _ | exact le_alloc _ | (refine Pre.keep ?_; assumption) | (refine Pre.n ?_; assumption)) | ((with_reducible (first | refine CD.to (ReadVar_s _ _ ?_ _) ?_ | refine CQ.pure (fun _ => ReadVar_s _ _ ?_ _) ?_ | refine bcase_d (fun hb => ?_) (fun hb => ?_) | refine bcase_mk (fun hb => ?_) (fun hb => ?_))) <;> try simp (maxSteps := 1000000) -implicitDefEqProofs only [push_cast, seval, rd_of e, rd1_of e, e, hp, hr]) | with_reducible refine And.intro ?_ ?_ | omega | (simp only [alloc_n, set_n, kill_n]; omega) | (exfalso; omega))
    · simp only [Bool.false_eq_true, if_false, oN_none, nxN_none, Option.isNone_none, oN_some, nxN_some, Option.isNone_some]
      refine CC.ofN Try.func65 Try.ntmps65 Try.results65 rfl (by decide) (by kernel_rfl) ?_
      simp (maxSteps := 1000000) -implicitDefEqProofs only [push_cast, seval]
      refine WC.draw' (by kernel_rfl) (by kernel_rfl) (.q 0 (.q 1 (.q 2 (.q 3 (.q 4 (.q 5 (.q 6 (.q 7 (.c 8 (.q 9 (.q 10 (.q 11 (.q 12 (.q 13 (.q 14 (.q 15 (.done))))))))))))))))) (by kernel_rfl) ?_
      simp (maxSteps := 1000000) -implicitDefEqProofs only [push_cast, seval, rd_of e, rd1_of e, e, hp]
      repeat' (first | with_reducible (first | exact Keep.refl _ _ | assumption | exact byte_lt _ _ | apply Keep.alloc | (refine Keep.set ?_ ?_; rotate_left; · omega) | apply Pre.alloc | apply Pre.set | exact Pre.refl _ | exact le_alloc _ | (refine Pre.keep ?_; assumption) | (refine Pre.n ?_; assumption)) | ((with_reducible (first | refine CD.to (ReadVar_s _ _ ?_ _) ?_ | refine CQ.pure (fun _ => ReadVar_s _ _ ?_ _) ?_ | refine bcase_d (fun hb => ?_) (fun hb => ?_) | refine bcase_mk (fun hb => ?_) (fun hb => ?_))) <;> try simp (maxSteps := 1000000) -implicitDefEqProofs only [push_cast, seval, rd_of e, rd1_of e, e, hp, hr]) | with_reducible refine And.intro ?_ ?_ | omega | (simp only [alloc_n, set_n, kill_n]; omega) | (exfalso; omega))
end Go.Proofs.Ytfbcedjheempfaa
namespace Go.Proofs.Ytfbcedjheempfaa
open Go Go.Sim Go.Proofs
set_option linter.unusedSimpArgs false
set_option linter.unusedVariables false
set_option maxRecDepth 100000
set_option maxHeartbeats 1000000
theorem short_c (p : Nat) (s : ByteArray) (a : Nat) (bad : Bool) (hs : s.size ≤ maxLen - 16) (h : AH) (e : h.ob p = rdOb p s a bad) :
    CD Try.prog 89 [.pointer (some ⟨p, 0, none⟩)] h (.string (sT s (if bad then none else rs s a))) (h.set p (rdOb p s (nxT (if bad then none else rs s a) a) (if bad then none else rs s a).isNone)) := by
  refine CD.withBig (fun big => ?_)
  have hp : p < h.n := big.ltOb e (by simp [rdOb])
  refine CD.wrote hp ?_ (low_string _ _) (rdOb_low _ _ _ _ _)
  simp only [rdOb] at e ⊢
  cases bad with
  | true =>
    simp only [if_true, sT_none, nxT_none, Option.isNone_none]
    refine CC.ofN Try.func89 Try.ntmps89 Try.results89 rfl (by decide) (by kernel_rfl) ?_
    simp (maxSteps := 1000000) -implicitDefEqProofs only [push_cast, seval]
    refine WC.draw' (by kernel_rfl) (by kernel_rfl) (.q 0 (.q 1 (.q 2 (.q 3 (.q 4 (.q 5 (.q 6 (.q 7 (.c 8 (.q 9 (.q 10 (.q 11 (.q 12 (.q 13 (.q 14 (.q 15 (.done))))))))))))))))) (by kernel_rfl) ?_
    simp (maxSteps := 1000000) -implicitDefEqProofs only [push_cast, seval, rd_of e, rd1_of e, e, hp]
    repeat' (first | with_reducible (first | exact Keep.refl _ _ | assumption | exact byte_lt _ _ | apply Keep.alloc | (refine Keep.set ?_ ?_; rotate_left; · omega) | apply Pre.alloc | apply Pre.set | exact Pre.refl _ | exact le_alloc _ | (refine Pre.keep ?_; assumption) | (refine Pre.n ?_; assumption)) | ((with_reducible (first | refine CD.to (ReadShort_i _ _ ?_ _) ?_ | refine CQ.pure (fun _ => ReadShort_i _ _ ?_ _) ?_ | refine bcase_d (fun hb => ?_) (fun hb => ?_) | refine bcase_mk (fun hb => ?_) (fun hb => ?_))) <;> try simp (maxSteps := 1000000) -implicitDefEqProofs only [push_cast, seval, rd_of e, rd1_of e, e, hp]) | with_reducible refine And.intro ?_ ?_ | omega | (simp only [alloc_n, set_n, kill_n]; omega) | (exfalso; omega))
  | false =>
    rcases hr : rs s a with _ | ⟨n, x⟩
    · simp only [Bool.false_eq_true, if_false, sT_none, nxT_none, Option.isNone_none]
      refine CC.ofN Try.func89 Try.ntmps89 Try.results89 rfl (by decide) (by kernel_rfl) ?_
      simp (maxSteps := 1000000) -implicitDefEqProofs only [push_cast, seval]
      refine WC.draw' (by kernel_rfl) (by kernel_rfl) (.q 0 (.q 1 (.q 2 (.q 3 (.q 4 (.q 5 (.q 6 (.q 7 (.c 8 (.q 9 (.q 10 (.q 11 (.q 12 (.q 13 (.q 14 (.q 15 (.done))))))))))))))))) (by kernel_rfl) ?_
      simp (maxSteps := 1000000) -implicitDefEqProofs only [push_cast, seval, rd_of e, rd1_of e, e, hp]
      repeat' (first | with_reducible (first | exact Keep.refl _ _ | assumption | exact byte_lt _ _ | apply Keep.alloc | (refine Keep.set ?_ ?_; rotate_left; · omega) | apply Pre.alloc | apply Pre.set | exact Pre.refl _ | exact le_alloc _ | (refine Pre.keep ?_; assumption) | (refine Pre.n ?_; assumption)) | ((with_reducible (first | refine CD.to (ReadShort_i _ _ ?_ _) ?_ | refine CQ.pure (fun _ => ReadShort_i _ _ ?_ _) ?_ | refine bcase_d (fun hb => ?_) (fun hb => ?_) | refine bcase_mk (fun hb => ?_) (fun hb => ?_))) <;> try simp (maxSteps := 1000000) -implicitDefEqProofs only [push_cast, seval, rd_of e, rd1_of e, e, hp, hr]) | with_reducible refine And.intro ?_ ?_ | omega | (simp only [alloc_n, set_n, kill_n]; omega) | (exfalso; omega))
    · simp only [Bool.false_eq_true, if_false, nxT_some, Option.isNone_some]
      have hx : sX (some (n, x)) = ((x + n : Nat) : Int) := rfl
      refine CC.ofN Try.func89 Try.ntmps89 Try.results89 rfl (by decide) (by kernel_rfl) ?_
      simp (maxSteps := 1000000) -implicitDefEqProofs only [push_cast, seval]
      refine WC.draw' (by kernel_rfl) (by kernel_rfl) (.q 0 (.q 1 (.q 2 (.q 3 (.q 4 (.q 5 (.q 6 (.q 7 (.c 8 (.q 9 (.q 10 (.q 11 (.q 12 (.q 13 (.q 14 (.q 15 (.done))))))))))))))))) (by kernel_rfl) ?_
      simp (maxSteps := 1000000) -implicitDefEqProofs only [push_cast, seval, rd_of e, rd1_of e, e, hp]
      repeat' (first | with_reducible (first | exact Keep.refl _ _ | assumption | exact byte_lt _ _ | apply Keep.alloc | (refine Keep.set ?_ ?_; rotate_left; · omega) | apply Pre.alloc | apply Pre.set | exact Pre.refl _ | exact le_alloc _ | (refine Pre.keep ?_; assumption) | (refine Pre.n ?_; assumption)) | ((with_reducible (first | refine CD.to (ReadShort_i _ _ ?_ _) ?_ | refine CQ.pure (fun _ => ReadShort_i _ _ ?_ _) ?_ | refine bcase_d (fun hb => ?_) (fun hb => ?_) | refine bcase_mk (fun hb => ?_) (fun hb => ?_))) <;> try simp (maxSteps := 1000000) -implicitDefEqProofs only [push_cast, seval, rd_of e, rd1_of e, e, hp, hr, hx]) | with_reducible refine And.intro ?_ ?_ | omega | (simp only [alloc_n, set_n, kill_n]; omega) | (exfalso; omega))
theorem l07ReadShort_c (p : Nat) (s : ByteArray) (a : Nat) (bad : Bool) (hs : s.size ≤ maxLen - 16) (h : AH) (e : h.ob p = rdOb p s a bad) :
    CD Try.prog 87 [.pointer (some ⟨p, 0, none⟩)] h (.string (sT s (if bad then none else rs s a))) (h.set p (rdOb p s (nxT (if bad then none else rs s a) a) (if bad then none else rs s a).isNone)) := by
  refine CD.withBig (fun big => ?_)
  have hp : p < h.n := big.ltOb e (by simp [rdOb])
  refine CD.wrote hp ?_ (low_string _ _) (rdOb_low _ _ _ _ _)
  simp only [rdOb] at e ⊢
  cases bad with
  | true =>
    simp only [if_true, sT_none, nxT_none, Option.isNone_none]
    refine CC.ofN Try.func87 Try.ntmps87 Try.results87 rfl (by decide) (by kernel_rfl) ?_
    simp (maxSteps := 1000000) -implicitDefEqProofs only [push_cast, seval]
    refine WC.draw' (by kernel_rfl) (by kernel_rfl) (.q 0 (.q 1 (.q 2 (.q 3 (.q 4 (.q 5 (.q 6 (.q 7 (.c 8 (.q 9 (.q 10 (.q 11 (.q 12 (.q 13 (.q 14 (.q 15 (.done))))))))))))))))) (by kernel_rfl) ?_
    simp (maxSteps := 1000000) -implicitDefEqProofs only [push_cast, seval, rd_of e, rd1_of e, e, hp]
    repeat' (first | with_reducible (first | exact Keep.refl _ _ | assumption | exact byte_lt _ _ | apply Keep.alloc | (refine Keep.set ?_ ?_; rotate_left; · omega) | apply Pre.alloc | apply Pre.set | exact Pre.refl _ | exact le_alloc _ | (refine Pre.keep ?_; assumption) | (refine Pre.n ?_; assumption)) | ((with_reducible (first | refine CD.to (ReadShort_s _ _ ?_ _) ?_ | refine CQ.pure (fun _ => ReadShort_s _ _ ?_ _) ?_ | refine bcase_d (fun hb => ?_) (fun hb => ?_) | refine bcase_mk (fun hb => ?_) (fun hb => ?_))) <;> try simp (maxSteps := 1000000) -implicitDefEqProofs only [push_cast, seval, rd_of e, rd1_of e, e, hp]) | with_reducible refine And.intro ?_ ?_ | omega | (simp only [alloc_n, set_n, kill_n]; omega) | (exfalso; omega))
  | false =>
    rcases hr : rs s a with _ | ⟨n, x⟩
    · simp only [Bool.false_eq_true, if_false, sT_none, nxT_none, Option.isNone_none]
      refine CC.ofN Try.func87 Try.ntmps87 Try.results87 rfl (by decide) (by kernel_rfl) ?_
      simp (maxSteps := 1000000) -implicitDefEqProofs only [push_cast, seval]
      refine WC.draw' (by kernel_rfl) (by kernel_rfl) (.q 0 (.q 1 (.q 2 (.q 3 (.q 4 (.q 5 (.q 6 (.q 7 (.c 8 (.q 9 (.q 10 (.q 11 (.q 12 (.q 13 (.q 14 (.q 15 (.done))))))))))))))))) (by kernel_rfl) ?_
      simp (maxSteps := 1000000) -implicitDefEqProofs only [push_cast, seval, rd_of e, rd1_of e, e, hp]
      repeat' (first | with_reducible (first | exact Keep.refl _ _ | assumption | exact byte_lt _ _ | apply Keep.alloc | (refine Keep.set ?_ ?_; rotate_left; · omega) | apply Pre.alloc | apply Pre.set | exact Pre.refl _ | exact le_alloc _ | (refine Pre.keep ?_; assumption) | (refine Pre.n ?_; assumption)) | ((with_reducible (first | refine CD.to (ReadShort_s _ _ ?_ _) ?_ | refine CQ.pure (fun _ => ReadShort_s _ _ ?_ _) ?_ | refine bcase_d (fun hb => ?_) (fun hb => ?_) | refine bcase_mk (fun hb => ?_) (fun hb => ?_))) <;> try simp (maxSteps := 1000000) -implicitDefEqProofs only [push_cast, seval, rd_of e, rd1_of e, e, hp, hr]) | with_reducible refine And.intro ?_ ?_ | omega | (simp only [alloc_n, set_n, kill_n]; omega) | (exfalso; omega))
    · simp only [Bool.false_eq_true, if_false, nxT_some, Option.isNone_some]
      have hx : sX (some (n, x)) = ((x + n : Nat) : Int) := rfl
      refine CC.ofN Try.func87 Try.ntmps87 Try.results87 rfl (by decide) (by kernel_rfl) ?_
      simp (maxSteps := 1000000) -implicitDefEqProofs only [push_cast, seval]
      refine WC.draw' (by kernel_rfl) (by kernel_rfl) (.q 0 (.q 1 (.q 2 (.q 3 (.q 4 (.q 5 (.q 6 (.q 7 (.c 8 (.q 9 (.q 10 (.q 11 (.q 12 (.q 13 (.q 14 (.q 15 (.done))))))))))))))))) (by kernel_rfl) ?_
      simp (maxSteps := 1000000) -implicitDefEqProofs only [push_cast, seval, rd_of e, rd1_of e, e, hp]
      repeat' (first | with_reducible (first | exact Keep.refl _ _ | assumption | exact byte_lt _ _ | apply Keep.alloc | (refine Keep.set ?_ ?_; rotate_left; · omega) | apply Pre.alloc | apply Pre.set | exact Pre.refl _ | exact le_alloc _ | (refine Pre.keep ?_; assumption) | (refine Pre.n ?_; assumption)) | ((with_reducible (first | refine CD.to (ReadShort_s _ _ ?_ _) ?_ | refine CQ.pure (fun _ => ReadShort_s _ _ ?_ _) ?_ | refine bcase_d (fun hb => ?_) (fun hb => ?_) | refine bcase_mk (fun hb => ?_) (fun hb => ?_))) <;> try simp (maxSteps := 1000000) -implicitDefEqProofs only [push_cast, seval, rd_of e, rd1_of e, e, hp, hr, hx]) | with_reducible refine And.intro ?_ ?_ | omega | (simp only [alloc_n, set_n, kill_n]; omega) | (exfalso; omega))
theorem count_c (p : Nat) (s : ByteArray) (a : Nat) (bad : Bool) (most : Int) (hm : 0 ≤ most) (hs : s.size ≤ maxLen - 16) (h : AH) (e : h.ob p = rdOb p s a bad) :
    CD Try.prog 88 [.pointer (some ⟨p, 0, none⟩), .int .i64 most] h (.int .i64 (if most < oN (if bad then none else rv s a) then 0 else oN (if bad then none else rv s a)))
      (h.set p (rdOb p s (nxN (if bad then none else rv s a) a) ((if bad then none else rv s a).isNone || decide (most < oN (if bad then none else rv s a))))) := by
  refine CD.withBig (fun big => ?_)
  have hp : p < h.n := big.ltOb e (by simp [rdOb])
  refine CD.wrote hp ?_ (low_int _ _ _) (rdOb_low _ _ _ _ _)
  generalize hq : (if bad then none else rv s a) = q
  have hn := number_c p s a bad hs
  rw [hq] at hn
  simp only [rdOb] at hn e ⊢
  by_cases hc : most < oN q
  · rw [if_pos hc, decide_eq_true hc]
    refine CC.ofN Try.func88 Try.ntmps88 Try.results88 rfl (by decide) (by kernel_rfl) ?_
    simp (maxSteps := 1000000) -implicitDefEqProofs only [push_cast, seval]
    repeat' (first | with_reducible (first | exact Keep.refl _ _ | assumption | exact byte_lt _ _ | apply Keep.alloc | (refine Keep.set ?_ ?_; rotate_left; · omega) | apply Pre.alloc | apply Pre.set | exact Pre.refl _ | exact le_alloc _ | (refine Pre.keep ?_; assumption) | (refine Pre.n ?_; assumption)) | ((with_reducible (first | refine CD.to (hn _ e) ?_ | refine CQ.pure (fun _ => hn _ e) ?_ | refine bcase_d (fun hb => ?_) (fun hb => ?_) | refine bcase_mk (fun hb => ?_) (fun hb => ?_))) <;> try simp (maxSteps := 1000000) -implicitDefEqProofs only [push_cast, seval, rd_of e, rd1_of e, e, hp]) | with_reducible refine And.intro ?_ ?_ | omega | (simp only [alloc_n, set_n, kill_n]; omega) | (exfalso; omega))
  · rw [if_neg hc, decide_eq_false hc]
    refine CC.ofN Try.func88 Try.ntmps88 Try.results88 rfl (by decide) (by kernel_rfl) ?_
    simp (maxSteps := 1000000) -implicitDefEqProofs only [push_cast, seval]
    repeat' (first | with_reducible (first | exact Keep.refl _ _ | assumption | exact byte_lt _ _ | apply Keep.alloc | (refine Keep.set ?_ ?_; rotate_left; · omega) | apply Pre.alloc | apply Pre.set | exact Pre.refl _ | exact le_alloc _ | (refine Pre.keep ?_; assumption) | (refine Pre.n ?_; assumption)) | ((with_reducible (first | refine CD.to (hn _ e) ?_ | refine CQ.pure (fun _ => hn _ e) ?_ | refine bcase_d (fun hb => ?_) (fun hb => ?_) | refine bcase_mk (fun hb => ?_) (fun hb => ?_))) <;> try simp (maxSteps := 1000000) -implicitDefEqProofs only [push_cast, seval, rd_of e, rd1_of e, e, hp]) | with_reducible refine And.intro ?_ ?_ | omega | (simp only [alloc_n, set_n, kill_n]; omega) | (exfalso; omega))
theorem done_c (p : Nat) (s : ByteArray) (a : Nat) (bad : Bool) (h : AH) (e : h.ob p = rdOb p s a bad) :
    CD Try.prog 90 [.pointer (some ⟨p, 0, none⟩)] h (.bool (!bad && decide ((a : Int) = s.size))) h := by
  refine CD.withBig (fun big => ?_)
  have hp : p < h.n := big.ltOb e (by simp [rdOb])
  refine CD.quiet ?_ (low_bool _ _)
  simp only [rdOb] at e
  refine CC.ofN Try.func90 Try.ntmps90 Try.results90 rfl (by decide) (by kernel_rfl) ?_
  simp (maxSteps := 1000000) -implicitDefEqProofs only [push_cast, seval]
  refine WC.draw' (by kernel_rfl) (by kernel_rfl) (.q 0 (.q 1 (.q 2 (.q 3 (.q 4 (.q 5 (.q 6 (.q 7 (.q 8 (.q 9 (.q 10 (.q 11 (.q 12 (.q 13 (.q 14 (.q 15 (.q 16 (.q 17 (.done))))))))))))))))))) (by kernel_rfl) ?_
  simp (maxSteps := 1000000) -implicitDefEqProofs only [push_cast, seval, rd_of e, rd1_of e, e, hp]
  repeat' (first | with_reducible (first | exact Keep.refl _ _ | assumption | exact byte_lt _ _ | apply Keep.alloc | (refine Keep.set ?_ ?_; rotate_left; · omega) | apply Pre.alloc | apply Pre.set | exact Pre.refl _ | exact le_alloc _ | (refine Pre.keep ?_; assumption) | (refine Pre.n ?_; assumption)) | ((with_reducible (first | refine bcase_d (fun hb => ?_) (fun hb => ?_) | refine bcase_mk (fun hb => ?_) (fun hb => ?_))) <;> try simp (maxSteps := 1000000) -implicitDefEqProofs only [push_cast, seval, rd_of e, rd1_of e, e, hp]) | with_reducible refine And.intro ?_ ?_ | omega | (simp only [alloc_n, set_n, kill_n]; omega) | (exfalso; omega))
  all_goals simp [*]
theorem one_c (p : Nat) (s : ByteArray) (a : Nat) (bad : Bool) (hs : s.size ≤ maxLen - 16) (h : AH) (e : h.ob p = rdOb p s a bad) :
    CD Try.prog 67 [.pointer (some ⟨p, 0, none⟩)] h (.int .i64 (if bad = false ∧ a < s.size then (bN s a : Int) else 0)) (h.set p (rdOb p s (if bad = false ∧ a < s.size then a + 1 else a) (!decide (bad = false ∧ a < s.size)))) := by
  refine CD.withBig (fun big => ?_)
  have hp : p < h.n := big.ltOb e (by simp [rdOb])
  have hm := maxLen_eq
  refine CD.wrote hp ?_ (low_int _ _ _) (rdOb_low _ _ _ _ _)
  simp only [rdOb] at e ⊢
  by_cases hc : bad = false ∧ a < s.size
  · rw [if_pos hc, if_pos hc, decide_eq_true hc]
    obtain ⟨rfl, ha⟩ := hc
    have w1 : IntKind.i64.wrap ((a : Int) + 1) = ((a + 1 : Nat) : Int) := wrapSucc (by omega)
    have w2 : IntKind.i64.wrap ((a : Int) + 1 - 1) = (a : Int) := by rw [w64 (by omega) (by omega)]; omega
    have w3 : IntKind.i64.wrap ((byteAt s a).toNat : Int) = (byteAt s a).toNat := by have := (byteAt s a).toNat_lt; rw [w64 (by omega) (by omega)]
    refine CC.ofN Try.func67 Try.ntmps67 Try.results67 rfl (by decide) (by kernel_rfl) ?_
    simp (maxSteps := 1000000) -implicitDefEqProofs only [push_cast, seval]
    refine WC.draw' (by kernel_rfl) (by kernel_rfl) (.q 0 (.q 1 (.q 2 (.q 3 (.q 4 (.q 5 (.q 6 (.q 7 (.q 8 (.q 9 (.q 10 (.q 11 (.q 12 (.q 13 (.q 14 (.q 15 (.done))))))))))))))))) (by kernel_rfl) ?_
    simp (maxSteps := 1000000) -implicitDefEqProofs only [push_cast, seval, rd_of e, rd1_of e, e, hp]
    repeat' (first | with_reducible (first | exact Keep.refl _ _ | assumption | exact byte_lt _ _ | apply Keep.alloc | (refine Keep.set ?_ ?_; rotate_left; · omega) | apply Pre.alloc | apply Pre.set | exact Pre.refl _ | exact le_alloc _ | (refine Pre.keep ?_; assumption) | (refine Pre.n ?_; assumption)) | ((with_reducible (first | refine bcase_d (fun hb => ?_) (fun hb => ?_) | refine bcase_mk (fun hb => ?_) (fun hb => ?_))) <;> try simp (maxSteps := 1000000) -implicitDefEqProofs only [push_cast, seval, rd_of e, rd1_of e, e, hp, w1, w2, w3]) | with_reducible refine And.intro ?_ ?_ | omega | (simp only [alloc_n, set_n, kill_n]; omega) | (exfalso; omega))
    refine WC.draw' (by kernel_rfl) (by kernel_rfl) (.q 0 (.q 1 (.q 2 (.q 3 (.q 4 (.q 5 (.q 6 (.q 7 (.q 8 (.q 9 (.q 10 (.q 11 (.done))))))))))))) (by kernel_rfl) ?_
    simp (maxSteps := 1000000) -implicitDefEqProofs only [push_cast, seval, rd_of e, rd1_of e, e, hp, w2, w3]
    repeat' (first | with_reducible (first | exact Keep.refl _ _ | assumption | exact byte_lt _ _ | apply Keep.alloc | (refine Keep.set ?_ ?_; rotate_left; · omega) | apply Pre.alloc | apply Pre.set | exact Pre.refl _ | exact le_alloc _ | (refine Pre.keep ?_; assumption) | (refine Pre.n ?_; assumption)) | ((with_reducible (first | refine bcase_d (fun hb => ?_) (fun hb => ?_) | refine bcase_mk (fun hb => ?_) (fun hb => ?_))) <;> try simp (maxSteps := 1000000) -implicitDefEqProofs only [push_cast, seval, rd_of e, rd1_of e, e, hp, w1, w2, w3]) | with_reducible refine And.intro ?_ ?_ | omega | (simp only [alloc_n, set_n, kill_n]; omega) | (exfalso; omega))
    rfl
  · rw [if_neg hc, if_neg hc, decide_eq_false hc]
    refine CC.ofN Try.func67 Try.ntmps67 Try.results67 rfl (by decide) (by kernel_rfl) ?_
    simp (maxSteps := 1000000) -implicitDefEqProofs only [push_cast, seval]
    refine WC.draw' (by kernel_rfl) (by kernel_rfl) (.q 0 (.q 1 (.q 2 (.q 3 (.q 4 (.q 5 (.q 6 (.q 7 (.q 8 (.q 9 (.q 10 (.q 11 (.q 12 (.q 13 (.q 14 (.q 15 (.done))))))))))))))))) (by kernel_rfl) ?_
    simp (maxSteps := 1000000) -implicitDefEqProofs only [push_cast, seval, rd_of e, rd1_of e, e, hp]
    repeat' (first | with_reducible (first | exact Keep.refl _ _ | assumption | exact byte_lt _ _ | apply Keep.alloc | (refine Keep.set ?_ ?_; rotate_left; · omega) | apply Pre.alloc | apply Pre.set | exact Pre.refl _ | exact le_alloc _ | (refine Pre.keep ?_; assumption) | (refine Pre.n ?_; assumption)) | ((with_reducible (first | refine bcase_d (fun hb => ?_) (fun hb => ?_) | refine bcase_mk (fun hb => ?_) (fun hb => ?_))) <;> try simp (maxSteps := 1000000) -implicitDefEqProofs only [push_cast, seval, rd_of e, rd1_of e, e, hp]) | with_reducible refine And.intro ?_ ?_ | omega | (simp only [alloc_n, set_n, kill_n]; omega) | (exfalso; omega))
    all_goals exact absurd ⟨by assumption, by omega⟩ hc
end Go.Proofs.Ytfbcedjheempfaa
namespace Go.Proofs.Ytfbcedjheempfaa
open Go Go.Sim Go.Proofs
set_option linter.unusedSimpArgs false
set_option linter.unusedVariables false
set_option maxRecDepth 100000
set_option maxHeartbeats 1000000
theorem SumMore_s (s : Int) (text : ByteArray) (hs : text.size ≤ maxLen) (h : AH) : CD Try.prog 124 [.int .u32 s, .string text] h (.int .u32 (sumFrom text 0 s)) h := by
  have hm := maxLen_eq
  refine CD.quiet ?_ (low_int _ _ _)
  refine CC.ofN Try.func124 Try.ntmps124 Try.results124 rfl (by decide) (by kernel_rfl) ?_
  simp (maxSteps := 1000000) -implicitDefEqProofs only [push_cast, seval]
  refine WC.loopA (by kernel_rfl) [0, 5] [6, 7, 8, 9, 10, 11, 12, 13, 14, 15, 16, 17, 18, 19, 20, 21, 22, 23, 24, 25, 26, 27, 28, 29, 30, 31] (fun a : Int × Nat => [.int .u32 a.1, .int .i64 (a.2 : Nat)]) (fun a h' => (a.2 ≤ text.size ∧ sumFrom text a.2 a.1 = sumFrom text 0 s) ∧ h' = h) (fun a => text.size - a.2) (s, 0) (by kernel_rfl) ⟨⟨Nat.zero_le _, rfl⟩, rfl⟩ ?_
  intro a g h1 hJ
  have hi := hJ.1.1
  have hv := hJ.1.2
  have hh := hJ.2
  clear hJ
  subst hh
  simp (maxSteps := 1000000) -implicitDefEqProofs only [push_cast, seval]
  with_reducible refine bcase_d (fun hb => ?_) (fun hb => ?_)
  · have hlt : a.2 < text.size := by omega
    rw [sumFrom_lt hlt] at hv
    simp (maxSteps := 1000000) -implicitDefEqProofs only [push_cast, seval]
    repeat (with_reducible refine And.intro ?_ ?_; · (first | omega | decide))
    refine WC.loopA (by kernel_rfl) [0, 6] [7, 20, 21, 22, 23, 24, 25, 26, 27, 28, 29, 30, 31] (fun c : Int × Nat => [.int .u32 c.1, .int .i64 (c.2 : Nat)]) (fun c h' => (c.2 ≤ 8 ∧ cbits (8 - c.2) c.1 = sum1 a.1 (byteAt text a.2).toNat) ∧ h' = h1) (fun c => 8 - c.2) (_, 0) (by kernel_rfl) ⟨⟨by show 0 ≤ 8; omega, rfl⟩, rfl⟩ ?_
    intro c g2 h2 hJ
    have hj := hJ.1.1
    have hu := hJ.1.2
    have hh := hJ.2
    clear hJ
    subst hh
    have w1 := wrapSucc (n := c.2) (by omega)
    have w2 := wrapSucc (n := a.2) (by omega)
    simp (maxSteps := 1000000) -implicitDefEqProofs only [push_cast, seval]
    with_reducible refine bcase_d (fun hb2 => ?_) (fun hb2 => ?_)
    · rw [cbits_step (by omega)] at hu
      simp (maxSteps := 1000000) -implicitDefEqProofs only [push_cast, seval]
      repeat (with_reducible refine And.intro ?_ ?_; · (first | omega | decide))
      with_reducible refine bcase_d (fun hb3 => ?_) (fun hb3 => ?_)
      · rw [bit_pos hb3] at hu
        simp (maxSteps := 1000000) -implicitDefEqProofs only [push_cast, seval]
        rw [w1]
        exact ⟨(_, c.2 + 1), by kernel_rfl, ⟨by show c.2 + 1 ≤ 8; omega, hu⟩, by show 8 - (c.2 + 1) < 8 - c.2; omega⟩
      · rw [bit_neg hb3] at hu
        simp (maxSteps := 1000000) -implicitDefEqProofs only [push_cast, seval]
        rw [w1]
        exact ⟨(_, c.2 + 1), by kernel_rfl, ⟨by show c.2 + 1 ≤ 8; omega, hu⟩, by show 8 - (c.2 + 1) < 8 - c.2; omega⟩
    · have h8 : c.2 = 8 := by omega
      rw [h8] at hu
      have hu' : c.1 = sum1 a.1 (byteAt text a.2).toNat := hu
      simp (maxSteps := 1000000) -implicitDefEqProofs only [push_cast, seval]
      rw [w2]
      exact ⟨(c.1, a.2 + 1), by kernel_rfl, ⟨by show a.2 + 1 ≤ text.size; omega, by rw [← hv, hu']⟩, by show text.size - (a.2 + 1) < text.size - a.2; omega⟩
  · rw [sumFrom_end (by omega)] at hv
    simp (maxSteps := 1000000) -implicitDefEqProofs only [push_cast, seval]
    rw [hv]
    exact ⟨rfl, Keep.refl _ _⟩
theorem SumMore_i (s : Int) (text : ByteArray) (hs : text.size ≤ maxLen) (h : AH) : CD Try.prog 125 [.int .u32 s, .string text] h (.int .u32 (sumFrom text 0 s)) h := by
  have hm := maxLen_eq
  refine CD.quiet ?_ (low_int _ _ _)
  refine CC.ofN Try.func125 Try.ntmps125 Try.results125 rfl (by decide) (by kernel_rfl) ?_
  simp (maxSteps := 1000000) -implicitDefEqProofs only [push_cast, seval]
  refine WC.loopA (by kernel_rfl) [0, 5] [6, 7, 8, 9, 10, 11, 12, 13, 14, 15, 16, 17, 18, 19, 20, 21, 22, 23, 24, 25, 26, 27, 28, 29] (fun a : Int × Nat => [.int .u32 a.1, .int .i64 (a.2 : Nat)]) (fun a h' => (a.2 ≤ text.size ∧ sumFrom text a.2 a.1 = sumFrom text 0 s) ∧ h' = h) (fun a => text.size - a.2) (s, 0) (by kernel_rfl) ⟨⟨Nat.zero_le _, rfl⟩, rfl⟩ ?_
  intro a g h1 hJ
  have hi := hJ.1.1
  have hv := hJ.1.2
  have hh := hJ.2
  clear hJ
  subst hh
  simp (maxSteps := 1000000) -implicitDefEqProofs only [push_cast, seval]
  with_reducible refine bcase_d (fun hb => ?_) (fun hb => ?_)
  · have hlt : a.2 < text.size := by omega
    rw [sumFrom_lt hlt] at hv
    simp (maxSteps := 1000000) -implicitDefEqProofs only [push_cast, seval]
    repeat (with_reducible refine And.intro ?_ ?_; · (first | omega | decide))
    refine WC.loopA (by kernel_rfl) [0, 19] [6, 20, 21, 22, 23, 24, 25, 26, 27, 28, 29] (fun c : Int × Nat => [.int .u32 c.1, .int .i64 (c.2 : Nat)]) (fun c h' => (c.2 ≤ 8 ∧ cbits (8 - c.2) c.1 = sum1 a.1 (byteAt text a.2).toNat) ∧ h' = h1) (fun c => 8 - c.2) (_, 0) (by kernel_rfl) ⟨⟨by show 0 ≤ 8; omega, rfl⟩, rfl⟩ ?_
    intro c g2 h2 hJ
    have hj := hJ.1.1
    have hu := hJ.1.2
    have hh := hJ.2
    clear hJ
    subst hh
    have w1 := wrapSucc (n := c.2) (by omega)
    have w2 := wrapSucc (n := a.2) (by omega)
    simp (maxSteps := 1000000) -implicitDefEqProofs only [push_cast, seval]
    with_reducible refine bcase_d (fun hb2 => ?_) (fun hb2 => ?_)
    · rw [cbits_step (by omega)] at hu
      simp (maxSteps := 1000000) -implicitDefEqProofs only [push_cast, seval]
      repeat (with_reducible refine And.intro ?_ ?_; · (first | omega | decide))
      with_reducible refine bcase_d (fun hb3 => ?_) (fun hb3 => ?_)
      · rw [bit_pos hb3] at hu
        simp (maxSteps := 1000000) -implicitDefEqProofs only [push_cast, seval]
        rw [w1]
        exact ⟨(_, c.2 + 1), by kernel_rfl, ⟨by show c.2 + 1 ≤ 8; omega, hu⟩, by show 8 - (c.2 + 1) < 8 - c.2; omega⟩
      · rw [bit_neg hb3] at hu
        simp (maxSteps := 1000000) -implicitDefEqProofs only [push_cast, seval]
        rw [w1]
        exact ⟨(_, c.2 + 1), by kernel_rfl, ⟨by show c.2 + 1 ≤ 8; omega, hu⟩, by show 8 - (c.2 + 1) < 8 - c.2; omega⟩
    · have h8 : c.2 = 8 := by omega
      rw [h8] at hu
      have hu' : c.1 = sum1 a.1 (byteAt text a.2).toNat := hu
      simp (maxSteps := 1000000) -implicitDefEqProofs only [push_cast, seval]
      rw [w2]
      exact ⟨(c.1, a.2 + 1), by kernel_rfl, ⟨by show a.2 + 1 ≤ text.size; omega, by rw [← hv, hu']⟩, by show text.size - (a.2 + 1) < text.size - a.2; omega⟩
  · rw [sumFrom_end (by omega)] at hv
    simp (maxSteps := 1000000) -implicitDefEqProofs only [push_cast, seval]
    rw [hv]
    exact ⟨rfl, Keep.refl _ _⟩
theorem SumOf_s (text : ByteArray) (hs : text.size ≤ maxLen) (h : AH) : CD Try.prog 100 [.string text] h (.int .u32 (crc text)) h := by
  refine CD.quiet ?_ (low_int _ _ _)
  refine CC.ofN Try.func100 Try.ntmps100 Try.results100 rfl (by decide) (by kernel_rfl) ?_
  simp (maxSteps := 1000000) -implicitDefEqProofs only [push_cast, seval]
  repeat' (first | with_reducible (first | exact Keep.refl _ _ | assumption | exact byte_lt _ _ | apply Keep.alloc | (refine Keep.set ?_ ?_; rotate_left; · omega) | apply Pre.alloc | apply Pre.set | exact Pre.refl _ | exact le_alloc _ | (refine Pre.keep ?_; assumption) | (refine Pre.n ?_; assumption)) | ((with_reducible (first | refine CD.to (SumMore_s _ _ ?_ _) ?_ | refine CQ.pure (fun _ => SumMore_s _ _ ?_ _) ?_ | refine bcase_d (fun hb => ?_) (fun hb => ?_) | refine bcase_mk (fun hb => ?_) (fun hb => ?_))) <;> try simp (maxSteps := 1000000) -implicitDefEqProofs only [push_cast, seval]) | with_reducible refine And.intro ?_ ?_ | omega | (simp only [alloc_n, set_n, kill_n]; omega) | (exfalso; omega))
  rfl
theorem SumOf_i (text : ByteArray) (hs : text.size ≤ maxLen) (h : AH) : CD Try.prog 102 [.string text] h (.int .u32 (crc text)) h := by
  refine CD.quiet ?_ (low_int _ _ _)
  refine CC.ofN Try.func102 Try.ntmps102 Try.results102 rfl (by decide) (by kernel_rfl) ?_
  simp (maxSteps := 1000000) -implicitDefEqProofs only [push_cast, seval]
  repeat' (first | with_reducible (first | exact Keep.refl _ _ | assumption | exact byte_lt _ _ | apply Keep.alloc | (refine Keep.set ?_ ?_; rotate_left; · omega) | apply Pre.alloc | apply Pre.set | exact Pre.refl _ | exact le_alloc _ | (refine Pre.keep ?_; assumption) | (refine Pre.n ?_; assumption)) | ((with_reducible (first | refine CD.to (SumMore_i _ _ ?_ _) ?_ | refine CQ.pure (fun _ => SumMore_i _ _ ?_ _) ?_ | refine bcase_d (fun hb => ?_) (fun hb => ?_) | refine bcase_mk (fun hb => ?_) (fun hb => ?_))) <;> try simp (maxSteps := 1000000) -implicitDefEqProofs only [push_cast, seval]) | with_reducible refine And.intro ?_ ?_ | omega | (simp only [alloc_n, set_n, kill_n]; omega) | (exfalso; omega))
  rfl
theorem Four_s (x : Int) (hx : U32 x) (h : AH) : CD Try.prog 99 [.int .u32 x] h (.string (four x)) h := by
  refine CD.quiet ?_ (low_string _ _)
  refine CC.ofN Try.func99 Try.ntmps99 Try.results99 rfl (by decide) (by kernel_rfl) ?_
  simp (maxSteps := 1000000) -implicitDefEqProofs only [push_cast, seval]
  repeat (with_reducible refine And.intro ?_ ?_; · (first | omega | decide))
  rw [sh_byte hx 3 (by decide) 24 rfl, sh_byte hx 2 (by decide) 16 rfl, sh_byte hx 1 (by decide) 8 rfl, sh_byte0 hx]
  first | exact ⟨rfl, (Keep.refl _ _).alloc (Nat.le_refl _)⟩ | exact (Keep.refl _ _).alloc (Nat.le_refl _)
theorem highFirst_c (x : Int) (hx : U32 x) (h : AH) : CD Try.prog 101 [.int .i64 x, .int .i64 4] h (.string (four x)) h := by
  refine CD.quiet ?_ (low_string _ _)
  refine CC.ofN Try.func101 Try.ntmps101 Try.results101 rfl (by decide) (by kernel_rfl) ?_
  simp (maxSteps := 1000000) -implicitDefEqProofs only [push_cast, seval]
  repeat (with_reducible refine And.intro ?_ ?_; · (first | omega | decide))
  rw [show IntKind.i64.wrap 3 = 3 from by decide]
  refine WC.loopA (by kernel_rfl) [0, 6] [11, 12, 13, 14, 15, 16, 17, 18, 19, 20, 21, 22] (fun a : Int × Int × Nat => [.int .i64 a.1, .int .i64 a.2.1]) (fun a h' => (a.2.2 ≤ 4 ∧ a.1 = sh8 a.2.2 x ∧ a.2.1 = 3 - (a.2.2 : Int)) ∧ h'.ob h.n = .cells (hfL x a.2.2) .solo h.n ∧ Pre h h' ∧ h.n < h'.n) (fun a => 4 - a.2.2) (x, 3, 0) (by kernel_rfl) ⟨⟨by show 0 ≤ 4; decide, rfl, rfl⟩, alloc_same _, (Pre.refl _).alloc _, lt_alloc _⟩ ?_
  intro a g h1 hJ
  have hj := hJ.1.1
  have hz := hJ.1.2.1
  have hi := hJ.1.2.2
  have hob := hJ.2.1
  have hp := hJ.2.2.1
  have hlt := hJ.2.2.2
  clear hJ
  have hl := hfL_len x a.2.2
  simp (maxSteps := 1000000) -implicitDefEqProofs only [push_cast, seval]
  with_reducible refine bcase_d (fun hb => ?_) (fun hb => ?_)
  · with_reducible refine nameN (3 - a.2.2) (fun k hk => ?_)
    have e1 : a.2.1 = (k : Int) := by omega
    have e2 : (k + 1 ≤ 4) = True := by simp; omega
    have w1 : IntKind.i64.wrap ((k : Int) - 1) = (k : Int) - 1 := by rw [w64 (by omega) (by omega)]
    rw [e1]
    simp (maxSteps := 1000000) -implicitDefEqProofs only [push_cast, seval, hob, hl, hlt, e2, Nat.mul_one]
    repeat' (first | with_reducible (first | exact Keep.refl _ _ | assumption | exact byte_lt _ _ | apply Keep.alloc | (refine Keep.set ?_ ?_; rotate_left; · omega) | apply Pre.alloc | apply Pre.set | exact Pre.refl _ | exact le_alloc _ | (refine Pre.keep ?_; assumption) | (refine Pre.n ?_; assumption)) | ((with_reducible (first | refine bcase_d (fun hb => ?_) (fun hb => ?_) | refine bcase_mk (fun hb => ?_) (fun hb => ?_))) <;> try simp (maxSteps := 1000000) -implicitDefEqProofs only [push_cast, seval]) | with_reducible refine And.intro ?_ ?_ | omega | (simp only [alloc_n, set_n, kill_n]; omega) | (exfalso; omega))
    rw [w1]
    refine ⟨(a.1.fdiv (2 ^ min 8 IntKind.i64.bits), (k : Int) - 1, a.2.2 + 1), by kernel_rfl, ⟨⟨by show a.2.2 + 1 ≤ 4; omega, ?_, by show (k : Int) - 1 = 3 - ((a.2.2 + 1 : Nat) : Int); omega⟩, ?_, ?_⟩, by show 4 - (a.2.2 + 1) < 4 - a.2.2; omega⟩
    · show _ = sh8 (a.2.2 + 1) x
      rw [hz]; rfl
    · rw [← hfL_set x a.2.2 (by omega), hz, hk]; rfl
    · exact hp.set (Nat.le_refl _) _
  · have h4 : a.2.2 = 4 := by omega
    rw [h4] at hob
    have hb4 := hfL_bytes hx
    have hl4 : (hfL x 4).take 4 = hfL x 4 := rfl
    have hl5 := hfL_len x 4
    simp (maxSteps := 1000000) -implicitDefEqProofs only [push_cast, seval, rd_of hob, hl5, hl4, hb4, List.drop_zero, Nat.reduceLeDiff, if_true]
    exact ⟨rfl, hp.keep⟩
theorem Sealed_s (text : ByteArray) (hs : text.size ≤ maxLen) (h : AH) : CD Try.prog 58 [.string text] h (.tuple #[.string (if text.size ≤ 20000 then sealT text else ⟨#[]⟩), .bool (decide ((text.size : Int) ≤ 20000))]) h := by
  refine CD.quiet ?_ (low_tuple (by simp [low_string, low_bool]))
  have hu := crc_u32 text
  have w1 : IntKind.i64.wrap (crc text) = crc text := by have := hu.1; have := hu.2; rw [w64 (by omega) (by omega)]
  have hz := four_size (crc text)
  refine CC.ofN Try.func58 Try.ntmps58 Try.results58 rfl (by decide) (by kernel_rfl) ?_
  simp (maxSteps := 1000000) -implicitDefEqProofs only [push_cast, seval]
  repeat' (first | with_reducible (first | exact Keep.refl _ _ | assumption | exact byte_lt _ _ | apply Keep.alloc | (refine Keep.set ?_ ?_; rotate_left; · omega) | apply Pre.alloc | apply Pre.set | exact Pre.refl _ | exact le_alloc _ | (refine Pre.keep ?_; assumption) | (refine Pre.n ?_; assumption)) | ((with_reducible (first | refine CD.to (SumOf_s _ ?_ _) ?_ | refine CQ.pure (fun _ => SumOf_s _ ?_ _) ?_ | refine CD.to (Four_s _ ?_ _) ?_ | refine CQ.pure (fun _ => Four_s _ ?_ _) ?_ | refine bcase_d (fun hb => ?_) (fun hb => ?_) | refine bcase_mk (fun hb => ?_) (fun hb => ?_))) <;> try simp (maxSteps := 1000000) -implicitDefEqProofs only [push_cast, seval, w1, hz]) | with_reducible refine And.intro ?_ ?_ | omega | (simp only [alloc_n, set_n, kill_n]; omega) | (exfalso; omega))
  · rw [if_neg (by omega), decide_eq_false (by omega)]
  · rw [if_pos (by omega), decide_eq_true (by omega)]; rfl
theorem Sealed_i (text : ByteArray) (hs : text.size ≤ maxLen) (h : AH) : CD Try.prog 60 [.string text] h (.tuple #[.string (if text.size ≤ 20000 then sealT text else ⟨#[]⟩), .bool (decide ((text.size : Int) ≤ 20000))]) h := by
  refine CD.quiet ?_ (low_tuple (by simp [low_string, low_bool]))
  have hu := crc_u32 text
  have w1 : IntKind.i64.wrap (crc text) = crc text := by have := hu.1; have := hu.2; rw [w64 (by omega) (by omega)]
  have hz := four_size (crc text)
  refine CC.ofN Try.func60 Try.ntmps60 Try.results60 rfl (by decide) (by kernel_rfl) ?_
  simp (maxSteps := 1000000) -implicitDefEqProofs only [push_cast, seval]
  repeat' (first | with_reducible (first | exact Keep.refl _ _ | assumption | exact byte_lt _ _ | apply Keep.alloc | (refine Keep.set ?_ ?_; rotate_left; · omega) | apply Pre.alloc | apply Pre.set | exact Pre.refl _ | exact le_alloc _ | (refine Pre.keep ?_; assumption) | (refine Pre.n ?_; assumption)) | ((with_reducible (first | refine CD.to (SumOf_i _ ?_ _) ?_ | refine CQ.pure (fun _ => SumOf_i _ ?_ _) ?_ | refine CD.to (highFirst_c _ ?_ _) ?_ | refine CQ.pure (fun _ => highFirst_c _ ?_ _) ?_ | refine bcase_d (fun hb => ?_) (fun hb => ?_) | refine bcase_mk (fun hb => ?_) (fun hb => ?_))) <;> try simp (maxSteps := 1000000) -implicitDefEqProofs only [push_cast, seval, w1, hz]) | with_reducible refine And.intro ?_ ?_ | omega | (simp only [alloc_n, set_n, kill_n]; omega) | (exfalso; omega))
  · rw [if_neg (by omega), decide_eq_false (by omega)]
  · rw [if_pos (by omega), decide_eq_true (by omega)]; rfl
end Go.Proofs.Ytfbcedjheempfaa
