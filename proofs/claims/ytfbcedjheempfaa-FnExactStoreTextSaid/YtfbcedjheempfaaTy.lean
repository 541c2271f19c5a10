/- What is known of the types of this seat's program. Conditions: none. Written by types.py of this work. -/
import Derived.Test.YtfbcedjheempfaaProg
import Derived.Test.YtfbcedjheempfaaSimM
import Derived.KernelRfl
namespace Go.Proofs.Ytfbcedjheempfaa
open Go Go.Sim Go.Proofs
theorem ti1 : ti Try.prog 1 = some ⟨1, 8, [.nilFunc], false⟩ := by kernel_rfl
theorem und2 : Try.prog.underlying 2 = some (.int .i64) := by kernel_rfl
theorem ti2 : ti Try.prog 2 = some ⟨1, 8, [.int .i64 0], false⟩ := by kernel_rfl
theorem und3 : Try.prog.underlying 3 = some (.int .i64) := by kernel_rfl
theorem ti3 : ti Try.prog 3 = some ⟨1, 8, [.int .i64 0], false⟩ := by kernel_rfl
theorem und4 : Try.prog.underlying 4 = some (.bool) := by kernel_rfl
theorem ti4 : ti Try.prog 4 = some ⟨1, 1, [.bool false], false⟩ := by kernel_rfl
theorem und5 : Try.prog.underlying 5 = some (.int .u8) := by kernel_rfl
theorem ti5 : ti Try.prog 5 = some ⟨1, 1, [.int .u8 0], false⟩ := by kernel_rfl
theorem und6 : Try.prog.underlying 6 = some (.int .u8) := by kernel_rfl
theorem ti6 : ti Try.prog 6 = some ⟨1, 1, [.int .u8 0], false⟩ := by kernel_rfl
theorem ti7 : ti Try.prog 7 = some ⟨4, 24, [.int .i64 0, .int .i64 0, .bool false, .int .u8 0], true⟩ := by kernel_rfl
theorem sti7 : sti Try.prog 7 = some ⟨4, 24, [.int .i64 0, .int .i64 0, .bool false, .int .u8 0], true⟩ := by kernel_rfl
theorem fi7_0 : fi Try.prog 7 0 = some (0, 1, false) := by kernel_rfl
theorem fi7_1 : fi Try.prog 7 1 = some (1, 1, false) := by kernel_rfl
theorem fi7_2 : fi Try.prog 7 2 = some (2, 1, false) := by kernel_rfl
theorem fi7_3 : fi Try.prog 7 3 = some (3, 1, false) := by kernel_rfl
theorem ti8 : ti Try.prog 8 = some ⟨4, 24, [.int .i64 0, .int .i64 0, .bool false, .int .u8 0], true⟩ := by kernel_rfl
theorem sti8 : sti Try.prog 8 = some ⟨4, 24, [.int .i64 0, .int .i64 0, .bool false, .int .u8 0], true⟩ := by kernel_rfl
theorem fi8_0 : fi Try.prog 8 0 = some (0, 1, false) := by kernel_rfl
theorem fi8_1 : fi Try.prog 8 1 = some (1, 1, false) := by kernel_rfl
theorem fi8_2 : fi Try.prog 8 2 = some (2, 1, false) := by kernel_rfl
theorem fi8_3 : fi Try.prog 8 3 = some (3, 1, false) := by kernel_rfl
theorem und9 : Try.prog.underlying 9 = some (.string) := by kernel_rfl
theorem ti9 : ti Try.prog 9 = some ⟨1, 16, [(.string ⟨#[]⟩)], false⟩ := by kernel_rfl
theorem und10 : Try.prog.underlying 10 = some (.string) := by kernel_rfl
theorem ti10 : ti Try.prog 10 = some ⟨1, 16, [(.string ⟨#[]⟩)], false⟩ := by kernel_rfl
theorem und11 : Try.prog.underlying 11 = some (.string) := by kernel_rfl
theorem ti11 : ti Try.prog 11 = some ⟨1, 16, [(.string ⟨#[]⟩)], false⟩ := by kernel_rfl
theorem und12 : Try.prog.underlying 12 = some (.int .u64) := by kernel_rfl
theorem ti12 : ti Try.prog 12 = some ⟨1, 8, [.int .u64 0], false⟩ := by kernel_rfl
theorem ti13 : ti Try.prog 13 = some ⟨2, 24, [(.string ⟨#[]⟩), .int .u64 0], true⟩ := by kernel_rfl
theorem sti13 : sti Try.prog 13 = some ⟨2, 24, [(.string ⟨#[]⟩), .int .u64 0], true⟩ := by kernel_rfl
theorem fi13_0 : fi Try.prog 13 0 = some (0, 1, false) := by kernel_rfl
theorem fi13_1 : fi Try.prog 13 1 = some (1, 1, false) := by kernel_rfl
theorem ti14 : ti Try.prog 14 = some ⟨2, 24, [(.string ⟨#[]⟩), .int .u64 0], true⟩ := by kernel_rfl
theorem sti14 : sti Try.prog 14 = some ⟨2, 24, [(.string ⟨#[]⟩), .int .u64 0], true⟩ := by kernel_rfl
theorem fi14_0 : fi Try.prog 14 0 = some (0, 1, false) := by kernel_rfl
theorem fi14_1 : fi Try.prog 14 1 = some (1, 1, false) := by kernel_rfl
theorem und15 : Try.prog.underlying 15 = some (.pointer 145) := by kernel_rfl
theorem ti15 : ti Try.prog 15 = some ⟨1, 8, [.pointer none], false⟩ := by kernel_rfl
theorem und16 : Try.prog.underlying 16 = some (.pointer 148) := by kernel_rfl
theorem ti16 : ti Try.prog 16 = some ⟨1, 8, [.pointer none], false⟩ := by kernel_rfl
theorem und17 : Try.prog.underlying 17 = some (.pointer 156) := by kernel_rfl
theorem ti17 : ti Try.prog 17 = some ⟨1, 8, [.pointer none], false⟩ := by kernel_rfl
theorem ti18 : ti Try.prog 18 = some ⟨1, 8, [.pointer none], true⟩ := by kernel_rfl
theorem sti18 : sti Try.prog 18 = some ⟨1, 8, [.pointer none], true⟩ := by kernel_rfl
theorem fi18_0 : fi Try.prog 18 0 = some (0, 1, false) := by kernel_rfl
theorem ti19 : ti Try.prog 19 = some ⟨1, 8, [.pointer none], true⟩ := by kernel_rfl
theorem sti19 : sti Try.prog 19 = some ⟨1, 8, [.pointer none], true⟩ := by kernel_rfl
theorem fi19_0 : fi Try.prog 19 0 = some (0, 1, false) := by kernel_rfl
theorem und21 : Try.prog.underlying 21 = some (.int .i32) := by kernel_rfl
theorem ti21 : ti Try.prog 21 = some ⟨1, 4, [.int .i32 0], false⟩ := by kernel_rfl
theorem ti22 : ti Try.prog 22 = some ⟨5, 48, [.int .i64 0, .int .i64 0, .int .i64 0, .int .i64 0, (.string ⟨#[]⟩)], true⟩ := by kernel_rfl
theorem sti22 : sti Try.prog 22 = some ⟨5, 48, [.int .i64 0, .int .i64 0, .int .i64 0, .int .i64 0, (.string ⟨#[]⟩)], true⟩ := by kernel_rfl
theorem fi22_0 : fi Try.prog 22 0 = some (0, 1, false) := by kernel_rfl
theorem fi22_1 : fi Try.prog 22 1 = some (1, 1, false) := by kernel_rfl
theorem fi22_2 : fi Try.prog 22 2 = some (2, 1, false) := by kernel_rfl
theorem fi22_3 : fi Try.prog 22 3 = some (3, 1, false) := by kernel_rfl
theorem fi22_4 : fi Try.prog 22 4 = some (4, 1, false) := by kernel_rfl
theorem ti23 : ti Try.prog 23 = some ⟨5, 48, [.int .i64 0, .int .i64 0, .int .i64 0, .int .i64 0, (.string ⟨#[]⟩)], true⟩ := by kernel_rfl
theorem sti23 : sti Try.prog 23 = some ⟨5, 48, [.int .i64 0, .int .i64 0, .int .i64 0, .int .i64 0, (.string ⟨#[]⟩)], true⟩ := by kernel_rfl
theorem fi23_0 : fi Try.prog 23 0 = some (0, 1, false) := by kernel_rfl
theorem fi23_1 : fi Try.prog 23 1 = some (1, 1, false) := by kernel_rfl
theorem fi23_2 : fi Try.prog 23 2 = some (2, 1, false) := by kernel_rfl
theorem fi23_3 : fi Try.prog 23 3 = some (3, 1, false) := by kernel_rfl
theorem fi23_4 : fi Try.prog 23 4 = some (4, 1, false) := by kernel_rfl
theorem ti24 : ti Try.prog 24 = some ⟨1, 8, [.nilFunc], false⟩ := by kernel_rfl
theorem ti25 : ti Try.prog 25 = some ⟨1, 8, [.nilFunc], false⟩ := by kernel_rfl
theorem ti26 : ti Try.prog 26 = some ⟨5, 48, [.int .i64 0, .int .i64 0, .int .i64 0, .int .i64 0, (.string ⟨#[]⟩)], true⟩ := by kernel_rfl
theorem sti26 : sti Try.prog 26 = some ⟨5, 48, [.int .i64 0, .int .i64 0, .int .i64 0, .int .i64 0, (.string ⟨#[]⟩)], true⟩ := by kernel_rfl
theorem fi26_0 : fi Try.prog 26 0 = some (0, 1, false) := by kernel_rfl
theorem fi26_1 : fi Try.prog 26 1 = some (1, 1, false) := by kernel_rfl
theorem fi26_2 : fi Try.prog 26 2 = some (2, 1, false) := by kernel_rfl
theorem fi26_3 : fi Try.prog 26 3 = some (3, 1, false) := by kernel_rfl
theorem fi26_4 : fi Try.prog 26 4 = some (4, 1, false) := by kernel_rfl
theorem ti27 : ti Try.prog 27 = some ⟨1, 8, [.nilFunc], false⟩ := by kernel_rfl
theorem ti28 : ti Try.prog 28 = some ⟨1, 8, [.nilFunc], false⟩ := by kernel_rfl
theorem und29 : Try.prog.underlying 29 = some (.slice 5) := by kernel_rfl
theorem si29 : si Try.prog 29 = some (5, ⟨1, 1, [.int .u8 0], false⟩) := by kernel_rfl
theorem ti29 : ti Try.prog 29 = some ⟨1, 24, [.slice none 0 0], false⟩ := by kernel_rfl
theorem ti30 : ti Try.prog 30 = some ⟨1, 8, [.nilFunc], false⟩ := by kernel_rfl
theorem und31 : Try.prog.underlying 31 = some (.slice 9) := by kernel_rfl
theorem si31 : si Try.prog 31 = some (9, ⟨1, 16, [(.string ⟨#[]⟩)], false⟩) := by kernel_rfl
theorem ti31 : ti Try.prog 31 = some ⟨1, 24, [.slice none 0 0], false⟩ := by kernel_rfl
theorem ti33 : ti Try.prog 33 = some ⟨1, 8, [.nilFunc], false⟩ := by kernel_rfl
theorem und34 : Try.prog.underlying 34 = some (.slice 31) := by kernel_rfl
theorem si34 : si Try.prog 34 = some (31, ⟨1, 24, [.slice none 0 0], false⟩) := by kernel_rfl
theorem ti34 : ti Try.prog 34 = some ⟨1, 24, [.slice none 0 0], false⟩ := by kernel_rfl
theorem ti35 : ti Try.prog 35 = some ⟨1, 8, [.nilFunc], false⟩ := by kernel_rfl
theorem ti36 : ti Try.prog 36 = some ⟨1, 8, [.nilFunc], false⟩ := by kernel_rfl
theorem ti38 : ti Try.prog 38 = some ⟨1, 8, [.nilFunc], false⟩ := by kernel_rfl
theorem ti39 : ti Try.prog 39 = some ⟨1, 8, [.nilFunc], false⟩ := by kernel_rfl
theorem ti40 : ti Try.prog 40 = some ⟨1, 8, [.nilFunc], false⟩ := by kernel_rfl
theorem ti41 : ti Try.prog 41 = some ⟨1, 8, [.nilFunc], false⟩ := by kernel_rfl
theorem ti42 : ti Try.prog 42 = some ⟨1, 8, [.nilFunc], false⟩ := by kernel_rfl
theorem ti43 : ti Try.prog 43 = some ⟨1, 8, [.nilFunc], false⟩ := by kernel_rfl
theorem ti45 : ti Try.prog 45 = some ⟨1, 8, [.nilFunc], false⟩ := by kernel_rfl
theorem ti46 : ti Try.prog 46 = some ⟨1, 8, [.nilFunc], false⟩ := by kernel_rfl
theorem ti47 : ti Try.prog 47 = some ⟨1, 8, [.nilFunc], false⟩ := by kernel_rfl
theorem und48 : Try.prog.underlying 48 = some (.slice 95) := by kernel_rfl
theorem si48 : si Try.prog 48 = some (95, ⟨2, 32, [(.string ⟨#[]⟩), (.string ⟨#[]⟩)], true⟩) := by kernel_rfl
theorem ti48 : ti Try.prog 48 = some ⟨1, 24, [.slice none 0 0], false⟩ := by kernel_rfl
theorem und49 : Try.prog.underlying 49 = some (.slice 98) := by kernel_rfl
theorem si49 : si Try.prog 49 = some (98, ⟨3, 48, [(.string ⟨#[]⟩), (.string ⟨#[]⟩), (.string ⟨#[]⟩)], true⟩) := by kernel_rfl
theorem ti49 : ti Try.prog 49 = some ⟨1, 24, [.slice none 0 0], false⟩ := by kernel_rfl
theorem ti50 : ti Try.prog 50 = some ⟨3, 64, [.slice none 0 0, .slice none 0 0, (.string ⟨#[]⟩)], true⟩ := by kernel_rfl
theorem sti50 : sti Try.prog 50 = some ⟨3, 64, [.slice none 0 0, .slice none 0 0, (.string ⟨#[]⟩)], true⟩ := by kernel_rfl
theorem fi50_0 : fi Try.prog 50 0 = some (0, 1, false) := by kernel_rfl
theorem fi50_1 : fi Try.prog 50 1 = some (1, 1, false) := by kernel_rfl
theorem fi50_2 : fi Try.prog 50 2 = some (2, 1, false) := by kernel_rfl
theorem ti51 : ti Try.prog 51 = some ⟨3, 64, [.slice none 0 0, .slice none 0 0, (.string ⟨#[]⟩)], true⟩ := by kernel_rfl
theorem sti51 : sti Try.prog 51 = some ⟨3, 64, [.slice none 0 0, .slice none 0 0, (.string ⟨#[]⟩)], true⟩ := by kernel_rfl
theorem fi51_0 : fi Try.prog 51 0 = some (0, 1, false) := by kernel_rfl
theorem fi51_1 : fi Try.prog 51 1 = some (1, 1, false) := by kernel_rfl
theorem fi51_2 : fi Try.prog 51 2 = some (2, 1, false) := by kernel_rfl
theorem ti53 : ti Try.prog 53 = some ⟨1, 8, [.nilFunc], false⟩ := by kernel_rfl
theorem ti54 : ti Try.prog 54 = some ⟨1, 8, [.nilFunc], false⟩ := by kernel_rfl
theorem ti55 : ti Try.prog 55 = some ⟨1, 8, [.nilFunc], false⟩ := by kernel_rfl
theorem ti56 : ti Try.prog 56 = some ⟨1, 8, [.nilFunc], false⟩ := by kernel_rfl
theorem ti57 : ti Try.prog 57 = some ⟨1, 8, [.nilFunc], false⟩ := by kernel_rfl
theorem und58 : Try.prog.underlying 58 = some (.slice 131) := by kernel_rfl
theorem si58 : si Try.prog 58 = some (131, ⟨2, 32, [(.string ⟨#[]⟩), (.string ⟨#[]⟩)], true⟩) := by kernel_rfl
theorem ti58 : ti Try.prog 58 = some ⟨1, 24, [.slice none 0 0], false⟩ := by kernel_rfl
theorem und59 : Try.prog.underlying 59 = some (.slice 133) := by kernel_rfl
theorem si59 : si Try.prog 59 = some (133, ⟨3, 48, [(.string ⟨#[]⟩), (.string ⟨#[]⟩), (.string ⟨#[]⟩)], true⟩) := by kernel_rfl
theorem ti59 : ti Try.prog 59 = some ⟨1, 24, [.slice none 0 0], false⟩ := by kernel_rfl
theorem ti60 : ti Try.prog 60 = some ⟨3, 64, [.slice none 0 0, .slice none 0 0, (.string ⟨#[]⟩)], true⟩ := by kernel_rfl
theorem sti60 : sti Try.prog 60 = some ⟨3, 64, [.slice none 0 0, .slice none 0 0, (.string ⟨#[]⟩)], true⟩ := by kernel_rfl
theorem fi60_0 : fi Try.prog 60 0 = some (0, 1, false) := by kernel_rfl
theorem fi60_1 : fi Try.prog 60 1 = some (1, 1, false) := by kernel_rfl
theorem fi60_2 : fi Try.prog 60 2 = some (2, 1, false) := by kernel_rfl
theorem ti61 : ti Try.prog 61 = some ⟨3, 64, [.slice none 0 0, .slice none 0 0, (.string ⟨#[]⟩)], true⟩ := by kernel_rfl
theorem sti61 : sti Try.prog 61 = some ⟨3, 64, [.slice none 0 0, .slice none 0 0, (.string ⟨#[]⟩)], true⟩ := by kernel_rfl
theorem fi61_0 : fi Try.prog 61 0 = some (0, 1, false) := by kernel_rfl
theorem fi61_1 : fi Try.prog 61 1 = some (1, 1, false) := by kernel_rfl
theorem fi61_2 : fi Try.prog 61 2 = some (2, 1, false) := by kernel_rfl
theorem ti62 : ti Try.prog 62 = some ⟨1, 8, [.nilFunc], false⟩ := by kernel_rfl
theorem ti63 : ti Try.prog 63 = some ⟨1, 8, [.nilFunc], false⟩ := by kernel_rfl
theorem ti64 : ti Try.prog 64 = some ⟨1, 8, [.nilFunc], false⟩ := by kernel_rfl
theorem ti66 : ti Try.prog 66 = some ⟨1, 8, [.nilFunc], false⟩ := by kernel_rfl
theorem ti67 : ti Try.prog 67 = some ⟨1, 8, [.nilFunc], false⟩ := by kernel_rfl
theorem ti68 : ti Try.prog 68 = some ⟨1, 8, [.nilFunc], false⟩ := by kernel_rfl
theorem ti69 : ti Try.prog 69 = some ⟨1, 8, [.nilFunc], false⟩ := by kernel_rfl
theorem ti70 : ti Try.prog 70 = some ⟨1, 8, [.nilFunc], false⟩ := by kernel_rfl
theorem und71 : Try.prog.underlying 71 = some (.pointer 115) := by kernel_rfl
theorem ti71 : ti Try.prog 71 = some ⟨1, 8, [.pointer none], false⟩ := by kernel_rfl
theorem ti72 : ti Try.prog 72 = some ⟨1, 8, [.nilFunc], false⟩ := by kernel_rfl
theorem ti73 : ti Try.prog 73 = some ⟨1, 8, [.nilFunc], false⟩ := by kernel_rfl
theorem und74 : Try.prog.underlying 74 = some (.slice 3) := by kernel_rfl
theorem si74 : si Try.prog 74 = some (3, ⟨1, 8, [.int .i64 0], false⟩) := by kernel_rfl
theorem ti74 : ti Try.prog 74 = some ⟨1, 24, [.slice none 0 0], false⟩ := by kernel_rfl
theorem ti75 : ti Try.prog 75 = some ⟨1, 8, [.nilFunc], false⟩ := by kernel_rfl
theorem ti76 : ti Try.prog 76 = some ⟨1, 8, [.nilFunc], false⟩ := by kernel_rfl
theorem ti77 : ti Try.prog 77 = some ⟨1, 8, [.nilFunc], false⟩ := by kernel_rfl
theorem ti78 : ti Try.prog 78 = some ⟨1, 8, [.nilFunc], false⟩ := by kernel_rfl
theorem ti79 : ti Try.prog 79 = some ⟨1, 8, [.nilFunc], false⟩ := by kernel_rfl
theorem ti80 : ti Try.prog 80 = some ⟨1, 8, [.nilFunc], false⟩ := by kernel_rfl
theorem und81 : Try.prog.underlying 81 = some (.pointer 83) := by kernel_rfl
theorem ti81 : ti Try.prog 81 = some ⟨1, 8, [.pointer none], false⟩ := by kernel_rfl
theorem ti82 : ti Try.prog 82 = some ⟨3, 32, [(.string ⟨#[]⟩), .int .i64 0, .bool false], true⟩ := by kernel_rfl
theorem sti82 : sti Try.prog 82 = some ⟨3, 32, [(.string ⟨#[]⟩), .int .i64 0, .bool false], true⟩ := by kernel_rfl
theorem fi82_0 : fi Try.prog 82 0 = some (0, 1, false) := by kernel_rfl
theorem fi82_1 : fi Try.prog 82 1 = some (1, 1, false) := by kernel_rfl
theorem fi82_2 : fi Try.prog 82 2 = some (2, 1, false) := by kernel_rfl
theorem ti83 : ti Try.prog 83 = some ⟨3, 32, [(.string ⟨#[]⟩), .int .i64 0, .bool false], true⟩ := by kernel_rfl
theorem sti83 : sti Try.prog 83 = some ⟨3, 32, [(.string ⟨#[]⟩), .int .i64 0, .bool false], true⟩ := by kernel_rfl
theorem fi83_0 : fi Try.prog 83 0 = some (0, 1, false) := by kernel_rfl
theorem fi83_1 : fi Try.prog 83 1 = some (1, 1, false) := by kernel_rfl
theorem fi83_2 : fi Try.prog 83 2 = some (2, 1, false) := by kernel_rfl
theorem ti84 : ti Try.prog 84 = some ⟨1, 8, [.nilFunc], false⟩ := by kernel_rfl
theorem und85 : Try.prog.underlying 85 = some (.pointer 87) := by kernel_rfl
theorem ti85 : ti Try.prog 85 = some ⟨1, 8, [.pointer none], false⟩ := by kernel_rfl
theorem ti86 : ti Try.prog 86 = some ⟨3, 32, [(.string ⟨#[]⟩), .int .i64 0, .bool false], true⟩ := by kernel_rfl
theorem sti86 : sti Try.prog 86 = some ⟨3, 32, [(.string ⟨#[]⟩), .int .i64 0, .bool false], true⟩ := by kernel_rfl
theorem fi86_0 : fi Try.prog 86 0 = some (0, 1, false) := by kernel_rfl
theorem fi86_1 : fi Try.prog 86 1 = some (1, 1, false) := by kernel_rfl
theorem fi86_2 : fi Try.prog 86 2 = some (2, 1, false) := by kernel_rfl
theorem ti87 : ti Try.prog 87 = some ⟨3, 32, [(.string ⟨#[]⟩), .int .i64 0, .bool false], true⟩ := by kernel_rfl
theorem sti87 : sti Try.prog 87 = some ⟨3, 32, [(.string ⟨#[]⟩), .int .i64 0, .bool false], true⟩ := by kernel_rfl
theorem fi87_0 : fi Try.prog 87 0 = some (0, 1, false) := by kernel_rfl
theorem fi87_1 : fi Try.prog 87 1 = some (1, 1, false) := by kernel_rfl
theorem fi87_2 : fi Try.prog 87 2 = some (2, 1, false) := by kernel_rfl
theorem ti88 : ti Try.prog 88 = some ⟨1, 8, [.nilFunc], false⟩ := by kernel_rfl
theorem ti89 : ti Try.prog 89 = some ⟨1, 8, [.nilFunc], false⟩ := by kernel_rfl
theorem ti90 : ti Try.prog 90 = some ⟨1, 8, [.nilFunc], false⟩ := by kernel_rfl
theorem ti91 : ti Try.prog 91 = some ⟨1, 8, [.nilFunc], false⟩ := by kernel_rfl
theorem ti92 : ti Try.prog 92 = some ⟨1, 8, [.nilFunc], false⟩ := by kernel_rfl
theorem ti93 : ti Try.prog 93 = some ⟨1, 8, [.nilFunc], false⟩ := by kernel_rfl
theorem ti94 : ti Try.prog 94 = some ⟨2, 32, [(.string ⟨#[]⟩), (.string ⟨#[]⟩)], true⟩ := by kernel_rfl
theorem sti94 : sti Try.prog 94 = some ⟨2, 32, [(.string ⟨#[]⟩), (.string ⟨#[]⟩)], true⟩ := by kernel_rfl
theorem fi94_0 : fi Try.prog 94 0 = some (0, 1, false) := by kernel_rfl
theorem fi94_1 : fi Try.prog 94 1 = some (1, 1, false) := by kernel_rfl
theorem ti95 : ti Try.prog 95 = some ⟨2, 32, [(.string ⟨#[]⟩), (.string ⟨#[]⟩)], true⟩ := by kernel_rfl
theorem sti95 : sti Try.prog 95 = some ⟨2, 32, [(.string ⟨#[]⟩), (.string ⟨#[]⟩)], true⟩ := by kernel_rfl
theorem fi95_0 : fi Try.prog 95 0 = some (0, 1, false) := by kernel_rfl
theorem fi95_1 : fi Try.prog 95 1 = some (1, 1, false) := by kernel_rfl
theorem ti96 : ti Try.prog 96 = some ⟨1, 8, [.nilFunc], false⟩ := by kernel_rfl
theorem ti97 : ti Try.prog 97 = some ⟨3, 48, [(.string ⟨#[]⟩), (.string ⟨#[]⟩), (.string ⟨#[]⟩)], true⟩ := by kernel_rfl
theorem sti97 : sti Try.prog 97 = some ⟨3, 48, [(.string ⟨#[]⟩), (.string ⟨#[]⟩), (.string ⟨#[]⟩)], true⟩ := by kernel_rfl
theorem fi97_0 : fi Try.prog 97 0 = some (0, 1, false) := by kernel_rfl
theorem fi97_1 : fi Try.prog 97 1 = some (1, 1, false) := by kernel_rfl
theorem fi97_2 : fi Try.prog 97 2 = some (2, 1, false) := by kernel_rfl
theorem ti98 : ti Try.prog 98 = some ⟨3, 48, [(.string ⟨#[]⟩), (.string ⟨#[]⟩), (.string ⟨#[]⟩)], true⟩ := by kernel_rfl
theorem sti98 : sti Try.prog 98 = some ⟨3, 48, [(.string ⟨#[]⟩), (.string ⟨#[]⟩), (.string ⟨#[]⟩)], true⟩ := by kernel_rfl
theorem fi98_0 : fi Try.prog 98 0 = some (0, 1, false) := by kernel_rfl
theorem fi98_1 : fi Try.prog 98 1 = some (1, 1, false) := by kernel_rfl
theorem fi98_2 : fi Try.prog 98 2 = some (2, 1, false) := by kernel_rfl
theorem ti99 : ti Try.prog 99 = some ⟨1, 8, [.nilFunc], false⟩ := by kernel_rfl
theorem ti100 : ti Try.prog 100 = some ⟨1, 8, [.nilFunc], false⟩ := by kernel_rfl
theorem ti101 : ti Try.prog 101 = some ⟨1, 8, [.nilFunc], false⟩ := by kernel_rfl
theorem ti102 : ti Try.prog 102 = some ⟨1, 8, [.nilFunc], false⟩ := by kernel_rfl
theorem ti103 : ti Try.prog 103 = some ⟨1, 8, [.nilFunc], false⟩ := by kernel_rfl
theorem ti104 : ti Try.prog 104 = some ⟨1, 8, [.nilFunc], false⟩ := by kernel_rfl
theorem ti105 : ti Try.prog 105 = some ⟨1, 8, [.nilFunc], false⟩ := by kernel_rfl
theorem ti106 : ti Try.prog 106 = some ⟨1, 8, [.nilFunc], false⟩ := by kernel_rfl
theorem ti107 : ti Try.prog 107 = some ⟨1, 8, [.nilFunc], false⟩ := by kernel_rfl
theorem ti108 : ti Try.prog 108 = some ⟨1, 8, [.nilFunc], false⟩ := by kernel_rfl
theorem ti109 : ti Try.prog 109 = some ⟨1, 8, [.nilFunc], false⟩ := by kernel_rfl
theorem ti110 : ti Try.prog 110 = some ⟨1, 8, [.nilFunc], false⟩ := by kernel_rfl
theorem ti111 : ti Try.prog 111 = some ⟨1, 8, [.nilFunc], false⟩ := by kernel_rfl
theorem ti112 : ti Try.prog 112 = some ⟨1, 8, [.nilFunc], false⟩ := by kernel_rfl
theorem ti113 : ti Try.prog 113 = some ⟨1, 8, [.nilFunc], false⟩ := by kernel_rfl
theorem ti114 : ti Try.prog 114 = some ⟨3, 40, [.slice none 0 0, .int .i64 0, .int .i64 0], true⟩ := by kernel_rfl
theorem sti114 : sti Try.prog 114 = some ⟨3, 40, [.slice none 0 0, .int .i64 0, .int .i64 0], true⟩ := by kernel_rfl
theorem fi114_0 : fi Try.prog 114 0 = some (0, 1, false) := by kernel_rfl
theorem fi114_1 : fi Try.prog 114 1 = some (1, 1, false) := by kernel_rfl
theorem fi114_2 : fi Try.prog 114 2 = some (2, 1, false) := by kernel_rfl
theorem ti115 : ti Try.prog 115 = some ⟨3, 40, [.slice none 0 0, .int .i64 0, .int .i64 0], true⟩ := by kernel_rfl
theorem sti115 : sti Try.prog 115 = some ⟨3, 40, [.slice none 0 0, .int .i64 0, .int .i64 0], true⟩ := by kernel_rfl
theorem fi115_0 : fi Try.prog 115 0 = some (0, 1, false) := by kernel_rfl
theorem fi115_1 : fi Try.prog 115 1 = some (1, 1, false) := by kernel_rfl
theorem fi115_2 : fi Try.prog 115 2 = some (2, 1, false) := by kernel_rfl
theorem ti116 : ti Try.prog 116 = some ⟨1, 8, [.nilFunc], false⟩ := by kernel_rfl
theorem ti117 : ti Try.prog 117 = some ⟨1, 8, [.nilFunc], false⟩ := by kernel_rfl
theorem ti118 : ti Try.prog 118 = some ⟨1, 8, [.nilFunc], false⟩ := by kernel_rfl
theorem und119 : Try.prog.underlying 119 = some (.int .u32) := by kernel_rfl
theorem ti119 : ti Try.prog 119 = some ⟨1, 4, [.int .u32 0], false⟩ := by kernel_rfl
theorem ti120 : ti Try.prog 120 = some ⟨1, 8, [.nilFunc], false⟩ := by kernel_rfl
theorem ti121 : ti Try.prog 121 = some ⟨1, 8, [.nilFunc], false⟩ := by kernel_rfl
theorem ti122 : ti Try.prog 122 = some ⟨1, 8, [.nilFunc], false⟩ := by kernel_rfl
theorem ti124 : ti Try.prog 124 = some ⟨1, 8, [.nilFunc], false⟩ := by kernel_rfl
theorem ti125 : ti Try.prog 125 = some ⟨1, 8, [.nilFunc], false⟩ := by kernel_rfl
theorem ti126 : ti Try.prog 126 = some ⟨1, 8, [.nilFunc], false⟩ := by kernel_rfl
theorem ti127 : ti Try.prog 127 = some ⟨1, 8, [.nilFunc], false⟩ := by kernel_rfl
theorem ti128 : ti Try.prog 128 = some ⟨1, 8, [.nilFunc], false⟩ := by kernel_rfl
theorem ti129 : ti Try.prog 129 = some ⟨1, 8, [.nilFunc], false⟩ := by kernel_rfl
theorem ti130 : ti Try.prog 130 = some ⟨1, 8, [.nilFunc], false⟩ := by kernel_rfl
theorem ti131 : ti Try.prog 131 = some ⟨2, 32, [(.string ⟨#[]⟩), (.string ⟨#[]⟩)], true⟩ := by kernel_rfl
theorem sti131 : sti Try.prog 131 = some ⟨2, 32, [(.string ⟨#[]⟩), (.string ⟨#[]⟩)], true⟩ := by kernel_rfl
theorem fi131_0 : fi Try.prog 131 0 = some (0, 1, false) := by kernel_rfl
theorem fi131_1 : fi Try.prog 131 1 = some (1, 1, false) := by kernel_rfl
theorem ti132 : ti Try.prog 132 = some ⟨1, 8, [.nilFunc], false⟩ := by kernel_rfl
theorem ti133 : ti Try.prog 133 = some ⟨3, 48, [(.string ⟨#[]⟩), (.string ⟨#[]⟩), (.string ⟨#[]⟩)], true⟩ := by kernel_rfl
theorem sti133 : sti Try.prog 133 = some ⟨3, 48, [(.string ⟨#[]⟩), (.string ⟨#[]⟩), (.string ⟨#[]⟩)], true⟩ := by kernel_rfl
theorem fi133_0 : fi Try.prog 133 0 = some (0, 1, false) := by kernel_rfl
theorem fi133_1 : fi Try.prog 133 1 = some (1, 1, false) := by kernel_rfl
theorem fi133_2 : fi Try.prog 133 2 = some (2, 1, false) := by kernel_rfl
theorem ti134 : ti Try.prog 134 = some ⟨1, 8, [.nilFunc], false⟩ := by kernel_rfl
theorem ti135 : ti Try.prog 135 = some ⟨1, 8, [.nilFunc], false⟩ := by kernel_rfl
theorem ti136 : ti Try.prog 136 = some ⟨1, 8, [.nilFunc], false⟩ := by kernel_rfl
theorem ti138 : ti Try.prog 138 = some ⟨1, 8, [.nilFunc], false⟩ := by kernel_rfl
theorem ti139 : ti Try.prog 139 = some ⟨1, 8, [.nilFunc], false⟩ := by kernel_rfl
theorem und140 : Try.prog.underlying 140 = some (.int .u64) := by kernel_rfl
theorem ti140 : ti Try.prog 140 = some ⟨1, 8, [.int .u64 0], false⟩ := by kernel_rfl
theorem ti141 : ti Try.prog 141 = some ⟨1, 8, [.nilFunc], false⟩ := by kernel_rfl
theorem ti142 : ti Try.prog 142 = some ⟨1, 8, [.nilFunc], false⟩ := by kernel_rfl
theorem ti143 : ti Try.prog 143 = some ⟨1, 8, [.nilFunc], false⟩ := by kernel_rfl
theorem ti144 : ti Try.prog 144 = some ⟨4, 40, [.pointer none, .pointer none, .pointer none, (.string ⟨#[]⟩)], true⟩ := by kernel_rfl
theorem sti144 : sti Try.prog 144 = some ⟨4, 40, [.pointer none, .pointer none, .pointer none, (.string ⟨#[]⟩)], true⟩ := by kernel_rfl
theorem fi144_0 : fi Try.prog 144 0 = some (0, 1, false) := by kernel_rfl
theorem fi144_1 : fi Try.prog 144 1 = some (1, 1, false) := by kernel_rfl
theorem fi144_2 : fi Try.prog 144 2 = some (2, 1, false) := by kernel_rfl
theorem fi144_3 : fi Try.prog 144 3 = some (3, 1, false) := by kernel_rfl
theorem ti145 : ti Try.prog 145 = some ⟨4, 40, [.pointer none, .pointer none, .pointer none, (.string ⟨#[]⟩)], true⟩ := by kernel_rfl
theorem sti145 : sti Try.prog 145 = some ⟨4, 40, [.pointer none, .pointer none, .pointer none, (.string ⟨#[]⟩)], true⟩ := by kernel_rfl
theorem fi145_0 : fi Try.prog 145 0 = some (0, 1, false) := by kernel_rfl
theorem fi145_1 : fi Try.prog 145 1 = some (1, 1, false) := by kernel_rfl
theorem fi145_2 : fi Try.prog 145 2 = some (2, 1, false) := by kernel_rfl
theorem fi145_3 : fi Try.prog 145 3 = some (3, 1, false) := by kernel_rfl
theorem ti147 : ti Try.prog 147 = some ⟨0, 0, [], true⟩ := by kernel_rfl
theorem sti147 : sti Try.prog 147 = some ⟨0, 0, [], true⟩ := by kernel_rfl
theorem fi147_0 : fi Try.prog 147 0 = some (0, 0, true) := by kernel_rfl
theorem ti148 : ti Try.prog 148 = some ⟨0, 0, [], true⟩ := by kernel_rfl
theorem sti148 : sti Try.prog 148 = some ⟨0, 0, [], true⟩ := by kernel_rfl
theorem fi148_0 : fi Try.prog 148 0 = some (0, 0, true) := by kernel_rfl
theorem und149 : Try.prog.underlying 149 = some (.int .u8) := by kernel_rfl
theorem ti149 : ti Try.prog 149 = some ⟨1, 1, [.int .u8 0], false⟩ := by kernel_rfl
theorem und150 : Try.prog.underlying 150 = some (.int .u8) := by kernel_rfl
theorem ti150 : ti Try.prog 150 = some ⟨1, 1, [.int .u8 0], false⟩ := by kernel_rfl
theorem ti151 : ti Try.prog 151 = some ⟨1, 8, [.nilFunc], false⟩ := by kernel_rfl
theorem und152 : Try.prog.underlying 152 = some (.pointer 5) := by kernel_rfl
theorem ti152 : ti Try.prog 152 = some ⟨1, 8, [.pointer none], false⟩ := by kernel_rfl
theorem und153 : Try.prog.underlying 153 = some (.int .i32) := by kernel_rfl
theorem ti153 : ti Try.prog 153 = some ⟨1, 4, [.int .i32 0], false⟩ := by kernel_rfl
theorem und154 : Try.prog.underlying 154 = some (.int .i32) := by kernel_rfl
theorem ti154 : ti Try.prog 154 = some ⟨1, 4, [.int .i32 0], false⟩ := by kernel_rfl
theorem ti155 : ti Try.prog 155 = some ⟨11, 48, [.int .u64 0, .int .u64 0, .int .u32 0, .int .u8 0, .int .u8 0, .int .u8 0, .int .u8 0, .nilFunc, .pointer none, .int .i32 0, .int .i32 0], true⟩ := by kernel_rfl
theorem sti155 : sti Try.prog 155 = some ⟨11, 48, [.int .u64 0, .int .u64 0, .int .u32 0, .int .u8 0, .int .u8 0, .int .u8 0, .int .u8 0, .nilFunc, .pointer none, .int .i32 0, .int .i32 0], true⟩ := by kernel_rfl
theorem fi155_0 : fi Try.prog 155 0 = some (0, 1, false) := by kernel_rfl
theorem fi155_1 : fi Try.prog 155 1 = some (1, 1, false) := by kernel_rfl
theorem fi155_2 : fi Try.prog 155 2 = some (2, 1, false) := by kernel_rfl
theorem fi155_3 : fi Try.prog 155 3 = some (3, 1, false) := by kernel_rfl
theorem fi155_4 : fi Try.prog 155 4 = some (4, 1, false) := by kernel_rfl
theorem fi155_5 : fi Try.prog 155 5 = some (5, 1, false) := by kernel_rfl
theorem fi155_6 : fi Try.prog 155 6 = some (6, 1, false) := by kernel_rfl
theorem fi155_7 : fi Try.prog 155 7 = some (7, 1, false) := by kernel_rfl
theorem fi155_8 : fi Try.prog 155 8 = some (8, 1, false) := by kernel_rfl
theorem fi155_9 : fi Try.prog 155 9 = some (9, 1, false) := by kernel_rfl
theorem fi155_10 : fi Try.prog 155 10 = some (10, 1, false) := by kernel_rfl
theorem ti156 : ti Try.prog 156 = some ⟨11, 48, [.int .u64 0, .int .u64 0, .int .u32 0, .int .u8 0, .int .u8 0, .int .u8 0, .int .u8 0, .nilFunc, .pointer none, .int .i32 0, .int .i32 0], true⟩ := by kernel_rfl
theorem sti156 : sti Try.prog 156 = some ⟨11, 48, [.int .u64 0, .int .u64 0, .int .u32 0, .int .u8 0, .int .u8 0, .int .u8 0, .int .u8 0, .nilFunc, .pointer none, .int .i32 0, .int .i32 0], true⟩ := by kernel_rfl
theorem fi156_0 : fi Try.prog 156 0 = some (0, 1, false) := by kernel_rfl
theorem fi156_1 : fi Try.prog 156 1 = some (1, 1, false) := by kernel_rfl
theorem fi156_2 : fi Try.prog 156 2 = some (2, 1, false) := by kernel_rfl
theorem fi156_3 : fi Try.prog 156 3 = some (3, 1, false) := by kernel_rfl
theorem fi156_4 : fi Try.prog 156 4 = some (4, 1, false) := by kernel_rfl
theorem fi156_5 : fi Try.prog 156 5 = some (5, 1, false) := by kernel_rfl
theorem fi156_6 : fi Try.prog 156 6 = some (6, 1, false) := by kernel_rfl
theorem fi156_7 : fi Try.prog 156 7 = some (7, 1, false) := by kernel_rfl
theorem fi156_8 : fi Try.prog 156 8 = some (8, 1, false) := by kernel_rfl
theorem fi156_9 : fi Try.prog 156 9 = some (9, 1, false) := by kernel_rfl
theorem fi156_10 : fi Try.prog 156 10 = some (10, 1, false) := by kernel_rfl
attribute [push_cast] ti1 und2 ti2 und3 ti3 und4 ti4 und5 ti5 und6 ti6 ti7 sti7 fi7_0 fi7_1 fi7_2 fi7_3 ti8 sti8 fi8_0 fi8_1 fi8_2 fi8_3 und9 ti9 und10 ti10 und11 ti11 und12 ti12 ti13 sti13 fi13_0 fi13_1 ti14 sti14 fi14_0 fi14_1 und15 ti15 und16 ti16 und17 ti17 ti18 sti18 fi18_0 ti19 sti19 fi19_0 und21 ti21 ti22 sti22 fi22_0 fi22_1 fi22_2 fi22_3 fi22_4 ti23 sti23 fi23_0 fi23_1 fi23_2 fi23_3 fi23_4 ti24 ti25 ti26 sti26 fi26_0 fi26_1 fi26_2 fi26_3 fi26_4 ti27 ti28 und29 si29 ti29 ti30 und31 si31 ti31 ti33 und34 si34 ti34 ti35 ti36 ti38 ti39 ti40 ti41 ti42 ti43 ti45 ti46 ti47 und48 si48 ti48 und49 si49 ti49 ti50 sti50 fi50_0 fi50_1 fi50_2 ti51 sti51 fi51_0 fi51_1 fi51_2 ti53 ti54 ti55 ti56 ti57 und58 si58 ti58 und59 si59 ti59 ti60 sti60 fi60_0 fi60_1 fi60_2 ti61 sti61 fi61_0 fi61_1 fi61_2 ti62 ti63 ti64 ti66 ti67 ti68 ti69 ti70 und71 ti71 ti72 ti73 und74 si74 ti74 ti75 ti76 ti77 ti78 ti79 ti80 und81 ti81 ti82 sti82 fi82_0 fi82_1 fi82_2 ti83 sti83 fi83_0 fi83_1 fi83_2 ti84 und85 ti85 ti86 sti86 fi86_0 fi86_1 fi86_2 ti87 sti87 fi87_0 fi87_1 fi87_2 ti88 ti89 ti90 ti91 ti92 ti93 ti94 sti94 fi94_0 fi94_1 ti95 sti95 fi95_0 fi95_1 ti96 ti97 sti97 fi97_0 fi97_1 fi97_2 ti98 sti98 fi98_0 fi98_1 fi98_2 ti99 ti100 ti101 ti102 ti103 ti104 ti105 ti106 ti107 ti108 ti109 ti110 ti111 ti112 ti113 ti114 sti114 fi114_0 fi114_1 fi114_2 ti115 sti115 fi115_0 fi115_1 fi115_2 ti116 ti117 ti118 und119 ti119 ti120 ti121 ti122 ti124 ti125 ti126 ti127 ti128 ti129 ti130 ti131 sti131 fi131_0 fi131_1 ti132 ti133 sti133 fi133_0 fi133_1 fi133_2 ti134 ti135 ti136 ti138 ti139 und140 ti140 ti141 ti142 ti143 ti144 sti144 fi144_0 fi144_1 fi144_2 fi144_3 ti145 sti145 fi145_0 fi145_1 fi145_2 fi145_3 ti147 sti147 fi147_0 ti148 sti148 fi148_0 und149 ti149 und150 ti150 ti151 und152 ti152 und153 ti153 und154 ti154 ti155 sti155 fi155_0 fi155_1 fi155_2 fi155_3 fi155_4 fi155_5 fi155_6 fi155_7 fi155_8 fi155_9 fi155_10 ti156 sti156 fi156_0 fi156_1 fi156_2 fi156_3 fi156_4 fi156_5 fi156_6 fi156_7 fi156_8 fi156_9 fi156_10
end Go.Proofs.Ytfbcedjheempfaa
