/- PRINTED by gen.py: the seat's types. No condition. -/
import Derived.Test.YtdfmnobckmakiaaAbsA
import Derived.Test.YtdfmnobckmakiaaProg
import Derived.KernelRfl
namespace Go.Proofs.Ytdfmnobckmakiaa.Abs
open Go
theorem td1 : tdOf Try.prog 1 = .ptr := by kernel_rfl
theorem sz1 : Try.prog.cellsOf 1 = 1 := by kernel_rfl
theorem by1 : Try.prog.bytesOf 1 = 8 := by kernel_rfl
theorem td2 : tdOf Try.prog 2 = .int .i64 := by kernel_rfl
theorem sz2 : Try.prog.cellsOf 2 = 1 := by kernel_rfl
theorem by2 : Try.prog.bytesOf 2 = 8 := by kernel_rfl
theorem zr2 : zeroOf Try.prog 2 = some [.int .i64 0] := by kernel_rfl
theorem td3 : tdOf Try.prog 3 = .int .i64 := by kernel_rfl
theorem sz3 : Try.prog.cellsOf 3 = 1 := by kernel_rfl
theorem by3 : Try.prog.bytesOf 3 = 8 := by kernel_rfl
theorem zr3 : zeroOf Try.prog 3 = some [.int .i64 0] := by kernel_rfl
theorem td4 : tdOf Try.prog 4 = .bool := by kernel_rfl
theorem sz4 : Try.prog.cellsOf 4 = 1 := by kernel_rfl
theorem by4 : Try.prog.bytesOf 4 = 1 := by kernel_rfl
theorem zr4 : zeroOf Try.prog 4 = some [.bool false] := by kernel_rfl
theorem td5 : tdOf Try.prog 5 = .int .u8 := by kernel_rfl
theorem sz5 : Try.prog.cellsOf 5 = 1 := by kernel_rfl
theorem by5 : Try.prog.bytesOf 5 = 1 := by kernel_rfl
theorem zr5 : zeroOf Try.prog 5 = some [.int .u8 0] := by kernel_rfl
theorem td6 : tdOf Try.prog 6 = .int .u8 := by kernel_rfl
theorem sz6 : Try.prog.cellsOf 6 = 1 := by kernel_rfl
theorem by6 : Try.prog.bytesOf 6 = 1 := by kernel_rfl
theorem zr6 : zeroOf Try.prog 6 = some [.int .u8 0] := by kernel_rfl
theorem td7 : tdOf Try.prog 7 = .struct [(0, 1, 2), (1, 1, 3), (2, 1, 4), (3, 1, 6)] := by kernel_rfl
theorem sz7 : Try.prog.cellsOf 7 = 4 := by kernel_rfl
theorem by7 : Try.prog.bytesOf 7 = 24 := by kernel_rfl
theorem zr7 : zeroOf Try.prog 7 = some [.int .i64 0, .int .i64 0, .bool false, .int .u8 0] := by kernel_rfl
theorem td8 : tdOf Try.prog 8 = .struct [(0, 1, 2), (1, 1, 3), (2, 1, 4), (3, 1, 6)] := by kernel_rfl
theorem sz8 : Try.prog.cellsOf 8 = 4 := by kernel_rfl
theorem by8 : Try.prog.bytesOf 8 = 24 := by kernel_rfl
theorem zr8 : zeroOf Try.prog 8 = some [.int .i64 0, .int .i64 0, .bool false, .int .u8 0] := by kernel_rfl
theorem td9 : tdOf Try.prog 9 = .str := by kernel_rfl
theorem sz9 : Try.prog.cellsOf 9 = 1 := by kernel_rfl
theorem by9 : Try.prog.bytesOf 9 = 16 := by kernel_rfl
theorem zr9 : zeroOf Try.prog 9 = some [.str []] := by kernel_rfl
theorem td10 : tdOf Try.prog 10 = .str := by kernel_rfl
theorem sz10 : Try.prog.cellsOf 10 = 1 := by kernel_rfl
theorem by10 : Try.prog.bytesOf 10 = 16 := by kernel_rfl
theorem zr10 : zeroOf Try.prog 10 = some [.str []] := by kernel_rfl
theorem td11 : tdOf Try.prog 11 = .str := by kernel_rfl
theorem sz11 : Try.prog.cellsOf 11 = 1 := by kernel_rfl
theorem by11 : Try.prog.bytesOf 11 = 16 := by kernel_rfl
theorem zr11 : zeroOf Try.prog 11 = some [.str []] := by kernel_rfl
theorem td12 : tdOf Try.prog 12 = .int .u64 := by kernel_rfl
theorem sz12 : Try.prog.cellsOf 12 = 1 := by kernel_rfl
theorem by12 : Try.prog.bytesOf 12 = 8 := by kernel_rfl
theorem zr12 : zeroOf Try.prog 12 = some [.int .u64 0] := by kernel_rfl
theorem td13 : tdOf Try.prog 13 = .struct [(0, 1, 9), (1, 1, 12)] := by kernel_rfl
theorem sz13 : Try.prog.cellsOf 13 = 2 := by kernel_rfl
theorem by13 : Try.prog.bytesOf 13 = 24 := by kernel_rfl
theorem zr13 : zeroOf Try.prog 13 = some [.str [], .int .u64 0] := by kernel_rfl
theorem td14 : tdOf Try.prog 14 = .struct [(0, 1, 9), (1, 1, 12)] := by kernel_rfl
theorem sz14 : Try.prog.cellsOf 14 = 2 := by kernel_rfl
theorem by14 : Try.prog.bytesOf 14 = 24 := by kernel_rfl
theorem zr14 : zeroOf Try.prog 14 = some [.str [], .int .u64 0] := by kernel_rfl
theorem td15 : tdOf Try.prog 15 = .ptr := by kernel_rfl
theorem sz15 : Try.prog.cellsOf 15 = 1 := by kernel_rfl
theorem by15 : Try.prog.bytesOf 15 = 8 := by kernel_rfl
theorem td16 : tdOf Try.prog 16 = .ptr := by kernel_rfl
theorem sz16 : Try.prog.cellsOf 16 = 1 := by kernel_rfl
theorem by16 : Try.prog.bytesOf 16 = 8 := by kernel_rfl
theorem td17 : tdOf Try.prog 17 = .ptr := by kernel_rfl
theorem sz17 : Try.prog.cellsOf 17 = 1 := by kernel_rfl
theorem by17 : Try.prog.bytesOf 17 = 8 := by kernel_rfl
theorem td18 : tdOf Try.prog 18 = .struct [(0, 1, 17)] := by kernel_rfl
theorem sz18 : Try.prog.cellsOf 18 = 1 := by kernel_rfl
theorem by18 : Try.prog.bytesOf 18 = 8 := by kernel_rfl
theorem td19 : tdOf Try.prog 19 = .struct [(0, 1, 17)] := by kernel_rfl
theorem sz19 : Try.prog.cellsOf 19 = 1 := by kernel_rfl
theorem by19 : Try.prog.bytesOf 19 = 8 := by kernel_rfl
theorem td21 : tdOf Try.prog 21 = .int .i32 := by kernel_rfl
theorem sz21 : Try.prog.cellsOf 21 = 1 := by kernel_rfl
theorem by21 : Try.prog.bytesOf 21 = 4 := by kernel_rfl
theorem zr21 : zeroOf Try.prog 21 = some [.int .i32 0] := by kernel_rfl
theorem td22 : tdOf Try.prog 22 = .ptr := by kernel_rfl
theorem sz22 : Try.prog.cellsOf 22 = 1 := by kernel_rfl
theorem by22 : Try.prog.bytesOf 22 = 8 := by kernel_rfl
theorem td23 : tdOf Try.prog 23 = .ptr := by kernel_rfl
theorem sz23 : Try.prog.cellsOf 23 = 1 := by kernel_rfl
theorem by23 : Try.prog.bytesOf 23 = 8 := by kernel_rfl
theorem td24 : tdOf Try.prog 24 = .struct [(0, 1, 9), (1, 1, 9)] := by kernel_rfl
theorem sz24 : Try.prog.cellsOf 24 = 2 := by kernel_rfl
theorem by24 : Try.prog.bytesOf 24 = 32 := by kernel_rfl
theorem zr24 : zeroOf Try.prog 24 = some [.str [], .str []] := by kernel_rfl
theorem td25 : tdOf Try.prog 25 = .struct [(0, 1, 9), (1, 1, 9)] := by kernel_rfl
theorem sz25 : Try.prog.cellsOf 25 = 2 := by kernel_rfl
theorem by25 : Try.prog.bytesOf 25 = 32 := by kernel_rfl
theorem zr25 : zeroOf Try.prog 25 = some [.str [], .str []] := by kernel_rfl
theorem td26 : tdOf Try.prog 26 = .ptr := by kernel_rfl
theorem sz26 : Try.prog.cellsOf 26 = 1 := by kernel_rfl
theorem by26 : Try.prog.bytesOf 26 = 8 := by kernel_rfl
theorem td27 : tdOf Try.prog 27 = .ptr := by kernel_rfl
theorem sz27 : Try.prog.cellsOf 27 = 1 := by kernel_rfl
theorem by27 : Try.prog.bytesOf 27 = 8 := by kernel_rfl
theorem td28 : tdOf Try.prog 28 = .struct [(0, 1, 9), (1, 1, 9)] := by kernel_rfl
theorem sz28 : Try.prog.cellsOf 28 = 2 := by kernel_rfl
theorem by28 : Try.prog.bytesOf 28 = 32 := by kernel_rfl
theorem zr28 : zeroOf Try.prog 28 = some [.str [], .str []] := by kernel_rfl
theorem td29 : tdOf Try.prog 29 = .ptr := by kernel_rfl
theorem sz29 : Try.prog.cellsOf 29 = 1 := by kernel_rfl
theorem by29 : Try.prog.bytesOf 29 = 8 := by kernel_rfl
theorem td30 : tdOf Try.prog 30 = .ptr := by kernel_rfl
theorem sz30 : Try.prog.cellsOf 30 = 1 := by kernel_rfl
theorem by30 : Try.prog.bytesOf 30 = 8 := by kernel_rfl
theorem td31 : tdOf Try.prog 31 = .slice 9 := by kernel_rfl
theorem sz31 : Try.prog.cellsOf 31 = 1 := by kernel_rfl
theorem by31 : Try.prog.bytesOf 31 = 24 := by kernel_rfl
theorem zr31 : zeroOf Try.prog 31 = some [.sl .nil 0 []] := by kernel_rfl
theorem td32 : tdOf Try.prog 32 = .ptr := by kernel_rfl
theorem sz32 : Try.prog.cellsOf 32 = 1 := by kernel_rfl
theorem by32 : Try.prog.bytesOf 32 = 8 := by kernel_rfl
theorem td33 : tdOf Try.prog 33 = .slice 59 := by kernel_rfl
theorem sz33 : Try.prog.cellsOf 33 = 1 := by kernel_rfl
theorem by33 : Try.prog.bytesOf 33 = 24 := by kernel_rfl
theorem zr33 : zeroOf Try.prog 33 = some [.sl .nil 0 []] := by kernel_rfl
theorem td34 : tdOf Try.prog 34 = .ptr := by kernel_rfl
theorem sz34 : Try.prog.cellsOf 34 = 1 := by kernel_rfl
theorem by34 : Try.prog.bytesOf 34 = 8 := by kernel_rfl
theorem td35 : tdOf Try.prog 35 = .ptr := by kernel_rfl
theorem sz35 : Try.prog.cellsOf 35 = 1 := by kernel_rfl
theorem by35 : Try.prog.bytesOf 35 = 8 := by kernel_rfl
theorem td36 : tdOf Try.prog 36 = .ptr := by kernel_rfl
theorem sz36 : Try.prog.cellsOf 36 = 1 := by kernel_rfl
theorem by36 : Try.prog.bytesOf 36 = 8 := by kernel_rfl
theorem td37 : tdOf Try.prog 37 = .ptr := by kernel_rfl
theorem sz37 : Try.prog.cellsOf 37 = 1 := by kernel_rfl
theorem by37 : Try.prog.bytesOf 37 = 8 := by kernel_rfl
theorem td38 : tdOf Try.prog 38 = .ptr := by kernel_rfl
theorem sz38 : Try.prog.cellsOf 38 = 1 := by kernel_rfl
theorem by38 : Try.prog.bytesOf 38 = 8 := by kernel_rfl
theorem td39 : tdOf Try.prog 39 = .ptr := by kernel_rfl
theorem sz39 : Try.prog.cellsOf 39 = 1 := by kernel_rfl
theorem by39 : Try.prog.bytesOf 39 = 8 := by kernel_rfl
theorem td40 : tdOf Try.prog 40 = .slice 67 := by kernel_rfl
theorem sz40 : Try.prog.cellsOf 40 = 1 := by kernel_rfl
theorem by40 : Try.prog.bytesOf 40 = 24 := by kernel_rfl
theorem zr40 : zeroOf Try.prog 40 = some [.sl .nil 0 []] := by kernel_rfl
theorem td41 : tdOf Try.prog 41 = .ptr := by kernel_rfl
theorem sz41 : Try.prog.cellsOf 41 = 1 := by kernel_rfl
theorem by41 : Try.prog.bytesOf 41 = 8 := by kernel_rfl
theorem td43 : tdOf Try.prog 43 = .ptr := by kernel_rfl
theorem sz43 : Try.prog.cellsOf 43 = 1 := by kernel_rfl
theorem by43 : Try.prog.bytesOf 43 = 8 := by kernel_rfl
theorem td44 : tdOf Try.prog 44 = .slice 69 := by kernel_rfl
theorem sz44 : Try.prog.cellsOf 44 = 1 := by kernel_rfl
theorem by44 : Try.prog.bytesOf 44 = 24 := by kernel_rfl
theorem zr44 : zeroOf Try.prog 44 = some [.sl .nil 0 []] := by kernel_rfl
theorem td45 : tdOf Try.prog 45 = .ptr := by kernel_rfl
theorem sz45 : Try.prog.cellsOf 45 = 1 := by kernel_rfl
theorem by45 : Try.prog.bytesOf 45 = 8 := by kernel_rfl
theorem td46 : tdOf Try.prog 46 = .ptr := by kernel_rfl
theorem sz46 : Try.prog.cellsOf 46 = 1 := by kernel_rfl
theorem by46 : Try.prog.bytesOf 46 = 8 := by kernel_rfl
theorem td47 : tdOf Try.prog 47 = .ptr := by kernel_rfl
theorem sz47 : Try.prog.cellsOf 47 = 1 := by kernel_rfl
theorem by47 : Try.prog.bytesOf 47 = 8 := by kernel_rfl
theorem td48 : tdOf Try.prog 48 = .slice 82 := by kernel_rfl
theorem sz48 : Try.prog.cellsOf 48 = 1 := by kernel_rfl
theorem by48 : Try.prog.bytesOf 48 = 24 := by kernel_rfl
theorem zr48 : zeroOf Try.prog 48 = some [.sl .nil 0 []] := by kernel_rfl
theorem td49 : tdOf Try.prog 49 = .ptr := by kernel_rfl
theorem sz49 : Try.prog.cellsOf 49 = 1 := by kernel_rfl
theorem by49 : Try.prog.bytesOf 49 = 8 := by kernel_rfl
theorem td50 : tdOf Try.prog 50 = .ptr := by kernel_rfl
theorem sz50 : Try.prog.cellsOf 50 = 1 := by kernel_rfl
theorem by50 : Try.prog.bytesOf 50 = 8 := by kernel_rfl
theorem td51 : tdOf Try.prog 51 = .slice 74 := by kernel_rfl
theorem sz51 : Try.prog.cellsOf 51 = 1 := by kernel_rfl
theorem by51 : Try.prog.bytesOf 51 = 24 := by kernel_rfl
theorem zr51 : zeroOf Try.prog 51 = some [.sl .nil 0 []] := by kernel_rfl
theorem td52 : tdOf Try.prog 52 = .ptr := by kernel_rfl
theorem sz52 : Try.prog.cellsOf 52 = 1 := by kernel_rfl
theorem by52 : Try.prog.bytesOf 52 = 8 := by kernel_rfl
theorem td53 : tdOf Try.prog 53 = .ptr := by kernel_rfl
theorem sz53 : Try.prog.cellsOf 53 = 1 := by kernel_rfl
theorem by53 : Try.prog.bytesOf 53 = 8 := by kernel_rfl
theorem td54 : tdOf Try.prog 54 = .ptr := by kernel_rfl
theorem sz54 : Try.prog.cellsOf 54 = 1 := by kernel_rfl
theorem by54 : Try.prog.bytesOf 54 = 8 := by kernel_rfl
theorem td56 : tdOf Try.prog 56 = .ptr := by kernel_rfl
theorem sz56 : Try.prog.cellsOf 56 = 1 := by kernel_rfl
theorem by56 : Try.prog.bytesOf 56 = 8 := by kernel_rfl
theorem td57 : tdOf Try.prog 57 = .ptr := by kernel_rfl
theorem sz57 : Try.prog.cellsOf 57 = 1 := by kernel_rfl
theorem by57 : Try.prog.bytesOf 57 = 8 := by kernel_rfl
theorem td58 : tdOf Try.prog 58 = .struct [(0, 1, 3), (1, 1, 9), (2, 1, 9)] := by kernel_rfl
theorem sz58 : Try.prog.cellsOf 58 = 3 := by kernel_rfl
theorem by58 : Try.prog.bytesOf 58 = 40 := by kernel_rfl
theorem zr58 : zeroOf Try.prog 58 = some [.int .i64 0, .str [], .str []] := by kernel_rfl
theorem td59 : tdOf Try.prog 59 = .struct [(0, 1, 3), (1, 1, 9), (2, 1, 9)] := by kernel_rfl
theorem sz59 : Try.prog.cellsOf 59 = 3 := by kernel_rfl
theorem by59 : Try.prog.bytesOf 59 = 40 := by kernel_rfl
theorem zr59 : zeroOf Try.prog 59 = some [.int .i64 0, .str [], .str []] := by kernel_rfl
theorem td60 : tdOf Try.prog 60 = .ptr := by kernel_rfl
theorem sz60 : Try.prog.cellsOf 60 = 1 := by kernel_rfl
theorem by60 : Try.prog.bytesOf 60 = 8 := by kernel_rfl
theorem td61 : tdOf Try.prog 61 = .struct [(0, 1, 33)] := by kernel_rfl
theorem sz61 : Try.prog.cellsOf 61 = 1 := by kernel_rfl
theorem by61 : Try.prog.bytesOf 61 = 24 := by kernel_rfl
theorem zr61 : zeroOf Try.prog 61 = some [.sl .nil 0 []] := by kernel_rfl
theorem td62 : tdOf Try.prog 62 = .struct [(0, 1, 33)] := by kernel_rfl
theorem sz62 : Try.prog.cellsOf 62 = 1 := by kernel_rfl
theorem by62 : Try.prog.bytesOf 62 = 24 := by kernel_rfl
theorem zr62 : zeroOf Try.prog 62 = some [.sl .nil 0 []] := by kernel_rfl
theorem td63 : tdOf Try.prog 63 = .ptr := by kernel_rfl
theorem sz63 : Try.prog.cellsOf 63 = 1 := by kernel_rfl
theorem by63 : Try.prog.bytesOf 63 = 8 := by kernel_rfl
theorem td64 : tdOf Try.prog 64 = .ptr := by kernel_rfl
theorem sz64 : Try.prog.cellsOf 64 = 1 := by kernel_rfl
theorem by64 : Try.prog.bytesOf 64 = 8 := by kernel_rfl
theorem td65 : tdOf Try.prog 65 = .ptr := by kernel_rfl
theorem sz65 : Try.prog.cellsOf 65 = 1 := by kernel_rfl
theorem by65 : Try.prog.bytesOf 65 = 8 := by kernel_rfl
theorem td66 : tdOf Try.prog 66 = .struct [(0, 1, 9), (1, 1, 48)] := by kernel_rfl
theorem sz66 : Try.prog.cellsOf 66 = 2 := by kernel_rfl
theorem by66 : Try.prog.bytesOf 66 = 40 := by kernel_rfl
theorem zr66 : zeroOf Try.prog 66 = some [.str [], .sl .nil 0 []] := by kernel_rfl
theorem td67 : tdOf Try.prog 67 = .struct [(0, 1, 9), (1, 1, 48)] := by kernel_rfl
theorem sz67 : Try.prog.cellsOf 67 = 2 := by kernel_rfl
theorem by67 : Try.prog.bytesOf 67 = 40 := by kernel_rfl
theorem zr67 : zeroOf Try.prog 67 = some [.str [], .sl .nil 0 []] := by kernel_rfl
theorem td68 : tdOf Try.prog 68 = .struct [(0, 1, 9), (1, 1, 51)] := by kernel_rfl
theorem sz68 : Try.prog.cellsOf 68 = 2 := by kernel_rfl
theorem by68 : Try.prog.bytesOf 68 = 40 := by kernel_rfl
theorem zr68 : zeroOf Try.prog 68 = some [.str [], .sl .nil 0 []] := by kernel_rfl
theorem td69 : tdOf Try.prog 69 = .struct [(0, 1, 9), (1, 1, 51)] := by kernel_rfl
theorem sz69 : Try.prog.cellsOf 69 = 2 := by kernel_rfl
theorem by69 : Try.prog.bytesOf 69 = 40 := by kernel_rfl
theorem zr69 : zeroOf Try.prog 69 = some [.str [], .sl .nil 0 []] := by kernel_rfl
theorem td70 : tdOf Try.prog 70 = .slice 72 := by kernel_rfl
theorem sz70 : Try.prog.cellsOf 70 = 1 := by kernel_rfl
theorem by70 : Try.prog.bytesOf 70 = 24 := by kernel_rfl
theorem zr70 : zeroOf Try.prog 70 = some [.sl .nil 0 []] := by kernel_rfl
theorem td71 : tdOf Try.prog 71 = .struct [(0, 1, 3), (1, 1, 9), (2, 1, 70), (3, 1, 31)] := by kernel_rfl
theorem sz71 : Try.prog.cellsOf 71 = 4 := by kernel_rfl
theorem by71 : Try.prog.bytesOf 71 = 72 := by kernel_rfl
theorem zr71 : zeroOf Try.prog 71 = some [.int .i64 0, .str [], .sl .nil 0 [], .sl .nil 0 []] := by kernel_rfl
theorem td72 : tdOf Try.prog 72 = .struct [(0, 1, 3), (1, 1, 9), (2, 1, 70), (3, 1, 31)] := by kernel_rfl
theorem sz72 : Try.prog.cellsOf 72 = 4 := by kernel_rfl
theorem by72 : Try.prog.bytesOf 72 = 72 := by kernel_rfl
theorem zr72 : zeroOf Try.prog 72 = some [.int .i64 0, .str [], .sl .nil 0 [], .sl .nil 0 []] := by kernel_rfl
theorem td73 : tdOf Try.prog 73 = .struct [(0, 1, 9), (1, 4, 72)] := by kernel_rfl
theorem sz73 : Try.prog.cellsOf 73 = 5 := by kernel_rfl
theorem by73 : Try.prog.bytesOf 73 = 88 := by kernel_rfl
theorem zr73 : zeroOf Try.prog 73 = some [.str [], .int .i64 0, .str [], .sl .nil 0 [], .sl .nil 0 []] := by kernel_rfl
theorem td74 : tdOf Try.prog 74 = .struct [(0, 1, 9), (1, 4, 72)] := by kernel_rfl
theorem sz74 : Try.prog.cellsOf 74 = 5 := by kernel_rfl
theorem by74 : Try.prog.bytesOf 74 = 88 := by kernel_rfl
theorem zr74 : zeroOf Try.prog 74 = some [.str [], .int .i64 0, .str [], .sl .nil 0 [], .sl .nil 0 []] := by kernel_rfl
theorem td75 : tdOf Try.prog 75 = .ptr := by kernel_rfl
theorem sz75 : Try.prog.cellsOf 75 = 1 := by kernel_rfl
theorem by75 : Try.prog.bytesOf 75 = 8 := by kernel_rfl
theorem td76 : tdOf Try.prog 76 = .ptr := by kernel_rfl
theorem sz76 : Try.prog.cellsOf 76 = 1 := by kernel_rfl
theorem by76 : Try.prog.bytesOf 76 = 8 := by kernel_rfl
theorem td77 : tdOf Try.prog 77 = .ptr := by kernel_rfl
theorem sz77 : Try.prog.cellsOf 77 = 1 := by kernel_rfl
theorem by77 : Try.prog.bytesOf 77 = 8 := by kernel_rfl
theorem td78 : tdOf Try.prog 78 = .slice 80 := by kernel_rfl
theorem sz78 : Try.prog.cellsOf 78 = 1 := by kernel_rfl
theorem by78 : Try.prog.bytesOf 78 = 24 := by kernel_rfl
theorem zr78 : zeroOf Try.prog 78 = some [.sl .nil 0 []] := by kernel_rfl
theorem td79 : tdOf Try.prog 79 = .struct [(0, 1, 3), (1, 1, 9), (2, 1, 78), (3, 1, 31)] := by kernel_rfl
theorem sz79 : Try.prog.cellsOf 79 = 4 := by kernel_rfl
theorem by79 : Try.prog.bytesOf 79 = 72 := by kernel_rfl
theorem zr79 : zeroOf Try.prog 79 = some [.int .i64 0, .str [], .sl .nil 0 [], .sl .nil 0 []] := by kernel_rfl
theorem td80 : tdOf Try.prog 80 = .struct [(0, 1, 3), (1, 1, 9), (2, 1, 78), (3, 1, 31)] := by kernel_rfl
theorem sz80 : Try.prog.cellsOf 80 = 4 := by kernel_rfl
theorem by80 : Try.prog.bytesOf 80 = 72 := by kernel_rfl
theorem zr80 : zeroOf Try.prog 80 = some [.int .i64 0, .str [], .sl .nil 0 [], .sl .nil 0 []] := by kernel_rfl
theorem td81 : tdOf Try.prog 81 = .struct [(0, 1, 9), (1, 4, 80)] := by kernel_rfl
theorem sz81 : Try.prog.cellsOf 81 = 5 := by kernel_rfl
theorem by81 : Try.prog.bytesOf 81 = 88 := by kernel_rfl
theorem zr81 : zeroOf Try.prog 81 = some [.str [], .int .i64 0, .str [], .sl .nil 0 [], .sl .nil 0 []] := by kernel_rfl
theorem td82 : tdOf Try.prog 82 = .struct [(0, 1, 9), (1, 4, 80)] := by kernel_rfl
theorem sz82 : Try.prog.cellsOf 82 = 5 := by kernel_rfl
theorem by82 : Try.prog.bytesOf 82 = 88 := by kernel_rfl
theorem zr82 : zeroOf Try.prog 82 = some [.str [], .int .i64 0, .str [], .sl .nil 0 [], .sl .nil 0 []] := by kernel_rfl
theorem td83 : tdOf Try.prog 83 = .ptr := by kernel_rfl
theorem sz83 : Try.prog.cellsOf 83 = 1 := by kernel_rfl
theorem by83 : Try.prog.bytesOf 83 = 8 := by kernel_rfl
theorem td84 : tdOf Try.prog 84 = .ptr := by kernel_rfl
theorem sz84 : Try.prog.cellsOf 84 = 1 := by kernel_rfl
theorem by84 : Try.prog.bytesOf 84 = 8 := by kernel_rfl
theorem td85 : tdOf Try.prog 85 = .ptr := by kernel_rfl
theorem sz85 : Try.prog.cellsOf 85 = 1 := by kernel_rfl
theorem by85 : Try.prog.bytesOf 85 = 8 := by kernel_rfl
theorem td86 : tdOf Try.prog 86 = .ptr := by kernel_rfl
theorem sz86 : Try.prog.cellsOf 86 = 1 := by kernel_rfl
theorem by86 : Try.prog.bytesOf 86 = 8 := by kernel_rfl
theorem td87 : tdOf Try.prog 87 = .ptr := by kernel_rfl
theorem sz87 : Try.prog.cellsOf 87 = 1 := by kernel_rfl
theorem by87 : Try.prog.bytesOf 87 = 8 := by kernel_rfl
theorem td88 : tdOf Try.prog 88 = .ptr := by kernel_rfl
theorem sz88 : Try.prog.cellsOf 88 = 1 := by kernel_rfl
theorem by88 : Try.prog.bytesOf 88 = 8 := by kernel_rfl
theorem td89 : tdOf Try.prog 89 = .ptr := by kernel_rfl
theorem sz89 : Try.prog.cellsOf 89 = 1 := by kernel_rfl
theorem by89 : Try.prog.bytesOf 89 = 8 := by kernel_rfl
theorem td90 : tdOf Try.prog 90 = .slice 5 := by kernel_rfl
theorem sz90 : Try.prog.cellsOf 90 = 1 := by kernel_rfl
theorem by90 : Try.prog.bytesOf 90 = 24 := by kernel_rfl
theorem zr90 : zeroOf Try.prog 90 = some [.sl .nil 0 []] := by kernel_rfl
theorem td91 : tdOf Try.prog 91 = .ptr := by kernel_rfl
theorem sz91 : Try.prog.cellsOf 91 = 1 := by kernel_rfl
theorem by91 : Try.prog.bytesOf 91 = 8 := by kernel_rfl
theorem td92 : tdOf Try.prog 92 = .ptr := by kernel_rfl
theorem sz92 : Try.prog.cellsOf 92 = 1 := by kernel_rfl
theorem by92 : Try.prog.bytesOf 92 = 8 := by kernel_rfl
theorem td93 : tdOf Try.prog 93 = .ptr := by kernel_rfl
theorem sz93 : Try.prog.cellsOf 93 = 1 := by kernel_rfl
theorem by93 : Try.prog.bytesOf 93 = 8 := by kernel_rfl
theorem td94 : tdOf Try.prog 94 = .ptr := by kernel_rfl
theorem sz94 : Try.prog.cellsOf 94 = 1 := by kernel_rfl
theorem by94 : Try.prog.bytesOf 94 = 8 := by kernel_rfl
theorem td95 : tdOf Try.prog 95 = .ptr := by kernel_rfl
theorem sz95 : Try.prog.cellsOf 95 = 1 := by kernel_rfl
theorem by95 : Try.prog.bytesOf 95 = 8 := by kernel_rfl
theorem td96 : tdOf Try.prog 96 = .ptr := by kernel_rfl
theorem sz96 : Try.prog.cellsOf 96 = 1 := by kernel_rfl
theorem by96 : Try.prog.bytesOf 96 = 8 := by kernel_rfl
theorem td97 : tdOf Try.prog 97 = .ptr := by kernel_rfl
theorem sz97 : Try.prog.cellsOf 97 = 1 := by kernel_rfl
theorem by97 : Try.prog.bytesOf 97 = 8 := by kernel_rfl
theorem td98 : tdOf Try.prog 98 = .ptr := by kernel_rfl
theorem sz98 : Try.prog.cellsOf 98 = 1 := by kernel_rfl
theorem by98 : Try.prog.bytesOf 98 = 8 := by kernel_rfl
theorem td99 : tdOf Try.prog 99 = .ptr := by kernel_rfl
theorem sz99 : Try.prog.cellsOf 99 = 1 := by kernel_rfl
theorem by99 : Try.prog.bytesOf 99 = 8 := by kernel_rfl
theorem td100 : tdOf Try.prog 100 = .ptr := by kernel_rfl
theorem sz100 : Try.prog.cellsOf 100 = 1 := by kernel_rfl
theorem by100 : Try.prog.bytesOf 100 = 8 := by kernel_rfl
theorem td101 : tdOf Try.prog 101 = .struct [(0, 1, 17), (1, 1, 17), (2, 1, 17), (3, 1, 9)] := by kernel_rfl
theorem sz101 : Try.prog.cellsOf 101 = 4 := by kernel_rfl
theorem by101 : Try.prog.bytesOf 101 = 40 := by kernel_rfl
theorem td102 : tdOf Try.prog 102 = .struct [(0, 1, 17), (1, 1, 17), (2, 1, 17), (3, 1, 9)] := by kernel_rfl
theorem sz102 : Try.prog.cellsOf 102 = 4 := by kernel_rfl
theorem by102 : Try.prog.bytesOf 102 = 40 := by kernel_rfl
theorem td104 : tdOf Try.prog 104 = .struct [(0, 0, 103)] := by kernel_rfl
theorem sz104 : Try.prog.cellsOf 104 = 0 := by kernel_rfl
theorem by104 : Try.prog.bytesOf 104 = 0 := by kernel_rfl
theorem zr104 : zeroOf Try.prog 104 = some [] := by kernel_rfl
theorem td105 : tdOf Try.prog 105 = .struct [(0, 0, 103)] := by kernel_rfl
theorem sz105 : Try.prog.cellsOf 105 = 0 := by kernel_rfl
theorem by105 : Try.prog.bytesOf 105 = 0 := by kernel_rfl
theorem zr105 : zeroOf Try.prog 105 = some [] := by kernel_rfl
theorem td106 : tdOf Try.prog 106 = .ptr := by kernel_rfl
theorem sz106 : Try.prog.cellsOf 106 = 1 := by kernel_rfl
theorem by106 : Try.prog.bytesOf 106 = 8 := by kernel_rfl
theorem td107 : tdOf Try.prog 107 = .int .u32 := by kernel_rfl
theorem sz107 : Try.prog.cellsOf 107 = 1 := by kernel_rfl
theorem by107 : Try.prog.bytesOf 107 = 4 := by kernel_rfl
theorem zr107 : zeroOf Try.prog 107 = some [.int .u32 0] := by kernel_rfl
theorem td108 : tdOf Try.prog 108 = .int .u8 := by kernel_rfl
theorem sz108 : Try.prog.cellsOf 108 = 1 := by kernel_rfl
theorem by108 : Try.prog.bytesOf 108 = 1 := by kernel_rfl
theorem zr108 : zeroOf Try.prog 108 = some [.int .u8 0] := by kernel_rfl
theorem td109 : tdOf Try.prog 109 = .int .u8 := by kernel_rfl
theorem sz109 : Try.prog.cellsOf 109 = 1 := by kernel_rfl
theorem by109 : Try.prog.bytesOf 109 = 1 := by kernel_rfl
theorem zr109 : zeroOf Try.prog 109 = some [.int .u8 0] := by kernel_rfl
theorem td110 : tdOf Try.prog 110 = .ptr := by kernel_rfl
theorem sz110 : Try.prog.cellsOf 110 = 1 := by kernel_rfl
theorem by110 : Try.prog.bytesOf 110 = 8 := by kernel_rfl
theorem td111 : tdOf Try.prog 111 = .ptr := by kernel_rfl
theorem sz111 : Try.prog.cellsOf 111 = 1 := by kernel_rfl
theorem by111 : Try.prog.bytesOf 111 = 8 := by kernel_rfl
theorem td112 : tdOf Try.prog 112 = .int .i32 := by kernel_rfl
theorem sz112 : Try.prog.cellsOf 112 = 1 := by kernel_rfl
theorem by112 : Try.prog.bytesOf 112 = 4 := by kernel_rfl
theorem zr112 : zeroOf Try.prog 112 = some [.int .i32 0] := by kernel_rfl
theorem td113 : tdOf Try.prog 113 = .int .i32 := by kernel_rfl
theorem sz113 : Try.prog.cellsOf 113 = 1 := by kernel_rfl
theorem by113 : Try.prog.bytesOf 113 = 4 := by kernel_rfl
theorem zr113 : zeroOf Try.prog 113 = some [.int .i32 0] := by kernel_rfl
theorem td114 : tdOf Try.prog 114 = .struct [(0, 1, 12), (1, 1, 12), (2, 1, 107), (3, 1, 108), (4, 1, 5), (5, 1, 5), (6, 1, 109), (7, 1, 110), (8, 1, 111), (9, 1, 112), (10, 1, 113)] := by kernel_rfl
theorem sz114 : Try.prog.cellsOf 114 = 11 := by kernel_rfl
theorem by114 : Try.prog.bytesOf 114 = 48 := by kernel_rfl
theorem td115 : tdOf Try.prog 115 = .struct [(0, 1, 12), (1, 1, 12), (2, 1, 107), (3, 1, 108), (4, 1, 5), (5, 1, 5), (6, 1, 109), (7, 1, 110), (8, 1, 111), (9, 1, 112), (10, 1, 113)] := by kernel_rfl
theorem sz115 : Try.prog.cellsOf 115 = 11 := by kernel_rfl
theorem by115 : Try.prog.bytesOf 115 = 48 := by kernel_rfl
attribute [simp] td1 sz1 by1 td2 sz2 by2 zr2 td3 sz3 by3 zr3 td4 sz4 by4 zr4 td5 sz5 by5 zr5 td6 sz6 by6 zr6 td7 sz7 by7 zr7 td8 sz8 by8 zr8 td9 sz9 by9 zr9 td10 sz10 by10 zr10 td11 sz11 by11 zr11 td12 sz12 by12 zr12 td13 sz13 by13 zr13 td14 sz14 by14 zr14 td15 sz15 by15 td16 sz16 by16 td17 sz17 by17 td18 sz18 by18 td19 sz19 by19 td21 sz21 by21 zr21 td22 sz22 by22 td23 sz23 by23 td24 sz24 by24 zr24 td25 sz25 by25 zr25 td26 sz26 by26 td27 sz27 by27 td28 sz28 by28 zr28 td29 sz29 by29 td30 sz30 by30 td31 sz31 by31 zr31 td32 sz32 by32 td33 sz33 by33 zr33 td34 sz34 by34 td35 sz35 by35 td36 sz36 by36 td37 sz37 by37 td38 sz38 by38 td39 sz39 by39 td40 sz40 by40 zr40 td41 sz41 by41 td43 sz43 by43 td44 sz44 by44 zr44 td45 sz45 by45 td46 sz46 by46 td47 sz47 by47 td48 sz48 by48 zr48 td49 sz49 by49 td50 sz50 by50 td51 sz51 by51 zr51 td52 sz52 by52 td53 sz53 by53 td54 sz54 by54 td56 sz56 by56 td57 sz57 by57 td58 sz58 by58 zr58 td59 sz59 by59 zr59 td60 sz60 by60 td61 sz61 by61 zr61 td62 sz62 by62 zr62 td63 sz63 by63 td64 sz64 by64 td65 sz65 by65 td66 sz66 by66 zr66 td67 sz67 by67 zr67 td68 sz68 by68 zr68 td69 sz69 by69 zr69 td70 sz70 by70 zr70 td71 sz71 by71 zr71 td72 sz72 by72 zr72 td73 sz73 by73 zr73 td74 sz74 by74 zr74 td75 sz75 by75 td76 sz76 by76 td77 sz77 by77 td78 sz78 by78 zr78 td79 sz79 by79 zr79 td80 sz80 by80 zr80 td81 sz81 by81 zr81 td82 sz82 by82 zr82 td83 sz83 by83 td84 sz84 by84 td85 sz85 by85 td86 sz86 by86 td87 sz87 by87 td88 sz88 by88 td89 sz89 by89 td90 sz90 by90 zr90 td91 sz91 by91 td92 sz92 by92 td93 sz93 by93 td94 sz94 by94 td95 sz95 by95 td96 sz96 by96 td97 sz97 by97 td98 sz98 by98 td99 sz99 by99 td100 sz100 by100 td101 sz101 by101 td102 sz102 by102 td104 sz104 by104 zr104 td105 sz105 by105 zr105 td106 sz106 by106 td107 sz107 by107 zr107 td108 sz108 by108 zr108 td109 sz109 by109 zr109 td110 sz110 by110 td111 sz111 by111 td112 sz112 by112 zr112 td113 sz113 by113 zr113 td114 sz114 by114 td115 sz115 by115
end Go.Proofs.Ytdfmnobckmakiaa.Abs
