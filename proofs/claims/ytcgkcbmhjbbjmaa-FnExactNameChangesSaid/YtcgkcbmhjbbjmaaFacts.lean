/- PRINTED by gen.py: the seat's types. No condition. -/
import Derived.Test.YtcgkcbmhjbbjmaaAbsA
import Derived.Test.YtcgkcbmhjbbjmaaProg
import Derived.KernelRfl
namespace Go.Proofs.Ytcgkcbmhjbbjmaa.Abs
open Go
theorem td1 : tdOf Try.prog 1 = .ptr := by kernel_rfl
theorem sz1 : Try.prog.cellsOf 1 = 1 := by kernel_rfl
theorem by1 : Try.prog.bytesOf 1 = 8 := by kernel_rfl
theorem td2 : tdOf Try.prog 2 = .int .i64 := by kernel_rfl
theorem sz2 : Try.prog.cellsOf 2 = 1 := by kernel_rfl
theorem by2 : Try.prog.bytesOf 2 = 8 := by kernel_rfl
theorem zr2 : zeroOf Try.prog 2 = some [.int .i64 0] := by kernel_rfl
theorem td3 : tdOf Try.prog 3 = .int .i64 := by kernel_rfl
theorem sz3 : Try.prog.cellsOf 3 = 1 := by kernel_rfl
theorem by3 : Try.prog.bytesOf 3 = 8 := by kernel_rfl
theorem zr3 : zeroOf Try.prog 3 = some [.int .i64 0] := by kernel_rfl
theorem td4 : tdOf Try.prog 4 = .bool := by kernel_rfl
theorem sz4 : Try.prog.cellsOf 4 = 1 := by kernel_rfl
theorem by4 : Try.prog.bytesOf 4 = 1 := by kernel_rfl
theorem zr4 : zeroOf Try.prog 4 = some [.bool false] := by kernel_rfl
theorem td5 : tdOf Try.prog 5 = .int .u8 := by kernel_rfl
theorem sz5 : Try.prog.cellsOf 5 = 1 := by kernel_rfl
theorem by5 : Try.prog.bytesOf 5 = 1 := by kernel_rfl
theorem zr5 : zeroOf Try.prog 5 = some [.int .u8 0] := by kernel_rfl
theorem td6 : tdOf Try.prog 6 = .int .u8 := by kernel_rfl
theorem sz6 : Try.prog.cellsOf 6 = 1 := by kernel_rfl
theorem by6 : Try.prog.bytesOf 6 = 1 := by kernel_rfl
theorem zr6 : zeroOf Try.prog 6 = some [.int .u8 0] := by kernel_rfl
theorem td7 : tdOf Try.prog 7 = .struct [(0, 1, 2), (1, 1, 3), (2, 1, 4), (3, 1, 6)] := by kernel_rfl
theorem sz7 : Try.prog.cellsOf 7 = 4 := by kernel_rfl
theorem by7 : Try.prog.bytesOf 7 = 24 := by kernel_rfl
theorem zr7 : zeroOf Try.prog 7 = some [.int .i64 0, .int .i64 0, .bool false, .int .u8 0] := by kernel_rfl
theorem td8 : tdOf Try.prog 8 = .struct [(0, 1, 2), (1, 1, 3), (2, 1, 4), (3, 1, 6)] := by kernel_rfl
theorem sz8 : Try.prog.cellsOf 8 = 4 := by kernel_rfl
theorem by8 : Try.prog.bytesOf 8 = 24 := by kernel_rfl
theorem zr8 : zeroOf Try.prog 8 = some [.int .i64 0, .int .i64 0, .bool false, .int .u8 0] := by kernel_rfl
theorem td9 : tdOf Try.prog 9 = .str := by kernel_rfl
theorem sz9 : Try.prog.cellsOf 9 = 1 := by kernel_rfl
theorem by9 : Try.prog.bytesOf 9 = 16 := by kernel_rfl
theorem zr9 : zeroOf Try.prog 9 = some [.str []] := by kernel_rfl
theorem td10 : tdOf Try.prog 10 = .str := by kernel_rfl
theorem sz10 : Try.prog.cellsOf 10 = 1 := by kernel_rfl
theorem by10 : Try.prog.bytesOf 10 = 16 := by kernel_rfl
theorem zr10 : zeroOf Try.prog 10 = some [.str []] := by kernel_rfl
theorem td11 : tdOf Try.prog 11 = .str := by kernel_rfl
theorem sz11 : Try.prog.cellsOf 11 = 1 := by kernel_rfl
theorem by11 : Try.prog.bytesOf 11 = 16 := by kernel_rfl
theorem zr11 : zeroOf Try.prog 11 = some [.str []] := by kernel_rfl
theorem td12 : tdOf Try.prog 12 = .int .u64 := by kernel_rfl
theorem sz12 : Try.prog.cellsOf 12 = 1 := by kernel_rfl
theorem by12 : Try.prog.bytesOf 12 = 8 := by kernel_rfl
theorem zr12 : zeroOf Try.prog 12 = some [.int .u64 0] := by kernel_rfl
theorem td13 : tdOf Try.prog 13 = .struct [(0, 1, 9), (1, 1, 12)] := by kernel_rfl
theorem sz13 : Try.prog.cellsOf 13 = 2 := by kernel_rfl
theorem by13 : Try.prog.bytesOf 13 = 24 := by kernel_rfl
theorem zr13 : zeroOf Try.prog 13 = some [.str [], .int .u64 0] := by kernel_rfl
theorem td14 : tdOf Try.prog 14 = .struct [(0, 1, 9), (1, 1, 12)] := by kernel_rfl
theorem sz14 : Try.prog.cellsOf 14 = 2 := by kernel_rfl
theorem by14 : Try.prog.bytesOf 14 = 24 := by kernel_rfl
theorem zr14 : zeroOf Try.prog 14 = some [.str [], .int .u64 0] := by kernel_rfl
theorem td15 : tdOf Try.prog 15 = .ptr := by kernel_rfl
theorem sz15 : Try.prog.cellsOf 15 = 1 := by kernel_rfl
theorem by15 : Try.prog.bytesOf 15 = 8 := by kernel_rfl
theorem td16 : tdOf Try.prog 16 = .ptr := by kernel_rfl
theorem sz16 : Try.prog.cellsOf 16 = 1 := by kernel_rfl
theorem by16 : Try.prog.bytesOf 16 = 8 := by kernel_rfl
theorem td17 : tdOf Try.prog 17 = .ptr := by kernel_rfl
theorem sz17 : Try.prog.cellsOf 17 = 1 := by kernel_rfl
theorem by17 : Try.prog.bytesOf 17 = 8 := by kernel_rfl
theorem td18 : tdOf Try.prog 18 = .struct [(0, 1, 17)] := by kernel_rfl
theorem sz18 : Try.prog.cellsOf 18 = 1 := by kernel_rfl
theorem by18 : Try.prog.bytesOf 18 = 8 := by kernel_rfl
theorem td19 : tdOf Try.prog 19 = .struct [(0, 1, 17)] := by kernel_rfl
theorem sz19 : Try.prog.cellsOf 19 = 1 := by kernel_rfl
theorem by19 : Try.prog.bytesOf 19 = 8 := by kernel_rfl
theorem td21 : tdOf Try.prog 21 = .int .i32 := by kernel_rfl
theorem sz21 : Try.prog.cellsOf 21 = 1 := by kernel_rfl
theorem by21 : Try.prog.bytesOf 21 = 4 := by kernel_rfl
theorem zr21 : zeroOf Try.prog 21 = some [.int .i32 0] := by kernel_rfl
theorem td22 : tdOf Try.prog 22 = .slice 9 := by kernel_rfl
theorem sz22 : Try.prog.cellsOf 22 = 1 := by kernel_rfl
theorem by22 : Try.prog.bytesOf 22 = 24 := by kernel_rfl
theorem zr22 : zeroOf Try.prog 22 = some [.sl .nil 0 []] := by kernel_rfl
theorem td23 : tdOf Try.prog 23 = .ptr := by kernel_rfl
theorem sz23 : Try.prog.cellsOf 23 = 1 := by kernel_rfl
theorem by23 : Try.prog.bytesOf 23 = 8 := by kernel_rfl
theorem td24 : tdOf Try.prog 24 = .slice 124 := by kernel_rfl
theorem sz24 : Try.prog.cellsOf 24 = 1 := by kernel_rfl
theorem by24 : Try.prog.bytesOf 24 = 24 := by kernel_rfl
theorem zr24 : zeroOf Try.prog 24 = some [.sl .nil 0 []] := by kernel_rfl
theorem td25 : tdOf Try.prog 25 = .ptr := by kernel_rfl
theorem sz25 : Try.prog.cellsOf 25 = 1 := by kernel_rfl
theorem by25 : Try.prog.bytesOf 25 = 8 := by kernel_rfl
theorem td26 : tdOf Try.prog 26 = .ptr := by kernel_rfl
theorem sz26 : Try.prog.cellsOf 26 = 1 := by kernel_rfl
theorem by26 : Try.prog.bytesOf 26 = 8 := by kernel_rfl
theorem td27 : tdOf Try.prog 27 = .ptr := by kernel_rfl
theorem sz27 : Try.prog.cellsOf 27 = 1 := by kernel_rfl
theorem by27 : Try.prog.bytesOf 27 = 8 := by kernel_rfl
theorem td28 : tdOf Try.prog 28 = .ptr := by kernel_rfl
theorem sz28 : Try.prog.cellsOf 28 = 1 := by kernel_rfl
theorem by28 : Try.prog.bytesOf 28 = 8 := by kernel_rfl
theorem td29 : tdOf Try.prog 29 = .ptr := by kernel_rfl
theorem sz29 : Try.prog.cellsOf 29 = 1 := by kernel_rfl
theorem by29 : Try.prog.bytesOf 29 = 8 := by kernel_rfl
theorem td30 : tdOf Try.prog 30 = .ptr := by kernel_rfl
theorem sz30 : Try.prog.cellsOf 30 = 1 := by kernel_rfl
theorem by30 : Try.prog.bytesOf 30 = 8 := by kernel_rfl
theorem td31 : tdOf Try.prog 31 = .slice 133 := by kernel_rfl
theorem sz31 : Try.prog.cellsOf 31 = 1 := by kernel_rfl
theorem by31 : Try.prog.bytesOf 31 = 24 := by kernel_rfl
theorem zr31 : zeroOf Try.prog 31 = some [.sl .nil 0 []] := by kernel_rfl
theorem td32 : tdOf Try.prog 32 = .ptr := by kernel_rfl
theorem sz32 : Try.prog.cellsOf 32 = 1 := by kernel_rfl
theorem by32 : Try.prog.bytesOf 32 = 8 := by kernel_rfl
theorem td34 : tdOf Try.prog 34 = .ptr := by kernel_rfl
theorem sz34 : Try.prog.cellsOf 34 = 1 := by kernel_rfl
theorem by34 : Try.prog.bytesOf 34 = 8 := by kernel_rfl
theorem td35 : tdOf Try.prog 35 = .slice 135 := by kernel_rfl
theorem sz35 : Try.prog.cellsOf 35 = 1 := by kernel_rfl
theorem by35 : Try.prog.bytesOf 35 = 24 := by kernel_rfl
theorem zr35 : zeroOf Try.prog 35 = some [.sl .nil 0 []] := by kernel_rfl
theorem td36 : tdOf Try.prog 36 = .ptr := by kernel_rfl
theorem sz36 : Try.prog.cellsOf 36 = 1 := by kernel_rfl
theorem by36 : Try.prog.bytesOf 36 = 8 := by kernel_rfl
theorem td37 : tdOf Try.prog 37 = .ptr := by kernel_rfl
theorem sz37 : Try.prog.cellsOf 37 = 1 := by kernel_rfl
theorem by37 : Try.prog.bytesOf 37 = 8 := by kernel_rfl
theorem td38 : tdOf Try.prog 38 = .ptr := by kernel_rfl
theorem sz38 : Try.prog.cellsOf 38 = 1 := by kernel_rfl
theorem by38 : Try.prog.bytesOf 38 = 8 := by kernel_rfl
theorem td39 : tdOf Try.prog 39 = .slice 142 := by kernel_rfl
theorem sz39 : Try.prog.cellsOf 39 = 1 := by kernel_rfl
theorem by39 : Try.prog.bytesOf 39 = 24 := by kernel_rfl
theorem zr39 : zeroOf Try.prog 39 = some [.sl .nil 0 []] := by kernel_rfl
theorem td40 : tdOf Try.prog 40 = .ptr := by kernel_rfl
theorem sz40 : Try.prog.cellsOf 40 = 1 := by kernel_rfl
theorem by40 : Try.prog.bytesOf 40 = 8 := by kernel_rfl
theorem td41 : tdOf Try.prog 41 = .ptr := by kernel_rfl
theorem sz41 : Try.prog.cellsOf 41 = 1 := by kernel_rfl
theorem by41 : Try.prog.bytesOf 41 = 8 := by kernel_rfl
theorem td42 : tdOf Try.prog 42 = .slice 137 := by kernel_rfl
theorem sz42 : Try.prog.cellsOf 42 = 1 := by kernel_rfl
theorem by42 : Try.prog.bytesOf 42 = 24 := by kernel_rfl
theorem zr42 : zeroOf Try.prog 42 = some [.sl .nil 0 []] := by kernel_rfl
theorem td43 : tdOf Try.prog 43 = .ptr := by kernel_rfl
theorem sz43 : Try.prog.cellsOf 43 = 1 := by kernel_rfl
theorem by43 : Try.prog.bytesOf 43 = 8 := by kernel_rfl
theorem td44 : tdOf Try.prog 44 = .ptr := by kernel_rfl
theorem sz44 : Try.prog.cellsOf 44 = 1 := by kernel_rfl
theorem by44 : Try.prog.bytesOf 44 = 8 := by kernel_rfl
theorem td45 : tdOf Try.prog 45 = .slice 47 := by kernel_rfl
theorem sz45 : Try.prog.cellsOf 45 = 1 := by kernel_rfl
theorem by45 : Try.prog.bytesOf 45 = 24 := by kernel_rfl
theorem zr45 : zeroOf Try.prog 45 = some [.sl .nil 0 []] := by kernel_rfl
theorem td46 : tdOf Try.prog 46 = .struct [(0, 1, 3), (1, 1, 9), (2, 1, 9), (3, 1, 9), (4, 1, 39), (5, 1, 31), (6, 1, 45)] := by kernel_rfl
theorem sz46 : Try.prog.cellsOf 46 = 7 := by kernel_rfl
theorem by46 : Try.prog.bytesOf 46 = 128 := by kernel_rfl
theorem zr46 : zeroOf Try.prog 46 = some [.int .i64 0, .str [], .str [], .str [], .sl .nil 0 [], .sl .nil 0 [], .sl .nil 0 []] := by kernel_rfl
theorem td47 : tdOf Try.prog 47 = .struct [(0, 1, 3), (1, 1, 9), (2, 1, 9), (3, 1, 9), (4, 1, 39), (5, 1, 31), (6, 1, 45)] := by kernel_rfl
theorem sz47 : Try.prog.cellsOf 47 = 7 := by kernel_rfl
theorem by47 : Try.prog.bytesOf 47 = 128 := by kernel_rfl
theorem zr47 : zeroOf Try.prog 47 = some [.int .i64 0, .str [], .str [], .str [], .sl .nil 0 [], .sl .nil 0 [], .sl .nil 0 []] := by kernel_rfl
theorem td48 : tdOf Try.prog 48 = .ptr := by kernel_rfl
theorem sz48 : Try.prog.cellsOf 48 = 1 := by kernel_rfl
theorem by48 : Try.prog.bytesOf 48 = 8 := by kernel_rfl
theorem td49 : tdOf Try.prog 49 = .ptr := by kernel_rfl
theorem sz49 : Try.prog.cellsOf 49 = 1 := by kernel_rfl
theorem by49 : Try.prog.bytesOf 49 = 8 := by kernel_rfl
theorem td50 : tdOf Try.prog 50 = .slice 52 := by kernel_rfl
theorem sz50 : Try.prog.cellsOf 50 = 1 := by kernel_rfl
theorem by50 : Try.prog.bytesOf 50 = 24 := by kernel_rfl
theorem zr50 : zeroOf Try.prog 50 = some [.sl .nil 0 []] := by kernel_rfl
theorem td51 : tdOf Try.prog 51 = .struct [(0, 1, 3), (1, 1, 9), (2, 1, 9), (3, 1, 9), (4, 1, 42), (5, 1, 35), (6, 1, 50)] := by kernel_rfl
theorem sz51 : Try.prog.cellsOf 51 = 7 := by kernel_rfl
theorem by51 : Try.prog.bytesOf 51 = 128 := by kernel_rfl
theorem zr51 : zeroOf Try.prog 51 = some [.int .i64 0, .str [], .str [], .str [], .sl .nil 0 [], .sl .nil 0 [], .sl .nil 0 []] := by kernel_rfl
theorem td52 : tdOf Try.prog 52 = .struct [(0, 1, 3), (1, 1, 9), (2, 1, 9), (3, 1, 9), (4, 1, 42), (5, 1, 35), (6, 1, 50)] := by kernel_rfl
theorem sz52 : Try.prog.cellsOf 52 = 7 := by kernel_rfl
theorem by52 : Try.prog.bytesOf 52 = 128 := by kernel_rfl
theorem zr52 : zeroOf Try.prog 52 = some [.int .i64 0, .str [], .str [], .str [], .sl .nil 0 [], .sl .nil 0 [], .sl .nil 0 []] := by kernel_rfl
theorem td53 : tdOf Try.prog 53 = .ptr := by kernel_rfl
theorem sz53 : Try.prog.cellsOf 53 = 1 := by kernel_rfl
theorem by53 : Try.prog.bytesOf 53 = 8 := by kernel_rfl
theorem td54 : tdOf Try.prog 54 = .ptr := by kernel_rfl
theorem sz54 : Try.prog.cellsOf 54 = 1 := by kernel_rfl
theorem by54 : Try.prog.bytesOf 54 = 8 := by kernel_rfl
theorem td55 : tdOf Try.prog 55 = .ptr := by kernel_rfl
theorem sz55 : Try.prog.cellsOf 55 = 1 := by kernel_rfl
theorem by55 : Try.prog.bytesOf 55 = 8 := by kernel_rfl
theorem td56 : tdOf Try.prog 56 = .slice 150 := by kernel_rfl
theorem sz56 : Try.prog.cellsOf 56 = 1 := by kernel_rfl
theorem by56 : Try.prog.bytesOf 56 = 24 := by kernel_rfl
theorem zr56 : zeroOf Try.prog 56 = some [.sl .nil 0 []] := by kernel_rfl
theorem td57 : tdOf Try.prog 57 = .ptr := by kernel_rfl
theorem sz57 : Try.prog.cellsOf 57 = 1 := by kernel_rfl
theorem by57 : Try.prog.bytesOf 57 = 8 := by kernel_rfl
theorem td58 : tdOf Try.prog 58 = .ptr := by kernel_rfl
theorem sz58 : Try.prog.cellsOf 58 = 1 := by kernel_rfl
theorem by58 : Try.prog.bytesOf 58 = 8 := by kernel_rfl
theorem td59 : tdOf Try.prog 59 = .slice 152 := by kernel_rfl
theorem sz59 : Try.prog.cellsOf 59 = 1 := by kernel_rfl
theorem by59 : Try.prog.bytesOf 59 = 24 := by kernel_rfl
theorem zr59 : zeroOf Try.prog 59 = some [.sl .nil 0 []] := by kernel_rfl
theorem td60 : tdOf Try.prog 60 = .ptr := by kernel_rfl
theorem sz60 : Try.prog.cellsOf 60 = 1 := by kernel_rfl
theorem by60 : Try.prog.bytesOf 60 = 8 := by kernel_rfl
theorem td61 : tdOf Try.prog 61 = .ptr := by kernel_rfl
theorem sz61 : Try.prog.cellsOf 61 = 1 := by kernel_rfl
theorem by61 : Try.prog.bytesOf 61 = 8 := by kernel_rfl
theorem td62 : tdOf Try.prog 62 = .ptr := by kernel_rfl
theorem sz62 : Try.prog.cellsOf 62 = 1 := by kernel_rfl
theorem by62 : Try.prog.bytesOf 62 = 8 := by kernel_rfl
theorem td63 : tdOf Try.prog 63 = .struct [(0, 1, 9), (1, 1, 9)] := by kernel_rfl
theorem sz63 : Try.prog.cellsOf 63 = 2 := by kernel_rfl
theorem by63 : Try.prog.bytesOf 63 = 32 := by kernel_rfl
theorem zr63 : zeroOf Try.prog 63 = some [.str [], .str []] := by kernel_rfl
theorem td64 : tdOf Try.prog 64 = .struct [(0, 1, 9), (1, 1, 9)] := by kernel_rfl
theorem sz64 : Try.prog.cellsOf 64 = 2 := by kernel_rfl
theorem by64 : Try.prog.bytesOf 64 = 32 := by kernel_rfl
theorem zr64 : zeroOf Try.prog 64 = some [.str [], .str []] := by kernel_rfl
theorem td65 : tdOf Try.prog 65 = .slice 67 := by kernel_rfl
theorem sz65 : Try.prog.cellsOf 65 = 1 := by kernel_rfl
theorem by65 : Try.prog.bytesOf 65 = 24 := by kernel_rfl
theorem zr65 : zeroOf Try.prog 65 = some [.sl .nil 0 []] := by kernel_rfl
theorem td66 : tdOf Try.prog 66 = .struct [(0, 1, 3), (1, 1, 9), (2, 1, 65), (3, 1, 22)] := by kernel_rfl
theorem sz66 : Try.prog.cellsOf 66 = 4 := by kernel_rfl
theorem by66 : Try.prog.bytesOf 66 = 72 := by kernel_rfl
theorem zr66 : zeroOf Try.prog 66 = some [.int .i64 0, .str [], .sl .nil 0 [], .sl .nil 0 []] := by kernel_rfl
theorem td67 : tdOf Try.prog 67 = .struct [(0, 1, 3), (1, 1, 9), (2, 1, 65), (3, 1, 22)] := by kernel_rfl
theorem sz67 : Try.prog.cellsOf 67 = 4 := by kernel_rfl
theorem by67 : Try.prog.bytesOf 67 = 72 := by kernel_rfl
theorem zr67 : zeroOf Try.prog 67 = some [.int .i64 0, .str [], .sl .nil 0 [], .sl .nil 0 []] := by kernel_rfl
theorem td68 : tdOf Try.prog 68 = .struct [(0, 1, 9), (1, 2, 64), (3, 1, 4), (4, 4, 67), (8, 1, 31)] := by kernel_rfl
theorem sz68 : Try.prog.cellsOf 68 = 9 := by kernel_rfl
theorem by68 : Try.prog.bytesOf 68 = 152 := by kernel_rfl
theorem zr68 : zeroOf Try.prog 68 = some [.str [], .str [], .str [], .bool false, .int .i64 0, .str [], .sl .nil 0 [], .sl .nil 0 [], .sl .nil 0 []] := by kernel_rfl
theorem td69 : tdOf Try.prog 69 = .struct [(0, 1, 9), (1, 2, 64), (3, 1, 4), (4, 4, 67), (8, 1, 31)] := by kernel_rfl
theorem sz69 : Try.prog.cellsOf 69 = 9 := by kernel_rfl
theorem by69 : Try.prog.bytesOf 69 = 152 := by kernel_rfl
theorem zr69 : zeroOf Try.prog 69 = some [.str [], .str [], .str [], .bool false, .int .i64 0, .str [], .sl .nil 0 [], .sl .nil 0 [], .sl .nil 0 []] := by kernel_rfl
theorem td70 : tdOf Try.prog 70 = .struct [(0, 1, 9), (1, 2, 64), (3, 1, 4), (4, 1, 4)] := by kernel_rfl
theorem sz70 : Try.prog.cellsOf 70 = 5 := by kernel_rfl
theorem by70 : Try.prog.bytesOf 70 = 56 := by kernel_rfl
theorem zr70 : zeroOf Try.prog 70 = some [.str [], .str [], .str [], .bool false, .bool false] := by kernel_rfl
theorem td71 : tdOf Try.prog 71 = .struct [(0, 1, 9), (1, 2, 64), (3, 1, 4), (4, 1, 4)] := by kernel_rfl
theorem sz71 : Try.prog.cellsOf 71 = 5 := by kernel_rfl
theorem by71 : Try.prog.bytesOf 71 = 56 := by kernel_rfl
theorem zr71 : zeroOf Try.prog 71 = some [.str [], .str [], .str [], .bool false, .bool false] := by kernel_rfl
theorem td72 : tdOf Try.prog 72 = .ptr := by kernel_rfl
theorem sz72 : Try.prog.cellsOf 72 = 1 := by kernel_rfl
theorem by72 : Try.prog.bytesOf 72 = 8 := by kernel_rfl
theorem td73 : tdOf Try.prog 73 = .ptr := by kernel_rfl
theorem sz73 : Try.prog.cellsOf 73 = 1 := by kernel_rfl
theorem by73 : Try.prog.bytesOf 73 = 8 := by kernel_rfl
theorem td74 : tdOf Try.prog 74 = .ptr := by kernel_rfl
theorem sz74 : Try.prog.cellsOf 74 = 1 := by kernel_rfl
theorem by74 : Try.prog.bytesOf 74 = 8 := by kernel_rfl
theorem td75 : tdOf Try.prog 75 = .struct [(0, 1, 9), (1, 1, 9)] := by kernel_rfl
theorem sz75 : Try.prog.cellsOf 75 = 2 := by kernel_rfl
theorem by75 : Try.prog.bytesOf 75 = 32 := by kernel_rfl
theorem zr75 : zeroOf Try.prog 75 = some [.str [], .str []] := by kernel_rfl
theorem td76 : tdOf Try.prog 76 = .slice 78 := by kernel_rfl
theorem sz76 : Try.prog.cellsOf 76 = 1 := by kernel_rfl
theorem by76 : Try.prog.bytesOf 76 = 24 := by kernel_rfl
theorem zr76 : zeroOf Try.prog 76 = some [.sl .nil 0 []] := by kernel_rfl
theorem td77 : tdOf Try.prog 77 = .struct [(0, 1, 3), (1, 1, 9), (2, 1, 76), (3, 1, 22)] := by kernel_rfl
theorem sz77 : Try.prog.cellsOf 77 = 4 := by kernel_rfl
theorem by77 : Try.prog.bytesOf 77 = 72 := by kernel_rfl
theorem zr77 : zeroOf Try.prog 77 = some [.int .i64 0, .str [], .sl .nil 0 [], .sl .nil 0 []] := by kernel_rfl
theorem td78 : tdOf Try.prog 78 = .struct [(0, 1, 3), (1, 1, 9), (2, 1, 76), (3, 1, 22)] := by kernel_rfl
theorem sz78 : Try.prog.cellsOf 78 = 4 := by kernel_rfl
theorem by78 : Try.prog.bytesOf 78 = 72 := by kernel_rfl
theorem zr78 : zeroOf Try.prog 78 = some [.int .i64 0, .str [], .sl .nil 0 [], .sl .nil 0 []] := by kernel_rfl
theorem td79 : tdOf Try.prog 79 = .struct [(0, 1, 9), (1, 2, 75), (3, 1, 4), (4, 4, 78), (8, 1, 35)] := by kernel_rfl
theorem sz79 : Try.prog.cellsOf 79 = 9 := by kernel_rfl
theorem by79 : Try.prog.bytesOf 79 = 152 := by kernel_rfl
theorem zr79 : zeroOf Try.prog 79 = some [.str [], .str [], .str [], .bool false, .int .i64 0, .str [], .sl .nil 0 [], .sl .nil 0 [], .sl .nil 0 []] := by kernel_rfl
theorem td80 : tdOf Try.prog 80 = .struct [(0, 1, 9), (1, 2, 75), (3, 1, 4), (4, 4, 78), (8, 1, 35)] := by kernel_rfl
theorem sz80 : Try.prog.cellsOf 80 = 9 := by kernel_rfl
theorem by80 : Try.prog.bytesOf 80 = 152 := by kernel_rfl
theorem zr80 : zeroOf Try.prog 80 = some [.str [], .str [], .str [], .bool false, .int .i64 0, .str [], .sl .nil 0 [], .sl .nil 0 [], .sl .nil 0 []] := by kernel_rfl
theorem td81 : tdOf Try.prog 81 = .ptr := by kernel_rfl
theorem sz81 : Try.prog.cellsOf 81 = 1 := by kernel_rfl
theorem by81 : Try.prog.bytesOf 81 = 8 := by kernel_rfl
theorem td82 : tdOf Try.prog 82 = .struct [(0, 1, 9), (1, 2, 75), (3, 1, 4), (4, 1, 4)] := by kernel_rfl
theorem sz82 : Try.prog.cellsOf 82 = 5 := by kernel_rfl
theorem by82 : Try.prog.bytesOf 82 = 56 := by kernel_rfl
theorem zr82 : zeroOf Try.prog 82 = some [.str [], .str [], .str [], .bool false, .bool false] := by kernel_rfl
theorem td83 : tdOf Try.prog 83 = .struct [(0, 1, 9), (1, 2, 75), (3, 1, 4), (4, 1, 4)] := by kernel_rfl
theorem sz83 : Try.prog.cellsOf 83 = 5 := by kernel_rfl
theorem by83 : Try.prog.bytesOf 83 = 56 := by kernel_rfl
theorem zr83 : zeroOf Try.prog 83 = some [.str [], .str [], .str [], .bool false, .bool false] := by kernel_rfl
theorem td84 : tdOf Try.prog 84 = .ptr := by kernel_rfl
theorem sz84 : Try.prog.cellsOf 84 = 1 := by kernel_rfl
theorem by84 : Try.prog.bytesOf 84 = 8 := by kernel_rfl
theorem td85 : tdOf Try.prog 85 = .ptr := by kernel_rfl
theorem sz85 : Try.prog.cellsOf 85 = 1 := by kernel_rfl
theorem by85 : Try.prog.bytesOf 85 = 8 := by kernel_rfl
theorem td86 : tdOf Try.prog 86 = .ptr := by kernel_rfl
theorem sz86 : Try.prog.cellsOf 86 = 1 := by kernel_rfl
theorem by86 : Try.prog.bytesOf 86 = 8 := by kernel_rfl
theorem td87 : tdOf Try.prog 87 = .ptr := by kernel_rfl
theorem sz87 : Try.prog.cellsOf 87 = 1 := by kernel_rfl
theorem by87 : Try.prog.bytesOf 87 = 8 := by kernel_rfl
theorem td88 : tdOf Try.prog 88 = .ptr := by kernel_rfl
theorem sz88 : Try.prog.cellsOf 88 = 1 := by kernel_rfl
theorem by88 : Try.prog.bytesOf 88 = 8 := by kernel_rfl
theorem td89 : tdOf Try.prog 89 = .ptr := by kernel_rfl
theorem sz89 : Try.prog.cellsOf 89 = 1 := by kernel_rfl
theorem by89 : Try.prog.bytesOf 89 = 8 := by kernel_rfl
theorem td90 : tdOf Try.prog 90 = .ptr := by kernel_rfl
theorem sz90 : Try.prog.cellsOf 90 = 1 := by kernel_rfl
theorem by90 : Try.prog.bytesOf 90 = 8 := by kernel_rfl
theorem td91 : tdOf Try.prog 91 = .ptr := by kernel_rfl
theorem sz91 : Try.prog.cellsOf 91 = 1 := by kernel_rfl
theorem by91 : Try.prog.bytesOf 91 = 8 := by kernel_rfl
theorem td92 : tdOf Try.prog 92 = .ptr := by kernel_rfl
theorem sz92 : Try.prog.cellsOf 92 = 1 := by kernel_rfl
theorem by92 : Try.prog.bytesOf 92 = 8 := by kernel_rfl
theorem td93 : tdOf Try.prog 93 = .slice 200 := by kernel_rfl
theorem sz93 : Try.prog.cellsOf 93 = 1 := by kernel_rfl
theorem by93 : Try.prog.bytesOf 93 = 24 := by kernel_rfl
theorem zr93 : zeroOf Try.prog 93 = some [.sl .nil 0 []] := by kernel_rfl
theorem td94 : tdOf Try.prog 94 = .slice 203 := by kernel_rfl
theorem sz94 : Try.prog.cellsOf 94 = 1 := by kernel_rfl
theorem by94 : Try.prog.bytesOf 94 = 24 := by kernel_rfl
theorem zr94 : zeroOf Try.prog 94 = some [.sl .nil 0 []] := by kernel_rfl
theorem td95 : tdOf Try.prog 95 = .struct [(0, 1, 93), (1, 1, 93), (2, 1, 94)] := by kernel_rfl
theorem sz95 : Try.prog.cellsOf 95 = 3 := by kernel_rfl
theorem by95 : Try.prog.bytesOf 95 = 72 := by kernel_rfl
theorem zr95 : zeroOf Try.prog 95 = some [.sl .nil 0 [], .sl .nil 0 [], .sl .nil 0 []] := by kernel_rfl
theorem td96 : tdOf Try.prog 96 = .struct [(0, 1, 93), (1, 1, 93), (2, 1, 94)] := by kernel_rfl
theorem sz96 : Try.prog.cellsOf 96 = 3 := by kernel_rfl
theorem by96 : Try.prog.bytesOf 96 = 72 := by kernel_rfl
theorem zr96 : zeroOf Try.prog 96 = some [.sl .nil 0 [], .sl .nil 0 [], .sl .nil 0 []] := by kernel_rfl
theorem td97 : tdOf Try.prog 97 = .ptr := by kernel_rfl
theorem sz97 : Try.prog.cellsOf 97 = 1 := by kernel_rfl
theorem by97 : Try.prog.bytesOf 97 = 8 := by kernel_rfl
theorem td98 : tdOf Try.prog 98 = .ptr := by kernel_rfl
theorem sz98 : Try.prog.cellsOf 98 = 1 := by kernel_rfl
theorem by98 : Try.prog.bytesOf 98 = 8 := by kernel_rfl
theorem td99 : tdOf Try.prog 99 = .ptr := by kernel_rfl
theorem sz99 : Try.prog.cellsOf 99 = 1 := by kernel_rfl
theorem by99 : Try.prog.bytesOf 99 = 8 := by kernel_rfl
theorem td100 : tdOf Try.prog 100 = .slice 209 := by kernel_rfl
theorem sz100 : Try.prog.cellsOf 100 = 1 := by kernel_rfl
theorem by100 : Try.prog.bytesOf 100 = 24 := by kernel_rfl
theorem zr100 : zeroOf Try.prog 100 = some [.sl .nil 0 []] := by kernel_rfl
theorem td101 : tdOf Try.prog 101 = .slice 211 := by kernel_rfl
theorem sz101 : Try.prog.cellsOf 101 = 1 := by kernel_rfl
theorem by101 : Try.prog.bytesOf 101 = 24 := by kernel_rfl
theorem zr101 : zeroOf Try.prog 101 = some [.sl .nil 0 []] := by kernel_rfl
theorem td102 : tdOf Try.prog 102 = .struct [(0, 1, 100), (1, 1, 100), (2, 1, 101)] := by kernel_rfl
theorem sz102 : Try.prog.cellsOf 102 = 3 := by kernel_rfl
theorem by102 : Try.prog.bytesOf 102 = 72 := by kernel_rfl
theorem zr102 : zeroOf Try.prog 102 = some [.sl .nil 0 [], .sl .nil 0 [], .sl .nil 0 []] := by kernel_rfl
theorem td103 : tdOf Try.prog 103 = .struct [(0, 1, 100), (1, 1, 100), (2, 1, 101)] := by kernel_rfl
theorem sz103 : Try.prog.cellsOf 103 = 3 := by kernel_rfl
theorem by103 : Try.prog.bytesOf 103 = 72 := by kernel_rfl
theorem zr103 : zeroOf Try.prog 103 = some [.sl .nil 0 [], .sl .nil 0 [], .sl .nil 0 []] := by kernel_rfl
theorem td104 : tdOf Try.prog 104 = .ptr := by kernel_rfl
theorem sz104 : Try.prog.cellsOf 104 = 1 := by kernel_rfl
theorem by104 : Try.prog.bytesOf 104 = 8 := by kernel_rfl
theorem td105 : tdOf Try.prog 105 = .ptr := by kernel_rfl
theorem sz105 : Try.prog.cellsOf 105 = 1 := by kernel_rfl
theorem by105 : Try.prog.bytesOf 105 = 8 := by kernel_rfl
theorem td106 : tdOf Try.prog 106 = .ptr := by kernel_rfl
theorem sz106 : Try.prog.cellsOf 106 = 1 := by kernel_rfl
theorem by106 : Try.prog.bytesOf 106 = 8 := by kernel_rfl
theorem td107 : tdOf Try.prog 107 = .ptr := by kernel_rfl
theorem sz107 : Try.prog.cellsOf 107 = 1 := by kernel_rfl
theorem by107 : Try.prog.bytesOf 107 = 8 := by kernel_rfl
theorem td108 : tdOf Try.prog 108 = .slice 69 := by kernel_rfl
theorem sz108 : Try.prog.cellsOf 108 = 1 := by kernel_rfl
theorem by108 : Try.prog.bytesOf 108 = 24 := by kernel_rfl
theorem zr108 : zeroOf Try.prog 108 = some [.sl .nil 0 []] := by kernel_rfl
theorem td109 : tdOf Try.prog 109 = .struct [(0, 1, 3), (1, 1, 9), (2, 1, 108), (3, 1, 31), (4, 1, 45)] := by kernel_rfl
theorem sz109 : Try.prog.cellsOf 109 = 5 := by kernel_rfl
theorem by109 : Try.prog.bytesOf 109 = 96 := by kernel_rfl
theorem zr109 : zeroOf Try.prog 109 = some [.int .i64 0, .str [], .sl .nil 0 [], .sl .nil 0 [], .sl .nil 0 []] := by kernel_rfl
theorem td110 : tdOf Try.prog 110 = .struct [(0, 1, 3), (1, 1, 9), (2, 1, 108), (3, 1, 31), (4, 1, 45)] := by kernel_rfl
theorem sz110 : Try.prog.cellsOf 110 = 5 := by kernel_rfl
theorem by110 : Try.prog.bytesOf 110 = 96 := by kernel_rfl
theorem zr110 : zeroOf Try.prog 110 = some [.int .i64 0, .str [], .sl .nil 0 [], .sl .nil 0 [], .sl .nil 0 []] := by kernel_rfl
theorem td111 : tdOf Try.prog 111 = .ptr := by kernel_rfl
theorem sz111 : Try.prog.cellsOf 111 = 1 := by kernel_rfl
theorem by111 : Try.prog.bytesOf 111 = 8 := by kernel_rfl
theorem td112 : tdOf Try.prog 112 = .ptr := by kernel_rfl
theorem sz112 : Try.prog.cellsOf 112 = 1 := by kernel_rfl
theorem by112 : Try.prog.bytesOf 112 = 8 := by kernel_rfl
theorem td113 : tdOf Try.prog 113 = .slice 80 := by kernel_rfl
theorem sz113 : Try.prog.cellsOf 113 = 1 := by kernel_rfl
theorem by113 : Try.prog.bytesOf 113 = 24 := by kernel_rfl
theorem zr113 : zeroOf Try.prog 113 = some [.sl .nil 0 []] := by kernel_rfl
theorem td114 : tdOf Try.prog 114 = .struct [(0, 1, 3), (1, 1, 9), (2, 1, 113), (3, 1, 35), (4, 1, 50)] := by kernel_rfl
theorem sz114 : Try.prog.cellsOf 114 = 5 := by kernel_rfl
theorem by114 : Try.prog.bytesOf 114 = 96 := by kernel_rfl
theorem zr114 : zeroOf Try.prog 114 = some [.int .i64 0, .str [], .sl .nil 0 [], .sl .nil 0 [], .sl .nil 0 []] := by kernel_rfl
theorem td115 : tdOf Try.prog 115 = .struct [(0, 1, 3), (1, 1, 9), (2, 1, 113), (3, 1, 35), (4, 1, 50)] := by kernel_rfl
theorem sz115 : Try.prog.cellsOf 115 = 5 := by kernel_rfl
theorem by115 : Try.prog.bytesOf 115 = 96 := by kernel_rfl
theorem zr115 : zeroOf Try.prog 115 = some [.int .i64 0, .str [], .sl .nil 0 [], .sl .nil 0 [], .sl .nil 0 []] := by kernel_rfl
theorem td116 : tdOf Try.prog 116 = .ptr := by kernel_rfl
theorem sz116 : Try.prog.cellsOf 116 = 1 := by kernel_rfl
theorem by116 : Try.prog.bytesOf 116 = 8 := by kernel_rfl
theorem td117 : tdOf Try.prog 117 = .ptr := by kernel_rfl
theorem sz117 : Try.prog.cellsOf 117 = 1 := by kernel_rfl
theorem by117 : Try.prog.bytesOf 117 = 8 := by kernel_rfl
theorem td118 : tdOf Try.prog 118 = .ptr := by kernel_rfl
theorem sz118 : Try.prog.cellsOf 118 = 1 := by kernel_rfl
theorem by118 : Try.prog.bytesOf 118 = 8 := by kernel_rfl
theorem td119 : tdOf Try.prog 119 = .ptr := by kernel_rfl
theorem sz119 : Try.prog.cellsOf 119 = 1 := by kernel_rfl
theorem by119 : Try.prog.bytesOf 119 = 8 := by kernel_rfl
theorem td120 : tdOf Try.prog 120 = .ptr := by kernel_rfl
theorem sz120 : Try.prog.cellsOf 120 = 1 := by kernel_rfl
theorem by120 : Try.prog.bytesOf 120 = 8 := by kernel_rfl
theorem td121 : tdOf Try.prog 121 = .ptr := by kernel_rfl
theorem sz121 : Try.prog.cellsOf 121 = 1 := by kernel_rfl
theorem by121 : Try.prog.bytesOf 121 = 8 := by kernel_rfl
theorem td122 : tdOf Try.prog 122 = .ptr := by kernel_rfl
theorem sz122 : Try.prog.cellsOf 122 = 1 := by kernel_rfl
theorem by122 : Try.prog.bytesOf 122 = 8 := by kernel_rfl
theorem td123 : tdOf Try.prog 123 = .struct [(0, 1, 3), (1, 1, 9), (2, 1, 9)] := by kernel_rfl
theorem sz123 : Try.prog.cellsOf 123 = 3 := by kernel_rfl
theorem by123 : Try.prog.bytesOf 123 = 40 := by kernel_rfl
theorem zr123 : zeroOf Try.prog 123 = some [.int .i64 0, .str [], .str []] := by kernel_rfl
theorem td124 : tdOf Try.prog 124 = .struct [(0, 1, 3), (1, 1, 9), (2, 1, 9)] := by kernel_rfl
theorem sz124 : Try.prog.cellsOf 124 = 3 := by kernel_rfl
theorem by124 : Try.prog.bytesOf 124 = 40 := by kernel_rfl
theorem zr124 : zeroOf Try.prog 124 = some [.int .i64 0, .str [], .str []] := by kernel_rfl
theorem td125 : tdOf Try.prog 125 = .ptr := by kernel_rfl
theorem sz125 : Try.prog.cellsOf 125 = 1 := by kernel_rfl
theorem by125 : Try.prog.bytesOf 125 = 8 := by kernel_rfl
theorem td126 : tdOf Try.prog 126 = .struct [(0, 1, 24)] := by kernel_rfl
theorem sz126 : Try.prog.cellsOf 126 = 1 := by kernel_rfl
theorem by126 : Try.prog.bytesOf 126 = 24 := by kernel_rfl
theorem zr126 : zeroOf Try.prog 126 = some [.sl .nil 0 []] := by kernel_rfl
theorem td127 : tdOf Try.prog 127 = .struct [(0, 1, 24)] := by kernel_rfl
theorem sz127 : Try.prog.cellsOf 127 = 1 := by kernel_rfl
theorem by127 : Try.prog.bytesOf 127 = 24 := by kernel_rfl
theorem zr127 : zeroOf Try.prog 127 = some [.sl .nil 0 []] := by kernel_rfl
theorem td128 : tdOf Try.prog 128 = .ptr := by kernel_rfl
theorem sz128 : Try.prog.cellsOf 128 = 1 := by kernel_rfl
theorem by128 : Try.prog.bytesOf 128 = 8 := by kernel_rfl
theorem td129 : tdOf Try.prog 129 = .ptr := by kernel_rfl
theorem sz129 : Try.prog.cellsOf 129 = 1 := by kernel_rfl
theorem by129 : Try.prog.bytesOf 129 = 8 := by kernel_rfl
theorem td130 : tdOf Try.prog 130 = .ptr := by kernel_rfl
theorem sz130 : Try.prog.cellsOf 130 = 1 := by kernel_rfl
theorem by130 : Try.prog.bytesOf 130 = 8 := by kernel_rfl
theorem td131 : tdOf Try.prog 131 = .ptr := by kernel_rfl
theorem sz131 : Try.prog.cellsOf 131 = 1 := by kernel_rfl
theorem by131 : Try.prog.bytesOf 131 = 8 := by kernel_rfl
theorem td132 : tdOf Try.prog 132 = .struct [(0, 1, 9), (1, 1, 39)] := by kernel_rfl
theorem sz132 : Try.prog.cellsOf 132 = 2 := by kernel_rfl
theorem by132 : Try.prog.bytesOf 132 = 40 := by kernel_rfl
theorem zr132 : zeroOf Try.prog 132 = some [.str [], .sl .nil 0 []] := by kernel_rfl
theorem td133 : tdOf Try.prog 133 = .struct [(0, 1, 9), (1, 1, 39)] := by kernel_rfl
theorem sz133 : Try.prog.cellsOf 133 = 2 := by kernel_rfl
theorem by133 : Try.prog.bytesOf 133 = 40 := by kernel_rfl
theorem zr133 : zeroOf Try.prog 133 = some [.str [], .sl .nil 0 []] := by kernel_rfl
theorem td134 : tdOf Try.prog 134 = .struct [(0, 1, 9), (1, 1, 42)] := by kernel_rfl
theorem sz134 : Try.prog.cellsOf 134 = 2 := by kernel_rfl
theorem by134 : Try.prog.bytesOf 134 = 40 := by kernel_rfl
theorem zr134 : zeroOf Try.prog 134 = some [.str [], .sl .nil 0 []] := by kernel_rfl
theorem td135 : tdOf Try.prog 135 = .struct [(0, 1, 9), (1, 1, 42)] := by kernel_rfl
theorem sz135 : Try.prog.cellsOf 135 = 2 := by kernel_rfl
theorem by135 : Try.prog.bytesOf 135 = 40 := by kernel_rfl
theorem zr135 : zeroOf Try.prog 135 = some [.str [], .sl .nil 0 []] := by kernel_rfl
theorem td136 : tdOf Try.prog 136 = .struct [(0, 1, 9), (1, 4, 78)] := by kernel_rfl
theorem sz136 : Try.prog.cellsOf 136 = 5 := by kernel_rfl
theorem by136 : Try.prog.bytesOf 136 = 88 := by kernel_rfl
theorem zr136 : zeroOf Try.prog 136 = some [.str [], .int .i64 0, .str [], .sl .nil 0 [], .sl .nil 0 []] := by kernel_rfl
theorem td137 : tdOf Try.prog 137 = .struct [(0, 1, 9), (1, 4, 78)] := by kernel_rfl
theorem sz137 : Try.prog.cellsOf 137 = 5 := by kernel_rfl
theorem by137 : Try.prog.bytesOf 137 = 88 := by kernel_rfl
theorem zr137 : zeroOf Try.prog 137 = some [.str [], .int .i64 0, .str [], .sl .nil 0 [], .sl .nil 0 []] := by kernel_rfl
theorem td138 : tdOf Try.prog 138 = .ptr := by kernel_rfl
theorem sz138 : Try.prog.cellsOf 138 = 1 := by kernel_rfl
theorem by138 : Try.prog.bytesOf 138 = 8 := by kernel_rfl
theorem td139 : tdOf Try.prog 139 = .ptr := by kernel_rfl
theorem sz139 : Try.prog.cellsOf 139 = 1 := by kernel_rfl
theorem by139 : Try.prog.bytesOf 139 = 8 := by kernel_rfl
theorem td140 : tdOf Try.prog 140 = .ptr := by kernel_rfl
theorem sz140 : Try.prog.cellsOf 140 = 1 := by kernel_rfl
theorem by140 : Try.prog.bytesOf 140 = 8 := by kernel_rfl
theorem td141 : tdOf Try.prog 141 = .struct [(0, 1, 9), (1, 4, 67)] := by kernel_rfl
theorem sz141 : Try.prog.cellsOf 141 = 5 := by kernel_rfl
theorem by141 : Try.prog.bytesOf 141 = 88 := by kernel_rfl
theorem zr141 : zeroOf Try.prog 141 = some [.str [], .int .i64 0, .str [], .sl .nil 0 [], .sl .nil 0 []] := by kernel_rfl
theorem td142 : tdOf Try.prog 142 = .struct [(0, 1, 9), (1, 4, 67)] := by kernel_rfl
theorem sz142 : Try.prog.cellsOf 142 = 5 := by kernel_rfl
theorem by142 : Try.prog.bytesOf 142 = 88 := by kernel_rfl
theorem zr142 : zeroOf Try.prog 142 = some [.str [], .int .i64 0, .str [], .sl .nil 0 [], .sl .nil 0 []] := by kernel_rfl
theorem td143 : tdOf Try.prog 143 = .ptr := by kernel_rfl
theorem sz143 : Try.prog.cellsOf 143 = 1 := by kernel_rfl
theorem by143 : Try.prog.bytesOf 143 = 8 := by kernel_rfl
theorem td144 : tdOf Try.prog 144 = .ptr := by kernel_rfl
theorem sz144 : Try.prog.cellsOf 144 = 1 := by kernel_rfl
theorem by144 : Try.prog.bytesOf 144 = 8 := by kernel_rfl
theorem td145 : tdOf Try.prog 145 = .ptr := by kernel_rfl
theorem sz145 : Try.prog.cellsOf 145 = 1 := by kernel_rfl
theorem by145 : Try.prog.bytesOf 145 = 8 := by kernel_rfl
theorem td146 : tdOf Try.prog 146 = .ptr := by kernel_rfl
theorem sz146 : Try.prog.cellsOf 146 = 1 := by kernel_rfl
theorem by146 : Try.prog.bytesOf 146 = 8 := by kernel_rfl
theorem td147 : tdOf Try.prog 147 = .ptr := by kernel_rfl
theorem sz147 : Try.prog.cellsOf 147 = 1 := by kernel_rfl
theorem by147 : Try.prog.bytesOf 147 = 8 := by kernel_rfl
theorem td148 : tdOf Try.prog 148 = .ptr := by kernel_rfl
theorem sz148 : Try.prog.cellsOf 148 = 1 := by kernel_rfl
theorem by148 : Try.prog.bytesOf 148 = 8 := by kernel_rfl
theorem td149 : tdOf Try.prog 149 = .struct [(0, 1, 9), (1, 1, 9), (2, 1, 31), (3, 1, 45)] := by kernel_rfl
theorem sz149 : Try.prog.cellsOf 149 = 4 := by kernel_rfl
theorem by149 : Try.prog.bytesOf 149 = 80 := by kernel_rfl
theorem zr149 : zeroOf Try.prog 149 = some [.str [], .str [], .sl .nil 0 [], .sl .nil 0 []] := by kernel_rfl
theorem td150 : tdOf Try.prog 150 = .struct [(0, 1, 9), (1, 1, 9), (2, 1, 31), (3, 1, 45)] := by kernel_rfl
theorem sz150 : Try.prog.cellsOf 150 = 4 := by kernel_rfl
theorem by150 : Try.prog.bytesOf 150 = 80 := by kernel_rfl
theorem zr150 : zeroOf Try.prog 150 = some [.str [], .str [], .sl .nil 0 [], .sl .nil 0 []] := by kernel_rfl
theorem td151 : tdOf Try.prog 151 = .struct [(0, 1, 9), (1, 1, 9), (2, 1, 35), (3, 1, 50)] := by kernel_rfl
theorem sz151 : Try.prog.cellsOf 151 = 4 := by kernel_rfl
theorem by151 : Try.prog.bytesOf 151 = 80 := by kernel_rfl
theorem zr151 : zeroOf Try.prog 151 = some [.str [], .str [], .sl .nil 0 [], .sl .nil 0 []] := by kernel_rfl
theorem td152 : tdOf Try.prog 152 = .struct [(0, 1, 9), (1, 1, 9), (2, 1, 35), (3, 1, 50)] := by kernel_rfl
theorem sz152 : Try.prog.cellsOf 152 = 4 := by kernel_rfl
theorem by152 : Try.prog.bytesOf 152 = 80 := by kernel_rfl
theorem zr152 : zeroOf Try.prog 152 = some [.str [], .str [], .sl .nil 0 [], .sl .nil 0 []] := by kernel_rfl
theorem td153 : tdOf Try.prog 153 = .ptr := by kernel_rfl
theorem sz153 : Try.prog.cellsOf 153 = 1 := by kernel_rfl
theorem by153 : Try.prog.bytesOf 153 = 8 := by kernel_rfl
theorem td154 : tdOf Try.prog 154 = .ptr := by kernel_rfl
theorem sz154 : Try.prog.cellsOf 154 = 1 := by kernel_rfl
theorem by154 : Try.prog.bytesOf 154 = 8 := by kernel_rfl
theorem td155 : tdOf Try.prog 155 = .ptr := by kernel_rfl
theorem sz155 : Try.prog.cellsOf 155 = 1 := by kernel_rfl
theorem by155 : Try.prog.bytesOf 155 = 8 := by kernel_rfl
theorem td156 : tdOf Try.prog 156 = .ptr := by kernel_rfl
theorem sz156 : Try.prog.cellsOf 156 = 1 := by kernel_rfl
theorem by156 : Try.prog.bytesOf 156 = 8 := by kernel_rfl
theorem td157 : tdOf Try.prog 157 = .ptr := by kernel_rfl
theorem sz157 : Try.prog.cellsOf 157 = 1 := by kernel_rfl
theorem by157 : Try.prog.bytesOf 157 = 8 := by kernel_rfl
theorem td158 : tdOf Try.prog 158 = .ptr := by kernel_rfl
theorem sz158 : Try.prog.cellsOf 158 = 1 := by kernel_rfl
theorem by158 : Try.prog.bytesOf 158 = 8 := by kernel_rfl
theorem td159 : tdOf Try.prog 159 = .ptr := by kernel_rfl
theorem sz159 : Try.prog.cellsOf 159 = 1 := by kernel_rfl
theorem by159 : Try.prog.bytesOf 159 = 8 := by kernel_rfl
theorem td160 : tdOf Try.prog 160 = .ptr := by kernel_rfl
theorem sz160 : Try.prog.cellsOf 160 = 1 := by kernel_rfl
theorem by160 : Try.prog.bytesOf 160 = 8 := by kernel_rfl
theorem td161 : tdOf Try.prog 161 = .ptr := by kernel_rfl
theorem sz161 : Try.prog.cellsOf 161 = 1 := by kernel_rfl
theorem by161 : Try.prog.bytesOf 161 = 8 := by kernel_rfl
theorem td162 : tdOf Try.prog 162 = .ptr := by kernel_rfl
theorem sz162 : Try.prog.cellsOf 162 = 1 := by kernel_rfl
theorem by162 : Try.prog.bytesOf 162 = 8 := by kernel_rfl
theorem td163 : tdOf Try.prog 163 = .ptr := by kernel_rfl
theorem sz163 : Try.prog.cellsOf 163 = 1 := by kernel_rfl
theorem by163 : Try.prog.bytesOf 163 = 8 := by kernel_rfl
theorem td164 : tdOf Try.prog 164 = .ptr := by kernel_rfl
theorem sz164 : Try.prog.cellsOf 164 = 1 := by kernel_rfl
theorem by164 : Try.prog.bytesOf 164 = 8 := by kernel_rfl
theorem td165 : tdOf Try.prog 165 = .ptr := by kernel_rfl
theorem sz165 : Try.prog.cellsOf 165 = 1 := by kernel_rfl
theorem by165 : Try.prog.bytesOf 165 = 8 := by kernel_rfl
theorem td166 : tdOf Try.prog 166 = .ptr := by kernel_rfl
theorem sz166 : Try.prog.cellsOf 166 = 1 := by kernel_rfl
theorem by166 : Try.prog.bytesOf 166 = 8 := by kernel_rfl
theorem td167 : tdOf Try.prog 167 = .ptr := by kernel_rfl
theorem sz167 : Try.prog.cellsOf 167 = 1 := by kernel_rfl
theorem by167 : Try.prog.bytesOf 167 = 8 := by kernel_rfl
theorem td168 : tdOf Try.prog 168 = .ptr := by kernel_rfl
theorem sz168 : Try.prog.cellsOf 168 = 1 := by kernel_rfl
theorem by168 : Try.prog.bytesOf 168 = 8 := by kernel_rfl
theorem td169 : tdOf Try.prog 169 = .ptr := by kernel_rfl
theorem sz169 : Try.prog.cellsOf 169 = 1 := by kernel_rfl
theorem by169 : Try.prog.bytesOf 169 = 8 := by kernel_rfl
theorem td170 : tdOf Try.prog 170 = .ptr := by kernel_rfl
theorem sz170 : Try.prog.cellsOf 170 = 1 := by kernel_rfl
theorem by170 : Try.prog.bytesOf 170 = 8 := by kernel_rfl
theorem td171 : tdOf Try.prog 171 = .ptr := by kernel_rfl
theorem sz171 : Try.prog.cellsOf 171 = 1 := by kernel_rfl
theorem by171 : Try.prog.bytesOf 171 = 8 := by kernel_rfl
theorem td172 : tdOf Try.prog 172 = .ptr := by kernel_rfl
theorem sz172 : Try.prog.cellsOf 172 = 1 := by kernel_rfl
theorem by172 : Try.prog.bytesOf 172 = 8 := by kernel_rfl
theorem td173 : tdOf Try.prog 173 = .ptr := by kernel_rfl
theorem sz173 : Try.prog.cellsOf 173 = 1 := by kernel_rfl
theorem by173 : Try.prog.bytesOf 173 = 8 := by kernel_rfl
theorem td174 : tdOf Try.prog 174 = .ptr := by kernel_rfl
theorem sz174 : Try.prog.cellsOf 174 = 1 := by kernel_rfl
theorem by174 : Try.prog.bytesOf 174 = 8 := by kernel_rfl
theorem td175 : tdOf Try.prog 175 = .ptr := by kernel_rfl
theorem sz175 : Try.prog.cellsOf 175 = 1 := by kernel_rfl
theorem by175 : Try.prog.bytesOf 175 = 8 := by kernel_rfl
theorem td176 : tdOf Try.prog 176 = .ptr := by kernel_rfl
theorem sz176 : Try.prog.cellsOf 176 = 1 := by kernel_rfl
theorem by176 : Try.prog.bytesOf 176 = 8 := by kernel_rfl
theorem td177 : tdOf Try.prog 177 = .ptr := by kernel_rfl
theorem sz177 : Try.prog.cellsOf 177 = 1 := by kernel_rfl
theorem by177 : Try.prog.bytesOf 177 = 8 := by kernel_rfl
theorem td178 : tdOf Try.prog 178 = .ptr := by kernel_rfl
theorem sz178 : Try.prog.cellsOf 178 = 1 := by kernel_rfl
theorem by178 : Try.prog.bytesOf 178 = 8 := by kernel_rfl
theorem td179 : tdOf Try.prog 179 = .ptr := by kernel_rfl
theorem sz179 : Try.prog.cellsOf 179 = 1 := by kernel_rfl
theorem by179 : Try.prog.bytesOf 179 = 8 := by kernel_rfl
theorem td180 : tdOf Try.prog 180 = .ptr := by kernel_rfl
theorem sz180 : Try.prog.cellsOf 180 = 1 := by kernel_rfl
theorem by180 : Try.prog.bytesOf 180 = 8 := by kernel_rfl
theorem td181 : tdOf Try.prog 181 = .slice 5 := by kernel_rfl
theorem sz181 : Try.prog.cellsOf 181 = 1 := by kernel_rfl
theorem by181 : Try.prog.bytesOf 181 = 24 := by kernel_rfl
theorem zr181 : zeroOf Try.prog 181 = some [.sl .nil 0 []] := by kernel_rfl
theorem td182 : tdOf Try.prog 182 = .ptr := by kernel_rfl
theorem sz182 : Try.prog.cellsOf 182 = 1 := by kernel_rfl
theorem by182 : Try.prog.bytesOf 182 = 8 := by kernel_rfl
theorem td183 : tdOf Try.prog 183 = .ptr := by kernel_rfl
theorem sz183 : Try.prog.cellsOf 183 = 1 := by kernel_rfl
theorem by183 : Try.prog.bytesOf 183 = 8 := by kernel_rfl
theorem td184 : tdOf Try.prog 184 = .ptr := by kernel_rfl
theorem sz184 : Try.prog.cellsOf 184 = 1 := by kernel_rfl
theorem by184 : Try.prog.bytesOf 184 = 8 := by kernel_rfl
theorem td185 : tdOf Try.prog 185 = .ptr := by kernel_rfl
theorem sz185 : Try.prog.cellsOf 185 = 1 := by kernel_rfl
theorem by185 : Try.prog.bytesOf 185 = 8 := by kernel_rfl
theorem td186 : tdOf Try.prog 186 = .ptr := by kernel_rfl
theorem sz186 : Try.prog.cellsOf 186 = 1 := by kernel_rfl
theorem by186 : Try.prog.bytesOf 186 = 8 := by kernel_rfl
theorem td187 : tdOf Try.prog 187 = .ptr := by kernel_rfl
theorem sz187 : Try.prog.cellsOf 187 = 1 := by kernel_rfl
theorem by187 : Try.prog.bytesOf 187 = 8 := by kernel_rfl
theorem td189 : tdOf Try.prog 189 = .ptr := by kernel_rfl
theorem sz189 : Try.prog.cellsOf 189 = 1 := by kernel_rfl
theorem by189 : Try.prog.bytesOf 189 = 8 := by kernel_rfl
theorem td190 : tdOf Try.prog 190 = .ptr := by kernel_rfl
theorem sz190 : Try.prog.cellsOf 190 = 1 := by kernel_rfl
theorem by190 : Try.prog.bytesOf 190 = 8 := by kernel_rfl
theorem td191 : tdOf Try.prog 191 = .ptr := by kernel_rfl
theorem sz191 : Try.prog.cellsOf 191 = 1 := by kernel_rfl
theorem by191 : Try.prog.bytesOf 191 = 8 := by kernel_rfl
theorem td192 : tdOf Try.prog 192 = .ptr := by kernel_rfl
theorem sz192 : Try.prog.cellsOf 192 = 1 := by kernel_rfl
theorem by192 : Try.prog.bytesOf 192 = 8 := by kernel_rfl
theorem td193 : tdOf Try.prog 193 = .ptr := by kernel_rfl
theorem sz193 : Try.prog.cellsOf 193 = 1 := by kernel_rfl
theorem by193 : Try.prog.bytesOf 193 = 8 := by kernel_rfl
theorem td194 : tdOf Try.prog 194 = .ptr := by kernel_rfl
theorem sz194 : Try.prog.cellsOf 194 = 1 := by kernel_rfl
theorem by194 : Try.prog.bytesOf 194 = 8 := by kernel_rfl
theorem td195 : tdOf Try.prog 195 = .ptr := by kernel_rfl
theorem sz195 : Try.prog.cellsOf 195 = 1 := by kernel_rfl
theorem by195 : Try.prog.bytesOf 195 = 8 := by kernel_rfl
theorem td196 : tdOf Try.prog 196 = .slice 248 := by kernel_rfl
theorem sz196 : Try.prog.cellsOf 196 = 1 := by kernel_rfl
theorem by196 : Try.prog.bytesOf 196 = 24 := by kernel_rfl
theorem zr196 : zeroOf Try.prog 196 = some [.sl .nil 0 []] := by kernel_rfl
theorem td197 : tdOf Try.prog 197 = .slice 251 := by kernel_rfl
theorem sz197 : Try.prog.cellsOf 197 = 1 := by kernel_rfl
theorem by197 : Try.prog.bytesOf 197 = 24 := by kernel_rfl
theorem zr197 : zeroOf Try.prog 197 = some [.sl .nil 0 []] := by kernel_rfl
theorem td198 : tdOf Try.prog 198 = .slice 254 := by kernel_rfl
theorem sz198 : Try.prog.cellsOf 198 = 1 := by kernel_rfl
theorem by198 : Try.prog.bytesOf 198 = 24 := by kernel_rfl
theorem zr198 : zeroOf Try.prog 198 = some [.sl .nil 0 []] := by kernel_rfl
theorem td199 : tdOf Try.prog 199 = .struct [(0, 1, 3), (1, 1, 4), (2, 1, 9), (3, 1, 9), (4, 1, 22), (5, 1, 196), (6, 1, 197), (7, 1, 198), (8, 1, 94), (9, 1, 4), (10, 1, 31)] := by kernel_rfl
theorem sz199 : Try.prog.cellsOf 199 = 11 := by kernel_rfl
theorem by199 : Try.prog.bytesOf 199 = 200 := by kernel_rfl
theorem zr199 : zeroOf Try.prog 199 = some [.int .i64 0, .bool false, .str [], .str [], .sl .nil 0 [], .sl .nil 0 [], .sl .nil 0 [], .sl .nil 0 [], .sl .nil 0 [], .bool false, .sl .nil 0 []] := by kernel_rfl
theorem td200 : tdOf Try.prog 200 = .struct [(0, 1, 3), (1, 1, 4), (2, 1, 9), (3, 1, 9), (4, 1, 22), (5, 1, 196), (6, 1, 197), (7, 1, 198), (8, 1, 94), (9, 1, 4), (10, 1, 31)] := by kernel_rfl
theorem sz200 : Try.prog.cellsOf 200 = 11 := by kernel_rfl
theorem by200 : Try.prog.bytesOf 200 = 200 := by kernel_rfl
theorem zr200 : zeroOf Try.prog 200 = some [.int .i64 0, .bool false, .str [], .str [], .sl .nil 0 [], .sl .nil 0 [], .sl .nil 0 [], .sl .nil 0 [], .sl .nil 0 [], .bool false, .sl .nil 0 []] := by kernel_rfl
theorem td201 : tdOf Try.prog 201 = .ptr := by kernel_rfl
theorem sz201 : Try.prog.cellsOf 201 = 1 := by kernel_rfl
theorem by201 : Try.prog.bytesOf 201 = 8 := by kernel_rfl
theorem td202 : tdOf Try.prog 202 = .struct [(0, 1, 3), (1, 1, 9)] := by kernel_rfl
theorem sz202 : Try.prog.cellsOf 202 = 2 := by kernel_rfl
theorem by202 : Try.prog.bytesOf 202 = 24 := by kernel_rfl
theorem zr202 : zeroOf Try.prog 202 = some [.int .i64 0, .str []] := by kernel_rfl
theorem td203 : tdOf Try.prog 203 = .struct [(0, 1, 3), (1, 1, 9)] := by kernel_rfl
theorem sz203 : Try.prog.cellsOf 203 = 2 := by kernel_rfl
theorem by203 : Try.prog.bytesOf 203 = 24 := by kernel_rfl
theorem zr203 : zeroOf Try.prog 203 = some [.int .i64 0, .str []] := by kernel_rfl
theorem td204 : tdOf Try.prog 204 = .ptr := by kernel_rfl
theorem sz204 : Try.prog.cellsOf 204 = 1 := by kernel_rfl
theorem by204 : Try.prog.bytesOf 204 = 8 := by kernel_rfl
theorem td205 : tdOf Try.prog 205 = .slice 256 := by kernel_rfl
theorem sz205 : Try.prog.cellsOf 205 = 1 := by kernel_rfl
theorem by205 : Try.prog.bytesOf 205 = 24 := by kernel_rfl
theorem zr205 : zeroOf Try.prog 205 = some [.sl .nil 0 []] := by kernel_rfl
theorem td206 : tdOf Try.prog 206 = .slice 259 := by kernel_rfl
theorem sz206 : Try.prog.cellsOf 206 = 1 := by kernel_rfl
theorem by206 : Try.prog.bytesOf 206 = 24 := by kernel_rfl
theorem zr206 : zeroOf Try.prog 206 = some [.sl .nil 0 []] := by kernel_rfl
theorem td207 : tdOf Try.prog 207 = .slice 262 := by kernel_rfl
theorem sz207 : Try.prog.cellsOf 207 = 1 := by kernel_rfl
theorem by207 : Try.prog.bytesOf 207 = 24 := by kernel_rfl
theorem zr207 : zeroOf Try.prog 207 = some [.sl .nil 0 []] := by kernel_rfl
theorem td208 : tdOf Try.prog 208 = .struct [(0, 1, 3), (1, 1, 4), (2, 1, 9), (3, 1, 9), (4, 1, 22), (5, 1, 205), (6, 1, 206), (7, 1, 207), (8, 1, 101), (9, 1, 4), (10, 1, 35)] := by kernel_rfl
theorem sz208 : Try.prog.cellsOf 208 = 11 := by kernel_rfl
theorem by208 : Try.prog.bytesOf 208 = 200 := by kernel_rfl
theorem zr208 : zeroOf Try.prog 208 = some [.int .i64 0, .bool false, .str [], .str [], .sl .nil 0 [], .sl .nil 0 [], .sl .nil 0 [], .sl .nil 0 [], .sl .nil 0 [], .bool false, .sl .nil 0 []] := by kernel_rfl
theorem td209 : tdOf Try.prog 209 = .struct [(0, 1, 3), (1, 1, 4), (2, 1, 9), (3, 1, 9), (4, 1, 22), (5, 1, 205), (6, 1, 206), (7, 1, 207), (8, 1, 101), (9, 1, 4), (10, 1, 35)] := by kernel_rfl
theorem sz209 : Try.prog.cellsOf 209 = 11 := by kernel_rfl
theorem by209 : Try.prog.bytesOf 209 = 200 := by kernel_rfl
theorem zr209 : zeroOf Try.prog 209 = some [.int .i64 0, .bool false, .str [], .str [], .sl .nil 0 [], .sl .nil 0 [], .sl .nil 0 [], .sl .nil 0 [], .sl .nil 0 [], .bool false, .sl .nil 0 []] := by kernel_rfl
theorem td210 : tdOf Try.prog 210 = .ptr := by kernel_rfl
theorem sz210 : Try.prog.cellsOf 210 = 1 := by kernel_rfl
theorem by210 : Try.prog.bytesOf 210 = 8 := by kernel_rfl
theorem td211 : tdOf Try.prog 211 = .struct [(0, 1, 3), (1, 1, 9)] := by kernel_rfl
theorem sz211 : Try.prog.cellsOf 211 = 2 := by kernel_rfl
theorem by211 : Try.prog.bytesOf 211 = 24 := by kernel_rfl
theorem zr211 : zeroOf Try.prog 211 = some [.int .i64 0, .str []] := by kernel_rfl
theorem td212 : tdOf Try.prog 212 = .ptr := by kernel_rfl
theorem sz212 : Try.prog.cellsOf 212 = 1 := by kernel_rfl
theorem by212 : Try.prog.bytesOf 212 = 8 := by kernel_rfl
theorem td213 : tdOf Try.prog 213 = .ptr := by kernel_rfl
theorem sz213 : Try.prog.cellsOf 213 = 1 := by kernel_rfl
theorem by213 : Try.prog.bytesOf 213 = 8 := by kernel_rfl
theorem td214 : tdOf Try.prog 214 = .ptr := by kernel_rfl
theorem sz214 : Try.prog.cellsOf 214 = 1 := by kernel_rfl
theorem by214 : Try.prog.bytesOf 214 = 8 := by kernel_rfl
theorem td215 : tdOf Try.prog 215 = .ptr := by kernel_rfl
theorem sz215 : Try.prog.cellsOf 215 = 1 := by kernel_rfl
theorem by215 : Try.prog.bytesOf 215 = 8 := by kernel_rfl
theorem td216 : tdOf Try.prog 216 = .ptr := by kernel_rfl
theorem sz216 : Try.prog.cellsOf 216 = 1 := by kernel_rfl
theorem by216 : Try.prog.bytesOf 216 = 8 := by kernel_rfl
theorem td217 : tdOf Try.prog 217 = .int .u64 := by kernel_rfl
theorem sz217 : Try.prog.cellsOf 217 = 1 := by kernel_rfl
theorem by217 : Try.prog.bytesOf 217 = 8 := by kernel_rfl
theorem zr217 : zeroOf Try.prog 217 = some [.int .u64 0] := by kernel_rfl
theorem td218 : tdOf Try.prog 218 = .ptr := by kernel_rfl
theorem sz218 : Try.prog.cellsOf 218 = 1 := by kernel_rfl
theorem by218 : Try.prog.bytesOf 218 = 8 := by kernel_rfl
theorem td219 : tdOf Try.prog 219 = .ptr := by kernel_rfl
theorem sz219 : Try.prog.cellsOf 219 = 1 := by kernel_rfl
theorem by219 : Try.prog.bytesOf 219 = 8 := by kernel_rfl
theorem td220 : tdOf Try.prog 220 = .ptr := by kernel_rfl
theorem sz220 : Try.prog.cellsOf 220 = 1 := by kernel_rfl
theorem by220 : Try.prog.bytesOf 220 = 8 := by kernel_rfl
theorem td221 : tdOf Try.prog 221 = .ptr := by kernel_rfl
theorem sz221 : Try.prog.cellsOf 221 = 1 := by kernel_rfl
theorem by221 : Try.prog.bytesOf 221 = 8 := by kernel_rfl
theorem td222 : tdOf Try.prog 222 = .ptr := by kernel_rfl
theorem sz222 : Try.prog.cellsOf 222 = 1 := by kernel_rfl
theorem by222 : Try.prog.bytesOf 222 = 8 := by kernel_rfl
theorem td223 : tdOf Try.prog 223 = .ptr := by kernel_rfl
theorem sz223 : Try.prog.cellsOf 223 = 1 := by kernel_rfl
theorem by223 : Try.prog.bytesOf 223 = 8 := by kernel_rfl
theorem td224 : tdOf Try.prog 224 = .ptr := by kernel_rfl
theorem sz224 : Try.prog.cellsOf 224 = 1 := by kernel_rfl
theorem by224 : Try.prog.bytesOf 224 = 8 := by kernel_rfl
theorem td225 : tdOf Try.prog 225 = .ptr := by kernel_rfl
theorem sz225 : Try.prog.cellsOf 225 = 1 := by kernel_rfl
theorem by225 : Try.prog.bytesOf 225 = 8 := by kernel_rfl
theorem td226 : tdOf Try.prog 226 = .ptr := by kernel_rfl
theorem sz226 : Try.prog.cellsOf 226 = 1 := by kernel_rfl
theorem by226 : Try.prog.bytesOf 226 = 8 := by kernel_rfl
theorem td227 : tdOf Try.prog 227 = .ptr := by kernel_rfl
theorem sz227 : Try.prog.cellsOf 227 = 1 := by kernel_rfl
theorem by227 : Try.prog.bytesOf 227 = 8 := by kernel_rfl
theorem td229 : tdOf Try.prog 229 = .ptr := by kernel_rfl
theorem sz229 : Try.prog.cellsOf 229 = 1 := by kernel_rfl
theorem by229 : Try.prog.bytesOf 229 = 8 := by kernel_rfl
theorem td230 : tdOf Try.prog 230 = .ptr := by kernel_rfl
theorem sz230 : Try.prog.cellsOf 230 = 1 := by kernel_rfl
theorem by230 : Try.prog.bytesOf 230 = 8 := by kernel_rfl
theorem td231 : tdOf Try.prog 231 = .ptr := by kernel_rfl
theorem sz231 : Try.prog.cellsOf 231 = 1 := by kernel_rfl
theorem by231 : Try.prog.bytesOf 231 = 8 := by kernel_rfl
theorem td232 : tdOf Try.prog 232 = .ptr := by kernel_rfl
theorem sz232 : Try.prog.cellsOf 232 = 1 := by kernel_rfl
theorem by232 : Try.prog.bytesOf 232 = 8 := by kernel_rfl
theorem td233 : tdOf Try.prog 233 = .ptr := by kernel_rfl
theorem sz233 : Try.prog.cellsOf 233 = 1 := by kernel_rfl
theorem by233 : Try.prog.bytesOf 233 = 8 := by kernel_rfl
theorem td234 : tdOf Try.prog 234 = .int .i64 := by kernel_rfl
theorem sz234 : Try.prog.cellsOf 234 = 1 := by kernel_rfl
theorem by234 : Try.prog.bytesOf 234 = 8 := by kernel_rfl
theorem zr234 : zeroOf Try.prog 234 = some [.int .i64 0] := by kernel_rfl
theorem td236 : tdOf Try.prog 236 = .ptr := by kernel_rfl
theorem sz236 : Try.prog.cellsOf 236 = 1 := by kernel_rfl
theorem by236 : Try.prog.bytesOf 236 = 8 := by kernel_rfl
theorem td237 : tdOf Try.prog 237 = .ptr := by kernel_rfl
theorem sz237 : Try.prog.cellsOf 237 = 1 := by kernel_rfl
theorem by237 : Try.prog.bytesOf 237 = 8 := by kernel_rfl
theorem td238 : tdOf Try.prog 238 = .ptr := by kernel_rfl
theorem sz238 : Try.prog.cellsOf 238 = 1 := by kernel_rfl
theorem by238 : Try.prog.bytesOf 238 = 8 := by kernel_rfl
theorem td240 : tdOf Try.prog 240 = .ptr := by kernel_rfl
theorem sz240 : Try.prog.cellsOf 240 = 1 := by kernel_rfl
theorem by240 : Try.prog.bytesOf 240 = 8 := by kernel_rfl
theorem td241 : tdOf Try.prog 241 = .ptr := by kernel_rfl
theorem sz241 : Try.prog.cellsOf 241 = 1 := by kernel_rfl
theorem by241 : Try.prog.bytesOf 241 = 8 := by kernel_rfl
theorem td242 : tdOf Try.prog 242 = .int .u32 := by kernel_rfl
theorem sz242 : Try.prog.cellsOf 242 = 1 := by kernel_rfl
theorem by242 : Try.prog.bytesOf 242 = 4 := by kernel_rfl
theorem zr242 : zeroOf Try.prog 242 = some [.int .u32 0] := by kernel_rfl
theorem td243 : tdOf Try.prog 243 = .ptr := by kernel_rfl
theorem sz243 : Try.prog.cellsOf 243 = 1 := by kernel_rfl
theorem by243 : Try.prog.bytesOf 243 = 8 := by kernel_rfl
theorem td244 : tdOf Try.prog 244 = .int .u64 := by kernel_rfl
theorem sz244 : Try.prog.cellsOf 244 = 1 := by kernel_rfl
theorem by244 : Try.prog.bytesOf 244 = 8 := by kernel_rfl
theorem zr244 : zeroOf Try.prog 244 = some [.int .u64 0] := by kernel_rfl
theorem td245 : tdOf Try.prog 245 = .ptr := by kernel_rfl
theorem sz245 : Try.prog.cellsOf 245 = 1 := by kernel_rfl
theorem by245 : Try.prog.bytesOf 245 = 8 := by kernel_rfl
theorem td246 : tdOf Try.prog 246 = .ptr := by kernel_rfl
theorem sz246 : Try.prog.cellsOf 246 = 1 := by kernel_rfl
theorem by246 : Try.prog.bytesOf 246 = 8 := by kernel_rfl
theorem td247 : tdOf Try.prog 247 = .struct [(0, 1, 9), (1, 1, 9), (2, 1, 197), (3, 2, 64), (5, 1, 31)] := by kernel_rfl
theorem sz247 : Try.prog.cellsOf 247 = 6 := by kernel_rfl
theorem by247 : Try.prog.bytesOf 247 = 112 := by kernel_rfl
theorem zr247 : zeroOf Try.prog 247 = some [.str [], .str [], .sl .nil 0 [], .str [], .str [], .sl .nil 0 []] := by kernel_rfl
theorem td248 : tdOf Try.prog 248 = .struct [(0, 1, 9), (1, 1, 9), (2, 1, 197), (3, 2, 64), (5, 1, 31)] := by kernel_rfl
theorem sz248 : Try.prog.cellsOf 248 = 6 := by kernel_rfl
theorem by248 : Try.prog.bytesOf 248 = 112 := by kernel_rfl
theorem zr248 : zeroOf Try.prog 248 = some [.str [], .str [], .sl .nil 0 [], .str [], .str [], .sl .nil 0 []] := by kernel_rfl
theorem td249 : tdOf Try.prog 249 = .ptr := by kernel_rfl
theorem sz249 : Try.prog.cellsOf 249 = 1 := by kernel_rfl
theorem by249 : Try.prog.bytesOf 249 = 8 := by kernel_rfl
theorem td250 : tdOf Try.prog 250 = .struct [(0, 1, 9), (1, 1, 9), (2, 2, 64), (4, 1, 4), (5, 4, 67), (9, 1, 31)] := by kernel_rfl
theorem sz250 : Try.prog.cellsOf 250 = 10 := by kernel_rfl
theorem by250 : Try.prog.bytesOf 250 = 168 := by kernel_rfl
theorem zr250 : zeroOf Try.prog 250 = some [.str [], .str [], .str [], .str [], .bool false, .int .i64 0, .str [], .sl .nil 0 [], .sl .nil 0 [], .sl .nil 0 []] := by kernel_rfl
theorem td251 : tdOf Try.prog 251 = .struct [(0, 1, 9), (1, 1, 9), (2, 2, 64), (4, 1, 4), (5, 4, 67), (9, 1, 31)] := by kernel_rfl
theorem sz251 : Try.prog.cellsOf 251 = 10 := by kernel_rfl
theorem by251 : Try.prog.bytesOf 251 = 168 := by kernel_rfl
theorem zr251 : zeroOf Try.prog 251 = some [.str [], .str [], .str [], .str [], .bool false, .int .i64 0, .str [], .sl .nil 0 [], .sl .nil 0 [], .sl .nil 0 []] := by kernel_rfl
theorem td252 : tdOf Try.prog 252 = .ptr := by kernel_rfl
theorem sz252 : Try.prog.cellsOf 252 = 1 := by kernel_rfl
theorem by252 : Try.prog.bytesOf 252 = 8 := by kernel_rfl
theorem td253 : tdOf Try.prog 253 = .struct [(0, 1, 9), (1, 1, 9), (2, 1, 31)] := by kernel_rfl
theorem sz253 : Try.prog.cellsOf 253 = 3 := by kernel_rfl
theorem by253 : Try.prog.bytesOf 253 = 56 := by kernel_rfl
theorem zr253 : zeroOf Try.prog 253 = some [.str [], .str [], .sl .nil 0 []] := by kernel_rfl
theorem td254 : tdOf Try.prog 254 = .struct [(0, 1, 9), (1, 1, 9), (2, 1, 31)] := by kernel_rfl
theorem sz254 : Try.prog.cellsOf 254 = 3 := by kernel_rfl
theorem by254 : Try.prog.bytesOf 254 = 56 := by kernel_rfl
theorem zr254 : zeroOf Try.prog 254 = some [.str [], .str [], .sl .nil 0 []] := by kernel_rfl
theorem td255 : tdOf Try.prog 255 = .struct [(0, 1, 9), (1, 1, 9), (2, 1, 206), (3, 2, 75), (5, 1, 35)] := by kernel_rfl
theorem sz255 : Try.prog.cellsOf 255 = 6 := by kernel_rfl
theorem by255 : Try.prog.bytesOf 255 = 112 := by kernel_rfl
theorem zr255 : zeroOf Try.prog 255 = some [.str [], .str [], .sl .nil 0 [], .str [], .str [], .sl .nil 0 []] := by kernel_rfl
theorem td256 : tdOf Try.prog 256 = .struct [(0, 1, 9), (1, 1, 9), (2, 1, 206), (3, 2, 75), (5, 1, 35)] := by kernel_rfl
theorem sz256 : Try.prog.cellsOf 256 = 6 := by kernel_rfl
theorem by256 : Try.prog.bytesOf 256 = 112 := by kernel_rfl
theorem zr256 : zeroOf Try.prog 256 = some [.str [], .str [], .sl .nil 0 [], .str [], .str [], .sl .nil 0 []] := by kernel_rfl
theorem td257 : tdOf Try.prog 257 = .ptr := by kernel_rfl
theorem sz257 : Try.prog.cellsOf 257 = 1 := by kernel_rfl
theorem by257 : Try.prog.bytesOf 257 = 8 := by kernel_rfl
theorem td258 : tdOf Try.prog 258 = .struct [(0, 1, 9), (1, 1, 9), (2, 2, 75), (4, 1, 4), (5, 4, 78), (9, 1, 35)] := by kernel_rfl
theorem sz258 : Try.prog.cellsOf 258 = 10 := by kernel_rfl
theorem by258 : Try.prog.bytesOf 258 = 168 := by kernel_rfl
theorem zr258 : zeroOf Try.prog 258 = some [.str [], .str [], .str [], .str [], .bool false, .int .i64 0, .str [], .sl .nil 0 [], .sl .nil 0 [], .sl .nil 0 []] := by kernel_rfl
theorem td259 : tdOf Try.prog 259 = .struct [(0, 1, 9), (1, 1, 9), (2, 2, 75), (4, 1, 4), (5, 4, 78), (9, 1, 35)] := by kernel_rfl
theorem sz259 : Try.prog.cellsOf 259 = 10 := by kernel_rfl
theorem by259 : Try.prog.bytesOf 259 = 168 := by kernel_rfl
theorem zr259 : zeroOf Try.prog 259 = some [.str [], .str [], .str [], .str [], .bool false, .int .i64 0, .str [], .sl .nil 0 [], .sl .nil 0 [], .sl .nil 0 []] := by kernel_rfl
theorem td260 : tdOf Try.prog 260 = .ptr := by kernel_rfl
theorem sz260 : Try.prog.cellsOf 260 = 1 := by kernel_rfl
theorem by260 : Try.prog.bytesOf 260 = 8 := by kernel_rfl
theorem td261 : tdOf Try.prog 261 = .struct [(0, 1, 9), (1, 1, 9), (2, 1, 35)] := by kernel_rfl
theorem sz261 : Try.prog.cellsOf 261 = 3 := by kernel_rfl
theorem by261 : Try.prog.bytesOf 261 = 56 := by kernel_rfl
theorem zr261 : zeroOf Try.prog 261 = some [.str [], .str [], .sl .nil 0 []] := by kernel_rfl
theorem td262 : tdOf Try.prog 262 = .struct [(0, 1, 9), (1, 1, 9), (2, 1, 35)] := by kernel_rfl
theorem sz262 : Try.prog.cellsOf 262 = 3 := by kernel_rfl
theorem by262 : Try.prog.bytesOf 262 = 56 := by kernel_rfl
theorem zr262 : zeroOf Try.prog 262 = some [.str [], .str [], .sl .nil 0 []] := by kernel_rfl
theorem td263 : tdOf Try.prog 263 = .ptr := by kernel_rfl
theorem sz263 : Try.prog.cellsOf 263 = 1 := by kernel_rfl
theorem by263 : Try.prog.bytesOf 263 = 8 := by kernel_rfl
theorem td264 : tdOf Try.prog 264 = .ptr := by kernel_rfl
theorem sz264 : Try.prog.cellsOf 264 = 1 := by kernel_rfl
theorem by264 : Try.prog.bytesOf 264 = 8 := by kernel_rfl
theorem td265 : tdOf Try.prog 265 = .ptr := by kernel_rfl
theorem sz265 : Try.prog.cellsOf 265 = 1 := by kernel_rfl
theorem by265 : Try.prog.bytesOf 265 = 8 := by kernel_rfl
theorem td266 : tdOf Try.prog 266 = .ptr := by kernel_rfl
theorem sz266 : Try.prog.cellsOf 266 = 1 := by kernel_rfl
theorem by266 : Try.prog.bytesOf 266 = 8 := by kernel_rfl
theorem td267 : tdOf Try.prog 267 = .int .u64 := by kernel_rfl
theorem sz267 : Try.prog.cellsOf 267 = 1 := by kernel_rfl
theorem by267 : Try.prog.bytesOf 267 = 8 := by kernel_rfl
theorem zr267 : zeroOf Try.prog 267 = some [.int .u64 0] := by kernel_rfl
theorem td268 : tdOf Try.prog 268 = .ptr := by kernel_rfl
theorem sz268 : Try.prog.cellsOf 268 = 1 := by kernel_rfl
theorem by268 : Try.prog.bytesOf 268 = 8 := by kernel_rfl
theorem td269 : tdOf Try.prog 269 = .ptr := by kernel_rfl
theorem sz269 : Try.prog.cellsOf 269 = 1 := by kernel_rfl
theorem by269 : Try.prog.bytesOf 269 = 8 := by kernel_rfl
theorem td270 : tdOf Try.prog 270 = .ptr := by kernel_rfl
theorem sz270 : Try.prog.cellsOf 270 = 1 := by kernel_rfl
theorem by270 : Try.prog.bytesOf 270 = 8 := by kernel_rfl
theorem td271 : tdOf Try.prog 271 = .ptr := by kernel_rfl
theorem sz271 : Try.prog.cellsOf 271 = 1 := by kernel_rfl
theorem by271 : Try.prog.bytesOf 271 = 8 := by kernel_rfl
theorem td272 : tdOf Try.prog 272 = .ptr := by kernel_rfl
theorem sz272 : Try.prog.cellsOf 272 = 1 := by kernel_rfl
theorem by272 : Try.prog.bytesOf 272 = 8 := by kernel_rfl
theorem td273 : tdOf Try.prog 273 = .ptr := by kernel_rfl
theorem sz273 : Try.prog.cellsOf 273 = 1 := by kernel_rfl
theorem by273 : Try.prog.bytesOf 273 = 8 := by kernel_rfl
theorem td274 : tdOf Try.prog 274 = .ptr := by kernel_rfl
theorem sz274 : Try.prog.cellsOf 274 = 1 := by kernel_rfl
theorem by274 : Try.prog.bytesOf 274 = 8 := by kernel_rfl
theorem td276 : tdOf Try.prog 276 = .ptr := by kernel_rfl
theorem sz276 : Try.prog.cellsOf 276 = 1 := by kernel_rfl
theorem by276 : Try.prog.bytesOf 276 = 8 := by kernel_rfl
theorem td277 : tdOf Try.prog 277 = .ptr := by kernel_rfl
theorem sz277 : Try.prog.cellsOf 277 = 1 := by kernel_rfl
theorem by277 : Try.prog.bytesOf 277 = 8 := by kernel_rfl
theorem td278 : tdOf Try.prog 278 = .ptr := by kernel_rfl
theorem sz278 : Try.prog.cellsOf 278 = 1 := by kernel_rfl
theorem by278 : Try.prog.bytesOf 278 = 8 := by kernel_rfl
theorem td279 : tdOf Try.prog 279 = .ptr := by kernel_rfl
theorem sz279 : Try.prog.cellsOf 279 = 1 := by kernel_rfl
theorem by279 : Try.prog.bytesOf 279 = 8 := by kernel_rfl
theorem td280 : tdOf Try.prog 280 = .struct [(0, 1, 17), (1, 1, 17), (2, 1, 17), (3, 1, 9)] := by kernel_rfl
theorem sz280 : Try.prog.cellsOf 280 = 4 := by kernel_rfl
theorem by280 : Try.prog.bytesOf 280 = 40 := by kernel_rfl
theorem td281 : tdOf Try.prog 281 = .struct [(0, 1, 17), (1, 1, 17), (2, 1, 17), (3, 1, 9)] := by kernel_rfl
theorem sz281 : Try.prog.cellsOf 281 = 4 := by kernel_rfl
theorem by281 : Try.prog.bytesOf 281 = 40 := by kernel_rfl
theorem td283 : tdOf Try.prog 283 = .struct [(0, 0, 282)] := by kernel_rfl
theorem sz283 : Try.prog.cellsOf 283 = 0 := by kernel_rfl
theorem by283 : Try.prog.bytesOf 283 = 0 := by kernel_rfl
theorem zr283 : zeroOf Try.prog 283 = some [] := by kernel_rfl
theorem td284 : tdOf Try.prog 284 = .struct [(0, 0, 282)] := by kernel_rfl
theorem sz284 : Try.prog.cellsOf 284 = 0 := by kernel_rfl
theorem by284 : Try.prog.bytesOf 284 = 0 := by kernel_rfl
theorem zr284 : zeroOf Try.prog 284 = some [] := by kernel_rfl
theorem td285 : tdOf Try.prog 285 = .ptr := by kernel_rfl
theorem sz285 : Try.prog.cellsOf 285 = 1 := by kernel_rfl
theorem by285 : Try.prog.bytesOf 285 = 8 := by kernel_rfl
theorem td286 : tdOf Try.prog 286 = .int .u8 := by kernel_rfl
theorem sz286 : Try.prog.cellsOf 286 = 1 := by kernel_rfl
theorem by286 : Try.prog.bytesOf 286 = 1 := by kernel_rfl
theorem zr286 : zeroOf Try.prog 286 = some [.int .u8 0] := by kernel_rfl
theorem td287 : tdOf Try.prog 287 = .int .u8 := by kernel_rfl
theorem sz287 : Try.prog.cellsOf 287 = 1 := by kernel_rfl
theorem by287 : Try.prog.bytesOf 287 = 1 := by kernel_rfl
theorem zr287 : zeroOf Try.prog 287 = some [.int .u8 0] := by kernel_rfl
theorem td288 : tdOf Try.prog 288 = .ptr := by kernel_rfl
theorem sz288 : Try.prog.cellsOf 288 = 1 := by kernel_rfl
theorem by288 : Try.prog.bytesOf 288 = 8 := by kernel_rfl
theorem td289 : tdOf Try.prog 289 = .ptr := by kernel_rfl
theorem sz289 : Try.prog.cellsOf 289 = 1 := by kernel_rfl
theorem by289 : Try.prog.bytesOf 289 = 8 := by kernel_rfl
theorem td290 : tdOf Try.prog 290 = .int .i32 := by kernel_rfl
theorem sz290 : Try.prog.cellsOf 290 = 1 := by kernel_rfl
theorem by290 : Try.prog.bytesOf 290 = 4 := by kernel_rfl
theorem zr290 : zeroOf Try.prog 290 = some [.int .i32 0] := by kernel_rfl
theorem td291 : tdOf Try.prog 291 = .int .i32 := by kernel_rfl
theorem sz291 : Try.prog.cellsOf 291 = 1 := by kernel_rfl
theorem by291 : Try.prog.bytesOf 291 = 4 := by kernel_rfl
theorem zr291 : zeroOf Try.prog 291 = some [.int .i32 0] := by kernel_rfl
theorem td292 : tdOf Try.prog 292 = .struct [(0, 1, 12), (1, 1, 12), (2, 1, 242), (3, 1, 286), (4, 1, 5), (5, 1, 5), (6, 1, 287), (7, 1, 288), (8, 1, 289), (9, 1, 290), (10, 1, 291)] := by kernel_rfl
theorem sz292 : Try.prog.cellsOf 292 = 11 := by kernel_rfl
theorem by292 : Try.prog.bytesOf 292 = 48 := by kernel_rfl
theorem td293 : tdOf Try.prog 293 = .struct [(0, 1, 12), (1, 1, 12), (2, 1, 242), (3, 1, 286), (4, 1, 5), (5, 1, 5), (6, 1, 287), (7, 1, 288), (8, 1, 289), (9, 1, 290), (10, 1, 291)] := by kernel_rfl
theorem sz293 : Try.prog.cellsOf 293 = 11 := by kernel_rfl
theorem by293 : Try.prog.bytesOf 293 = 48 := by kernel_rfl
attribute [simp] td1 sz1 by1 td2 sz2 by2 zr2 td3 sz3 by3 zr3 td4 sz4 by4 zr4 td5 sz5 by5 zr5 td6 sz6 by6 zr6 td7 sz7 by7 zr7 td8 sz8 by8 zr8 td9 sz9 by9 zr9 td10 sz10 by10 zr10 td11 sz11 by11 zr11 td12 sz12 by12 zr12 td13 sz13 by13 zr13 td14 sz14 by14 zr14 td15 sz15 by15 td16 sz16 by16 td17 sz17 by17 td18 sz18 by18 td19 sz19 by19 td21 sz21 by21 zr21 td22 sz22 by22 zr22 td23 sz23 by23 td24 sz24 by24 zr24 td25 sz25 by25 td26 sz26 by26 td27 sz27 by27 td28 sz28 by28 td29 sz29 by29 td30 sz30 by30 td31 sz31 by31 zr31 td32 sz32 by32 td34 sz34 by34 td35 sz35 by35 zr35 td36 sz36 by36 td37 sz37 by37 td38 sz38 by38 td39 sz39 by39 zr39 td40 sz40 by40 td41 sz41 by41 td42 sz42 by42 zr42 td43 sz43 by43 td44 sz44 by44 td45 sz45 by45 zr45 td46 sz46 by46 zr46 td47 sz47 by47 zr47 td48 sz48 by48 td49 sz49 by49 td50 sz50 by50 zr50 td51 sz51 by51 zr51 td52 sz52 by52 zr52 td53 sz53 by53 td54 sz54 by54 td55 sz55 by55 td56 sz56 by56 zr56 td57 sz57 by57 td58 sz58 by58 td59 sz59 by59 zr59 td60 sz60 by60 td61 sz61 by61 td62 sz62 by62 td63 sz63 by63 zr63 td64 sz64 by64 zr64 td65 sz65 by65 zr65 td66 sz66 by66 zr66 td67 sz67 by67 zr67 td68 sz68 by68 zr68 td69 sz69 by69 zr69 td70 sz70 by70 zr70 td71 sz71 by71 zr71 td72 sz72 by72 td73 sz73 by73 td74 sz74 by74 td75 sz75 by75 zr75 td76 sz76 by76 zr76 td77 sz77 by77 zr77 td78 sz78 by78 zr78 td79 sz79 by79 zr79 td80 sz80 by80 zr80 td81 sz81 by81 td82 sz82 by82 zr82 td83 sz83 by83 zr83 td84 sz84 by84 td85 sz85 by85 td86 sz86 by86 td87 sz87 by87 td88 sz88 by88 td89 sz89 by89 td90 sz90 by90 td91 sz91 by91 td92 sz92 by92 td93 sz93 by93 zr93 td94 sz94 by94 zr94 td95 sz95 by95 zr95 td96 sz96 by96 zr96 td97 sz97 by97 td98 sz98 by98 td99 sz99 by99 td100 sz100 by100 zr100 td101 sz101 by101 zr101 td102 sz102 by102 zr102 td103 sz103 by103 zr103 td104 sz104 by104 td105 sz105 by105 td106 sz106 by106 td107 sz107 by107 td108 sz108 by108 zr108 td109 sz109 by109 zr109 td110 sz110 by110 zr110 td111 sz111 by111 td112 sz112 by112 td113 sz113 by113 zr113 td114 sz114 by114 zr114 td115 sz115 by115 zr115 td116 sz116 by116 td117 sz117 by117 td118 sz118 by118 td119 sz119 by119 td120 sz120 by120 td121 sz121 by121 td122 sz122 by122 td123 sz123 by123 zr123 td124 sz124 by124 zr124 td125 sz125 by125 td126 sz126 by126 zr126 td127 sz127 by127 zr127 td128 sz128 by128 td129 sz129 by129 td130 sz130 by130 td131 sz131 by131 td132 sz132 by132 zr132 td133 sz133 by133 zr133 td134 sz134 by134 zr134 td135 sz135 by135 zr135 td136 sz136 by136 zr136 td137 sz137 by137 zr137 td138 sz138 by138 td139 sz139 by139 td140 sz140 by140 td141 sz141 by141 zr141 td142 sz142 by142 zr142 td143 sz143 by143 td144 sz144 by144 td145 sz145 by145 td146 sz146 by146 td147 sz147 by147 td148 sz148 by148 td149 sz149 by149 zr149 td150 sz150 by150 zr150 td151 sz151 by151 zr151 td152 sz152 by152 zr152 td153 sz153 by153 td154 sz154 by154 td155 sz155 by155 td156 sz156 by156 td157 sz157 by157 td158 sz158 by158 td159 sz159 by159 td160 sz160 by160 td161 sz161 by161 td162 sz162 by162 td163 sz163 by163 td164 sz164 by164 td165 sz165 by165 td166 sz166 by166 td167 sz167 by167 td168 sz168 by168 td169 sz169 by169 td170 sz170 by170 td171 sz171 by171 td172 sz172 by172 td173 sz173 by173 td174 sz174 by174 td175 sz175 by175 td176 sz176 by176 td177 sz177 by177 td178 sz178 by178 td179 sz179 by179 td180 sz180 by180 td181 sz181 by181 zr181 td182 sz182 by182 td183 sz183 by183 td184 sz184 by184 td185 sz185 by185 td186 sz186 by186 td187 sz187 by187 td189 sz189 by189 td190 sz190 by190 td191 sz191 by191 td192 sz192 by192 td193 sz193 by193 td194 sz194 by194 td195 sz195 by195 td196 sz196 by196 zr196 td197 sz197 by197 zr197 td198 sz198 by198 zr198 td199 sz199 by199 zr199 td200 sz200 by200 zr200 td201 sz201 by201 td202 sz202 by202 zr202 td203 sz203 by203 zr203 td204 sz204 by204 td205 sz205 by205 zr205 td206 sz206 by206 zr206 td207 sz207 by207 zr207 td208 sz208 by208 zr208 td209 sz209 by209 zr209 td210 sz210 by210 td211 sz211 by211 zr211 td212 sz212 by212 td213 sz213 by213 td214 sz214 by214 td215 sz215 by215 td216 sz216 by216 td217 sz217 by217 zr217 td218 sz218 by218 td219 sz219 by219 td220 sz220 by220 td221 sz221 by221 td222 sz222 by222 td223 sz223 by223 td224 sz224 by224 td225 sz225 by225 td226 sz226 by226 td227 sz227 by227 td229 sz229 by229 td230 sz230 by230 td231 sz231 by231 td232 sz232 by232 td233 sz233 by233 td234 sz234 by234 zr234 td236 sz236 by236 td237 sz237 by237 td238 sz238 by238 td240 sz240 by240 td241 sz241 by241 td242 sz242 by242 zr242 td243 sz243 by243 td244 sz244 by244 zr244 td245 sz245 by245 td246 sz246 by246 td247 sz247 by247 zr247 td248 sz248 by248 zr248 td249 sz249 by249 td250 sz250 by250 zr250 td251 sz251 by251 zr251 td252 sz252 by252 td253 sz253 by253 zr253 td254 sz254 by254 zr254 td255 sz255 by255 zr255 td256 sz256 by256 zr256 td257 sz257 by257 td258 sz258 by258 zr258 td259 sz259 by259 zr259 td260 sz260 by260 td261 sz261 by261 zr261 td262 sz262 by262 zr262 td263 sz263 by263 td264 sz264 by264 td265 sz265 by265 td266 sz266 by266 td267 sz267 by267 zr267 td268 sz268 by268 td269 sz269 by269 td270 sz270 by270 td271 sz271 by271 td272 sz272 by272 td273 sz273 by273 td274 sz274 by274 td276 sz276 by276 td277 sz277 by277 td278 sz278 by278 td279 sz279 by279 td280 sz280 by280 td281 sz281 by281 td283 sz283 by283 zr283 td284 sz284 by284 zr284 td285 sz285 by285 td286 sz286 by286 zr286 td287 sz287 by287 zr287 td288 sz288 by288 td289 sz289 by289 td290 sz290 by290 zr290 td291 sz291 by291 zr291 td292 sz292 by292 td293 sz293 by293
end Go.Proofs.Ytcgkcbmhjbbjmaa.Abs
