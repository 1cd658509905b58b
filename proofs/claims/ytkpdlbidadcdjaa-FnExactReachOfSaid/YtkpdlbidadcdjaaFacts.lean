/- PRINTED by gen.py: the seat's types. No condition. -/
import Derived.Test.YtkpdlbidadcdjaaAbsA
import Derived.Test.YtkpdlbidadcdjaaProg
import Derived.KernelRfl
namespace Go.Proofs.Ytkpdlbidadcdjaa.Abs
open Go
theorem td1 : tdOf Try.prog 1 = .ptr := by kernel_rfl
theorem sz1 : Try.prog.cellsOf 1 = 1 := by kernel_rfl
theorem by1 : Try.prog.bytesOf 1 = 8 := by kernel_rfl
theorem zr1 : zeroOf Try.prog 1 = some [.undef] := by kernel_rfl
theorem zk1 : zeroOk Try.prog 1 = true := by kernel_rfl
theorem td2 : tdOf Try.prog 2 = .int .i64 := by kernel_rfl
theorem sz2 : Try.prog.cellsOf 2 = 1 := by kernel_rfl
theorem by2 : Try.prog.bytesOf 2 = 8 := by kernel_rfl
theorem zr2 : zeroOf Try.prog 2 = some [.int .i64 0] := by kernel_rfl
theorem zk2 : zeroOk Try.prog 2 = true := by kernel_rfl
theorem td3 : tdOf Try.prog 3 = .int .i64 := by kernel_rfl
theorem sz3 : Try.prog.cellsOf 3 = 1 := by kernel_rfl
theorem by3 : Try.prog.bytesOf 3 = 8 := by kernel_rfl
theorem zr3 : zeroOf Try.prog 3 = some [.int .i64 0] := by kernel_rfl
theorem zk3 : zeroOk Try.prog 3 = true := by kernel_rfl
theorem td4 : tdOf Try.prog 4 = .bool := by kernel_rfl
theorem sz4 : Try.prog.cellsOf 4 = 1 := by kernel_rfl
theorem by4 : Try.prog.bytesOf 4 = 1 := by kernel_rfl
theorem zr4 : zeroOf Try.prog 4 = some [.bool false] := by kernel_rfl
theorem zk4 : zeroOk Try.prog 4 = true := by kernel_rfl
theorem td5 : tdOf Try.prog 5 = .int .u8 := by kernel_rfl
theorem sz5 : Try.prog.cellsOf 5 = 1 := by kernel_rfl
theorem by5 : Try.prog.bytesOf 5 = 1 := by kernel_rfl
theorem zr5 : zeroOf Try.prog 5 = some [.int .u8 0] := by kernel_rfl
theorem zk5 : zeroOk Try.prog 5 = true := by kernel_rfl
theorem td6 : tdOf Try.prog 6 = .int .u8 := by kernel_rfl
theorem sz6 : Try.prog.cellsOf 6 = 1 := by kernel_rfl
theorem by6 : Try.prog.bytesOf 6 = 1 := by kernel_rfl
theorem zr6 : zeroOf Try.prog 6 = some [.int .u8 0] := by kernel_rfl
theorem zk6 : zeroOk Try.prog 6 = true := by kernel_rfl
theorem td7 : tdOf Try.prog 7 = .struct [(0, 1, 2), (1, 1, 3), (2, 1, 4), (3, 1, 6)] := by kernel_rfl
theorem sz7 : Try.prog.cellsOf 7 = 4 := by kernel_rfl
theorem by7 : Try.prog.bytesOf 7 = 24 := by kernel_rfl
theorem zr7 : zeroOf Try.prog 7 = some [.int .i64 0, .int .i64 0, .bool false, .int .u8 0] := by kernel_rfl
theorem zk7 : zeroOk Try.prog 7 = true := by kernel_rfl
theorem td8 : tdOf Try.prog 8 = .struct [(0, 1, 2), (1, 1, 3), (2, 1, 4), (3, 1, 6)] := by kernel_rfl
theorem sz8 : Try.prog.cellsOf 8 = 4 := by kernel_rfl
theorem by8 : Try.prog.bytesOf 8 = 24 := by kernel_rfl
theorem zr8 : zeroOf Try.prog 8 = some [.int .i64 0, .int .i64 0, .bool false, .int .u8 0] := by kernel_rfl
theorem zk8 : zeroOk Try.prog 8 = true := by kernel_rfl
theorem td9 : tdOf Try.prog 9 = .str := by kernel_rfl
theorem sz9 : Try.prog.cellsOf 9 = 1 := by kernel_rfl
theorem by9 : Try.prog.bytesOf 9 = 16 := by kernel_rfl
theorem zr9 : zeroOf Try.prog 9 = some [.str []] := by kernel_rfl
theorem zk9 : zeroOk Try.prog 9 = true := by kernel_rfl
theorem td10 : tdOf Try.prog 10 = .str := by kernel_rfl
theorem sz10 : Try.prog.cellsOf 10 = 1 := by kernel_rfl
theorem by10 : Try.prog.bytesOf 10 = 16 := by kernel_rfl
theorem zr10 : zeroOf Try.prog 10 = some [.str []] := by kernel_rfl
theorem zk10 : zeroOk Try.prog 10 = true := by kernel_rfl
theorem td11 : tdOf Try.prog 11 = .str := by kernel_rfl
theorem sz11 : Try.prog.cellsOf 11 = 1 := by kernel_rfl
theorem by11 : Try.prog.bytesOf 11 = 16 := by kernel_rfl
theorem zr11 : zeroOf Try.prog 11 = some [.str []] := by kernel_rfl
theorem zk11 : zeroOk Try.prog 11 = true := by kernel_rfl
theorem td12 : tdOf Try.prog 12 = .int .u64 := by kernel_rfl
theorem sz12 : Try.prog.cellsOf 12 = 1 := by kernel_rfl
theorem by12 : Try.prog.bytesOf 12 = 8 := by kernel_rfl
theorem zr12 : zeroOf Try.prog 12 = some [.int .u64 0] := by kernel_rfl
theorem zk12 : zeroOk Try.prog 12 = true := by kernel_rfl
theorem td13 : tdOf Try.prog 13 = .struct [(0, 1, 9), (1, 1, 12)] := by kernel_rfl
theorem sz13 : Try.prog.cellsOf 13 = 2 := by kernel_rfl
theorem by13 : Try.prog.bytesOf 13 = 24 := by kernel_rfl
theorem zr13 : zeroOf Try.prog 13 = some [.str [], .int .u64 0] := by kernel_rfl
theorem zk13 : zeroOk Try.prog 13 = true := by kernel_rfl
theorem td14 : tdOf Try.prog 14 = .struct [(0, 1, 9), (1, 1, 12)] := by kernel_rfl
theorem sz14 : Try.prog.cellsOf 14 = 2 := by kernel_rfl
theorem by14 : Try.prog.bytesOf 14 = 24 := by kernel_rfl
theorem zr14 : zeroOf Try.prog 14 = some [.str [], .int .u64 0] := by kernel_rfl
theorem zk14 : zeroOk Try.prog 14 = true := by kernel_rfl
theorem td15 : tdOf Try.prog 15 = .ptr := by kernel_rfl
theorem sz15 : Try.prog.cellsOf 15 = 1 := by kernel_rfl
theorem by15 : Try.prog.bytesOf 15 = 8 := by kernel_rfl
theorem td16 : tdOf Try.prog 16 = .ptr := by kernel_rfl
theorem sz16 : Try.prog.cellsOf 16 = 1 := by kernel_rfl
theorem by16 : Try.prog.bytesOf 16 = 8 := by kernel_rfl
theorem td17 : tdOf Try.prog 17 = .ptr := by kernel_rfl
theorem sz17 : Try.prog.cellsOf 17 = 1 := by kernel_rfl
theorem by17 : Try.prog.bytesOf 17 = 8 := by kernel_rfl
theorem td18 : tdOf Try.prog 18 = .struct [(0, 1, 17)] := by kernel_rfl
theorem sz18 : Try.prog.cellsOf 18 = 1 := by kernel_rfl
theorem by18 : Try.prog.bytesOf 18 = 8 := by kernel_rfl
theorem td19 : tdOf Try.prog 19 = .struct [(0, 1, 17)] := by kernel_rfl
theorem sz19 : Try.prog.cellsOf 19 = 1 := by kernel_rfl
theorem by19 : Try.prog.bytesOf 19 = 8 := by kernel_rfl
theorem td21 : tdOf Try.prog 21 = .int .i32 := by kernel_rfl
theorem sz21 : Try.prog.cellsOf 21 = 1 := by kernel_rfl
theorem by21 : Try.prog.bytesOf 21 = 4 := by kernel_rfl
theorem zr21 : zeroOf Try.prog 21 = some [.int .i32 0] := by kernel_rfl
theorem zk21 : zeroOk Try.prog 21 = true := by kernel_rfl
theorem td22 : tdOf Try.prog 22 = .slice 42 := by kernel_rfl
theorem sz22 : Try.prog.cellsOf 22 = 1 := by kernel_rfl
theorem by22 : Try.prog.bytesOf 22 = 24 := by kernel_rfl
theorem zr22 : zeroOf Try.prog 22 = some [.sl .nil 0 []] := by kernel_rfl
theorem zk22 : zeroOk Try.prog 22 = true := by kernel_rfl
theorem td23 : tdOf Try.prog 23 = .slice 46 := by kernel_rfl
theorem sz23 : Try.prog.cellsOf 23 = 1 := by kernel_rfl
theorem by23 : Try.prog.bytesOf 23 = 24 := by kernel_rfl
theorem zr23 : zeroOf Try.prog 23 = some [.sl .nil 0 []] := by kernel_rfl
theorem zk23 : zeroOk Try.prog 23 = true := by kernel_rfl
theorem td24 : tdOf Try.prog 24 = .ptr := by kernel_rfl
theorem sz24 : Try.prog.cellsOf 24 = 1 := by kernel_rfl
theorem by24 : Try.prog.bytesOf 24 = 8 := by kernel_rfl
theorem zr24 : zeroOf Try.prog 24 = some [.undef] := by kernel_rfl
theorem zk24 : zeroOk Try.prog 24 = true := by kernel_rfl
theorem td25 : tdOf Try.prog 25 = .ptr := by kernel_rfl
theorem sz25 : Try.prog.cellsOf 25 = 1 := by kernel_rfl
theorem by25 : Try.prog.bytesOf 25 = 8 := by kernel_rfl
theorem zr25 : zeroOf Try.prog 25 = some [.undef] := by kernel_rfl
theorem zk25 : zeroOk Try.prog 25 = true := by kernel_rfl
theorem td26 : tdOf Try.prog 26 = .slice 9 := by kernel_rfl
theorem sz26 : Try.prog.cellsOf 26 = 1 := by kernel_rfl
theorem by26 : Try.prog.bytesOf 26 = 24 := by kernel_rfl
theorem zr26 : zeroOf Try.prog 26 = some [.sl .nil 0 []] := by kernel_rfl
theorem zk26 : zeroOk Try.prog 26 = true := by kernel_rfl
theorem td27 : tdOf Try.prog 27 = .ptr := by kernel_rfl
theorem sz27 : Try.prog.cellsOf 27 = 1 := by kernel_rfl
theorem by27 : Try.prog.bytesOf 27 = 8 := by kernel_rfl
theorem zr27 : zeroOf Try.prog 27 = some [.undef] := by kernel_rfl
theorem zk27 : zeroOk Try.prog 27 = true := by kernel_rfl
theorem td28 : tdOf Try.prog 28 = .slice 51 := by kernel_rfl
theorem sz28 : Try.prog.cellsOf 28 = 1 := by kernel_rfl
theorem by28 : Try.prog.bytesOf 28 = 24 := by kernel_rfl
theorem zr28 : zeroOf Try.prog 28 = some [.sl .nil 0 []] := by kernel_rfl
theorem zk28 : zeroOk Try.prog 28 = true := by kernel_rfl
theorem td29 : tdOf Try.prog 29 = .ptr := by kernel_rfl
theorem sz29 : Try.prog.cellsOf 29 = 1 := by kernel_rfl
theorem by29 : Try.prog.bytesOf 29 = 8 := by kernel_rfl
theorem zr29 : zeroOf Try.prog 29 = some [.undef] := by kernel_rfl
theorem zk29 : zeroOk Try.prog 29 = true := by kernel_rfl
theorem td30 : tdOf Try.prog 30 = .slice 57 := by kernel_rfl
theorem sz30 : Try.prog.cellsOf 30 = 1 := by kernel_rfl
theorem by30 : Try.prog.bytesOf 30 = 24 := by kernel_rfl
theorem zr30 : zeroOf Try.prog 30 = some [.sl .nil 0 []] := by kernel_rfl
theorem zk30 : zeroOk Try.prog 30 = true := by kernel_rfl
theorem td31 : tdOf Try.prog 31 = .ptr := by kernel_rfl
theorem sz31 : Try.prog.cellsOf 31 = 1 := by kernel_rfl
theorem by31 : Try.prog.bytesOf 31 = 8 := by kernel_rfl
theorem zr31 : zeroOf Try.prog 31 = some [.undef] := by kernel_rfl
theorem zk31 : zeroOk Try.prog 31 = true := by kernel_rfl
theorem td32 : tdOf Try.prog 32 = .ptr := by kernel_rfl
theorem sz32 : Try.prog.cellsOf 32 = 1 := by kernel_rfl
theorem by32 : Try.prog.bytesOf 32 = 8 := by kernel_rfl
theorem zr32 : zeroOf Try.prog 32 = some [.undef] := by kernel_rfl
theorem zk32 : zeroOk Try.prog 32 = true := by kernel_rfl
theorem td33 : tdOf Try.prog 33 = .ptr := by kernel_rfl
theorem sz33 : Try.prog.cellsOf 33 = 1 := by kernel_rfl
theorem by33 : Try.prog.bytesOf 33 = 8 := by kernel_rfl
theorem zr33 : zeroOf Try.prog 33 = some [.undef] := by kernel_rfl
theorem zk33 : zeroOk Try.prog 33 = true := by kernel_rfl
theorem td34 : tdOf Try.prog 34 = .ptr := by kernel_rfl
theorem sz34 : Try.prog.cellsOf 34 = 1 := by kernel_rfl
theorem by34 : Try.prog.bytesOf 34 = 8 := by kernel_rfl
theorem zr34 : zeroOf Try.prog 34 = some [.undef] := by kernel_rfl
theorem zk34 : zeroOk Try.prog 34 = true := by kernel_rfl
theorem td35 : tdOf Try.prog 35 = .ptr := by kernel_rfl
theorem sz35 : Try.prog.cellsOf 35 = 1 := by kernel_rfl
theorem by35 : Try.prog.bytesOf 35 = 8 := by kernel_rfl
theorem zr35 : zeroOf Try.prog 35 = some [.undef] := by kernel_rfl
theorem zk35 : zeroOk Try.prog 35 = true := by kernel_rfl
theorem td36 : tdOf Try.prog 36 = .ptr := by kernel_rfl
theorem sz36 : Try.prog.cellsOf 36 = 1 := by kernel_rfl
theorem by36 : Try.prog.bytesOf 36 = 8 := by kernel_rfl
theorem zr36 : zeroOf Try.prog 36 = some [.undef] := by kernel_rfl
theorem zk36 : zeroOk Try.prog 36 = true := by kernel_rfl
theorem td37 : tdOf Try.prog 37 = .ptr := by kernel_rfl
theorem sz37 : Try.prog.cellsOf 37 = 1 := by kernel_rfl
theorem by37 : Try.prog.bytesOf 37 = 8 := by kernel_rfl
theorem zr37 : zeroOf Try.prog 37 = some [.undef] := by kernel_rfl
theorem zk37 : zeroOk Try.prog 37 = true := by kernel_rfl
theorem td38 : tdOf Try.prog 38 = .ptr := by kernel_rfl
theorem sz38 : Try.prog.cellsOf 38 = 1 := by kernel_rfl
theorem by38 : Try.prog.bytesOf 38 = 8 := by kernel_rfl
theorem zr38 : zeroOf Try.prog 38 = some [.undef] := by kernel_rfl
theorem zk38 : zeroOk Try.prog 38 = true := by kernel_rfl
theorem td39 : tdOf Try.prog 39 = .ptr := by kernel_rfl
theorem sz39 : Try.prog.cellsOf 39 = 1 := by kernel_rfl
theorem by39 : Try.prog.bytesOf 39 = 8 := by kernel_rfl
theorem zr39 : zeroOf Try.prog 39 = some [.undef] := by kernel_rfl
theorem zk39 : zeroOk Try.prog 39 = true := by kernel_rfl
theorem td40 : tdOf Try.prog 40 = .slice 91 := by kernel_rfl
theorem sz40 : Try.prog.cellsOf 40 = 1 := by kernel_rfl
theorem by40 : Try.prog.bytesOf 40 = 24 := by kernel_rfl
theorem zr40 : zeroOf Try.prog 40 = some [.sl .nil 0 []] := by kernel_rfl
theorem zk40 : zeroOk Try.prog 40 = true := by kernel_rfl
theorem td41 : tdOf Try.prog 41 = .struct [(0, 1, 9), (1, 1, 9), (2, 1, 40), (3, 1, 23)] := by kernel_rfl
theorem sz41 : Try.prog.cellsOf 41 = 4 := by kernel_rfl
theorem by41 : Try.prog.bytesOf 41 = 80 := by kernel_rfl
theorem zr41 : zeroOf Try.prog 41 = some [.str [], .str [], .sl .nil 0 [], .sl .nil 0 []] := by kernel_rfl
theorem zk41 : zeroOk Try.prog 41 = true := by kernel_rfl
theorem td42 : tdOf Try.prog 42 = .struct [(0, 1, 9), (1, 1, 9), (2, 1, 40), (3, 1, 23)] := by kernel_rfl
theorem sz42 : Try.prog.cellsOf 42 = 4 := by kernel_rfl
theorem by42 : Try.prog.bytesOf 42 = 80 := by kernel_rfl
theorem zr42 : zeroOf Try.prog 42 = some [.str [], .str [], .sl .nil 0 [], .sl .nil 0 []] := by kernel_rfl
theorem zk42 : zeroOk Try.prog 42 = true := by kernel_rfl
theorem td43 : tdOf Try.prog 43 = .ptr := by kernel_rfl
theorem sz43 : Try.prog.cellsOf 43 = 1 := by kernel_rfl
theorem by43 : Try.prog.bytesOf 43 = 8 := by kernel_rfl
theorem zr43 : zeroOf Try.prog 43 = some [.undef] := by kernel_rfl
theorem zk43 : zeroOk Try.prog 43 = true := by kernel_rfl
theorem td44 : tdOf Try.prog 44 = .slice 97 := by kernel_rfl
theorem sz44 : Try.prog.cellsOf 44 = 1 := by kernel_rfl
theorem by44 : Try.prog.bytesOf 44 = 24 := by kernel_rfl
theorem zr44 : zeroOf Try.prog 44 = some [.sl .nil 0 []] := by kernel_rfl
theorem zk44 : zeroOk Try.prog 44 = true := by kernel_rfl
theorem td45 : tdOf Try.prog 45 = .struct [(0, 1, 3), (1, 1, 9), (2, 1, 9), (3, 1, 9), (4, 1, 44), (5, 1, 40), (6, 1, 23)] := by kernel_rfl
theorem sz45 : Try.prog.cellsOf 45 = 7 := by kernel_rfl
theorem by45 : Try.prog.bytesOf 45 = 128 := by kernel_rfl
theorem zr45 : zeroOf Try.prog 45 = some [.int .i64 0, .str [], .str [], .str [], .sl .nil 0 [], .sl .nil 0 [], .sl .nil 0 []] := by kernel_rfl
theorem zk45 : zeroOk Try.prog 45 = true := by kernel_rfl
theorem td46 : tdOf Try.prog 46 = .struct [(0, 1, 3), (1, 1, 9), (2, 1, 9), (3, 1, 9), (4, 1, 44), (5, 1, 40), (6, 1, 23)] := by kernel_rfl
theorem sz46 : Try.prog.cellsOf 46 = 7 := by kernel_rfl
theorem by46 : Try.prog.bytesOf 46 = 128 := by kernel_rfl
theorem zr46 : zeroOf Try.prog 46 = some [.int .i64 0, .str [], .str [], .str [], .sl .nil 0 [], .sl .nil 0 [], .sl .nil 0 []] := by kernel_rfl
theorem zk46 : zeroOk Try.prog 46 = true := by kernel_rfl
theorem td47 : tdOf Try.prog 47 = .ptr := by kernel_rfl
theorem sz47 : Try.prog.cellsOf 47 = 1 := by kernel_rfl
theorem by47 : Try.prog.bytesOf 47 = 8 := by kernel_rfl
theorem zr47 : zeroOf Try.prog 47 = some [.undef] := by kernel_rfl
theorem zk47 : zeroOk Try.prog 47 = true := by kernel_rfl
theorem td48 : tdOf Try.prog 48 = .ptr := by kernel_rfl
theorem sz48 : Try.prog.cellsOf 48 = 1 := by kernel_rfl
theorem by48 : Try.prog.bytesOf 48 = 8 := by kernel_rfl
theorem zr48 : zeroOf Try.prog 48 = some [.undef] := by kernel_rfl
theorem zk48 : zeroOk Try.prog 48 = true := by kernel_rfl
theorem td49 : tdOf Try.prog 49 = .slice 82 := by kernel_rfl
theorem sz49 : Try.prog.cellsOf 49 = 1 := by kernel_rfl
theorem by49 : Try.prog.bytesOf 49 = 24 := by kernel_rfl
theorem zr49 : zeroOf Try.prog 49 = some [.sl .nil 0 []] := by kernel_rfl
theorem zk49 : zeroOk Try.prog 49 = true := by kernel_rfl
theorem td50 : tdOf Try.prog 50 = .struct [(0, 1, 9), (1, 1, 9), (2, 1, 49), (3, 1, 30)] := by kernel_rfl
theorem sz50 : Try.prog.cellsOf 50 = 4 := by kernel_rfl
theorem by50 : Try.prog.bytesOf 50 = 80 := by kernel_rfl
theorem zr50 : zeroOf Try.prog 50 = some [.str [], .str [], .sl .nil 0 [], .sl .nil 0 []] := by kernel_rfl
theorem zk50 : zeroOk Try.prog 50 = true := by kernel_rfl
theorem td51 : tdOf Try.prog 51 = .struct [(0, 1, 9), (1, 1, 9), (2, 1, 49), (3, 1, 30)] := by kernel_rfl
theorem sz51 : Try.prog.cellsOf 51 = 4 := by kernel_rfl
theorem by51 : Try.prog.bytesOf 51 = 80 := by kernel_rfl
theorem zr51 : zeroOf Try.prog 51 = some [.str [], .str [], .sl .nil 0 [], .sl .nil 0 []] := by kernel_rfl
theorem zk51 : zeroOk Try.prog 51 = true := by kernel_rfl
theorem td52 : tdOf Try.prog 52 = .ptr := by kernel_rfl
theorem sz52 : Try.prog.cellsOf 52 = 1 := by kernel_rfl
theorem by52 : Try.prog.bytesOf 52 = 8 := by kernel_rfl
theorem zr52 : zeroOf Try.prog 52 = some [.undef] := by kernel_rfl
theorem zk52 : zeroOk Try.prog 52 = true := by kernel_rfl
theorem td53 : tdOf Try.prog 53 = .ptr := by kernel_rfl
theorem sz53 : Try.prog.cellsOf 53 = 1 := by kernel_rfl
theorem by53 : Try.prog.bytesOf 53 = 8 := by kernel_rfl
theorem zr53 : zeroOf Try.prog 53 = some [.undef] := by kernel_rfl
theorem zk53 : zeroOk Try.prog 53 = true := by kernel_rfl
theorem td54 : tdOf Try.prog 54 = .ptr := by kernel_rfl
theorem sz54 : Try.prog.cellsOf 54 = 1 := by kernel_rfl
theorem by54 : Try.prog.bytesOf 54 = 8 := by kernel_rfl
theorem zr54 : zeroOf Try.prog 54 = some [.undef] := by kernel_rfl
theorem zk54 : zeroOk Try.prog 54 = true := by kernel_rfl
theorem td55 : tdOf Try.prog 55 = .slice 87 := by kernel_rfl
theorem sz55 : Try.prog.cellsOf 55 = 1 := by kernel_rfl
theorem by55 : Try.prog.bytesOf 55 = 24 := by kernel_rfl
theorem zr55 : zeroOf Try.prog 55 = some [.sl .nil 0 []] := by kernel_rfl
theorem zk55 : zeroOk Try.prog 55 = true := by kernel_rfl
theorem td56 : tdOf Try.prog 56 = .struct [(0, 1, 3), (1, 1, 9), (2, 1, 9), (3, 1, 9), (4, 1, 55), (5, 1, 49), (6, 1, 30)] := by kernel_rfl
theorem sz56 : Try.prog.cellsOf 56 = 7 := by kernel_rfl
theorem by56 : Try.prog.bytesOf 56 = 128 := by kernel_rfl
theorem zr56 : zeroOf Try.prog 56 = some [.int .i64 0, .str [], .str [], .str [], .sl .nil 0 [], .sl .nil 0 [], .sl .nil 0 []] := by kernel_rfl
theorem zk56 : zeroOk Try.prog 56 = true := by kernel_rfl
theorem td57 : tdOf Try.prog 57 = .struct [(0, 1, 3), (1, 1, 9), (2, 1, 9), (3, 1, 9), (4, 1, 55), (5, 1, 49), (6, 1, 30)] := by kernel_rfl
theorem sz57 : Try.prog.cellsOf 57 = 7 := by kernel_rfl
theorem by57 : Try.prog.bytesOf 57 = 128 := by kernel_rfl
theorem zr57 : zeroOf Try.prog 57 = some [.int .i64 0, .str [], .str [], .str [], .sl .nil 0 [], .sl .nil 0 [], .sl .nil 0 []] := by kernel_rfl
theorem zk57 : zeroOk Try.prog 57 = true := by kernel_rfl
theorem td58 : tdOf Try.prog 58 = .ptr := by kernel_rfl
theorem sz58 : Try.prog.cellsOf 58 = 1 := by kernel_rfl
theorem by58 : Try.prog.bytesOf 58 = 8 := by kernel_rfl
theorem zr58 : zeroOf Try.prog 58 = some [.undef] := by kernel_rfl
theorem zk58 : zeroOk Try.prog 58 = true := by kernel_rfl
theorem td59 : tdOf Try.prog 59 = .ptr := by kernel_rfl
theorem sz59 : Try.prog.cellsOf 59 = 1 := by kernel_rfl
theorem by59 : Try.prog.bytesOf 59 = 8 := by kernel_rfl
theorem zr59 : zeroOf Try.prog 59 = some [.undef] := by kernel_rfl
theorem zk59 : zeroOk Try.prog 59 = true := by kernel_rfl
theorem td60 : tdOf Try.prog 60 = .ptr := by kernel_rfl
theorem sz60 : Try.prog.cellsOf 60 = 1 := by kernel_rfl
theorem by60 : Try.prog.bytesOf 60 = 8 := by kernel_rfl
theorem zr60 : zeroOf Try.prog 60 = some [.undef] := by kernel_rfl
theorem zk60 : zeroOk Try.prog 60 = true := by kernel_rfl
theorem td61 : tdOf Try.prog 61 = .ptr := by kernel_rfl
theorem sz61 : Try.prog.cellsOf 61 = 1 := by kernel_rfl
theorem by61 : Try.prog.bytesOf 61 = 8 := by kernel_rfl
theorem zr61 : zeroOf Try.prog 61 = some [.undef] := by kernel_rfl
theorem zk61 : zeroOk Try.prog 61 = true := by kernel_rfl
theorem td62 : tdOf Try.prog 62 = .ptr := by kernel_rfl
theorem sz62 : Try.prog.cellsOf 62 = 1 := by kernel_rfl
theorem by62 : Try.prog.bytesOf 62 = 8 := by kernel_rfl
theorem zr62 : zeroOf Try.prog 62 = some [.undef] := by kernel_rfl
theorem zk62 : zeroOk Try.prog 62 = true := by kernel_rfl
theorem td63 : tdOf Try.prog 63 = .ptr := by kernel_rfl
theorem sz63 : Try.prog.cellsOf 63 = 1 := by kernel_rfl
theorem by63 : Try.prog.bytesOf 63 = 8 := by kernel_rfl
theorem zr63 : zeroOf Try.prog 63 = some [.undef] := by kernel_rfl
theorem zk63 : zeroOk Try.prog 63 = true := by kernel_rfl
theorem td64 : tdOf Try.prog 64 = .ptr := by kernel_rfl
theorem sz64 : Try.prog.cellsOf 64 = 1 := by kernel_rfl
theorem by64 : Try.prog.bytesOf 64 = 8 := by kernel_rfl
theorem zr64 : zeroOf Try.prog 64 = some [.undef] := by kernel_rfl
theorem zk64 : zeroOk Try.prog 64 = true := by kernel_rfl
theorem td65 : tdOf Try.prog 65 = .ptr := by kernel_rfl
theorem sz65 : Try.prog.cellsOf 65 = 1 := by kernel_rfl
theorem by65 : Try.prog.bytesOf 65 = 8 := by kernel_rfl
theorem zr65 : zeroOf Try.prog 65 = some [.undef] := by kernel_rfl
theorem zk65 : zeroOk Try.prog 65 = true := by kernel_rfl
theorem td66 : tdOf Try.prog 66 = .ptr := by kernel_rfl
theorem sz66 : Try.prog.cellsOf 66 = 1 := by kernel_rfl
theorem by66 : Try.prog.bytesOf 66 = 8 := by kernel_rfl
theorem zr66 : zeroOf Try.prog 66 = some [.undef] := by kernel_rfl
theorem zk66 : zeroOk Try.prog 66 = true := by kernel_rfl
theorem td67 : tdOf Try.prog 67 = .ptr := by kernel_rfl
theorem sz67 : Try.prog.cellsOf 67 = 1 := by kernel_rfl
theorem by67 : Try.prog.bytesOf 67 = 8 := by kernel_rfl
theorem zr67 : zeroOf Try.prog 67 = some [.undef] := by kernel_rfl
theorem zk67 : zeroOk Try.prog 67 = true := by kernel_rfl
theorem td68 : tdOf Try.prog 68 = .ptr := by kernel_rfl
theorem sz68 : Try.prog.cellsOf 68 = 1 := by kernel_rfl
theorem by68 : Try.prog.bytesOf 68 = 8 := by kernel_rfl
theorem zr68 : zeroOf Try.prog 68 = some [.undef] := by kernel_rfl
theorem zk68 : zeroOk Try.prog 68 = true := by kernel_rfl
theorem td69 : tdOf Try.prog 69 = .ptr := by kernel_rfl
theorem sz69 : Try.prog.cellsOf 69 = 1 := by kernel_rfl
theorem by69 : Try.prog.bytesOf 69 = 8 := by kernel_rfl
theorem zr69 : zeroOf Try.prog 69 = some [.undef] := by kernel_rfl
theorem zk69 : zeroOk Try.prog 69 = true := by kernel_rfl
theorem td70 : tdOf Try.prog 70 = .ptr := by kernel_rfl
theorem sz70 : Try.prog.cellsOf 70 = 1 := by kernel_rfl
theorem by70 : Try.prog.bytesOf 70 = 8 := by kernel_rfl
theorem zr70 : zeroOf Try.prog 70 = some [.undef] := by kernel_rfl
theorem zk70 : zeroOk Try.prog 70 = true := by kernel_rfl
theorem td71 : tdOf Try.prog 71 = .ptr := by kernel_rfl
theorem sz71 : Try.prog.cellsOf 71 = 1 := by kernel_rfl
theorem by71 : Try.prog.bytesOf 71 = 8 := by kernel_rfl
theorem zr71 : zeroOf Try.prog 71 = some [.undef] := by kernel_rfl
theorem zk71 : zeroOk Try.prog 71 = true := by kernel_rfl
theorem td72 : tdOf Try.prog 72 = .ptr := by kernel_rfl
theorem sz72 : Try.prog.cellsOf 72 = 1 := by kernel_rfl
theorem by72 : Try.prog.bytesOf 72 = 8 := by kernel_rfl
theorem zr72 : zeroOf Try.prog 72 = some [.undef] := by kernel_rfl
theorem zk72 : zeroOk Try.prog 72 = true := by kernel_rfl
theorem td73 : tdOf Try.prog 73 = .ptr := by kernel_rfl
theorem sz73 : Try.prog.cellsOf 73 = 1 := by kernel_rfl
theorem by73 : Try.prog.bytesOf 73 = 8 := by kernel_rfl
theorem zr73 : zeroOf Try.prog 73 = some [.undef] := by kernel_rfl
theorem zk73 : zeroOk Try.prog 73 = true := by kernel_rfl
theorem td74 : tdOf Try.prog 74 = .ptr := by kernel_rfl
theorem sz74 : Try.prog.cellsOf 74 = 1 := by kernel_rfl
theorem by74 : Try.prog.bytesOf 74 = 8 := by kernel_rfl
theorem zr74 : zeroOf Try.prog 74 = some [.undef] := by kernel_rfl
theorem zk74 : zeroOk Try.prog 74 = true := by kernel_rfl
theorem td75 : tdOf Try.prog 75 = .ptr := by kernel_rfl
theorem sz75 : Try.prog.cellsOf 75 = 1 := by kernel_rfl
theorem by75 : Try.prog.bytesOf 75 = 8 := by kernel_rfl
theorem zr75 : zeroOf Try.prog 75 = some [.undef] := by kernel_rfl
theorem zk75 : zeroOk Try.prog 75 = true := by kernel_rfl
theorem td76 : tdOf Try.prog 76 = .ptr := by kernel_rfl
theorem sz76 : Try.prog.cellsOf 76 = 1 := by kernel_rfl
theorem by76 : Try.prog.bytesOf 76 = 8 := by kernel_rfl
theorem zr76 : zeroOf Try.prog 76 = some [.undef] := by kernel_rfl
theorem zk76 : zeroOk Try.prog 76 = true := by kernel_rfl
theorem td77 : tdOf Try.prog 77 = .int .u64 := by kernel_rfl
theorem sz77 : Try.prog.cellsOf 77 = 1 := by kernel_rfl
theorem by77 : Try.prog.bytesOf 77 = 8 := by kernel_rfl
theorem zr77 : zeroOf Try.prog 77 = some [.int .u64 0] := by kernel_rfl
theorem zk77 : zeroOk Try.prog 77 = true := by kernel_rfl
theorem td78 : tdOf Try.prog 78 = .ptr := by kernel_rfl
theorem sz78 : Try.prog.cellsOf 78 = 1 := by kernel_rfl
theorem by78 : Try.prog.bytesOf 78 = 8 := by kernel_rfl
theorem zr78 : zeroOf Try.prog 78 = some [.undef] := by kernel_rfl
theorem zk78 : zeroOk Try.prog 78 = true := by kernel_rfl
theorem td79 : tdOf Try.prog 79 = .ptr := by kernel_rfl
theorem sz79 : Try.prog.cellsOf 79 = 1 := by kernel_rfl
theorem by79 : Try.prog.bytesOf 79 = 8 := by kernel_rfl
theorem zr79 : zeroOf Try.prog 79 = some [.undef] := by kernel_rfl
theorem zk79 : zeroOk Try.prog 79 = true := by kernel_rfl
theorem td80 : tdOf Try.prog 80 = .slice 5 := by kernel_rfl
theorem sz80 : Try.prog.cellsOf 80 = 1 := by kernel_rfl
theorem by80 : Try.prog.bytesOf 80 = 24 := by kernel_rfl
theorem zr80 : zeroOf Try.prog 80 = some [.sl .nil 0 []] := by kernel_rfl
theorem zk80 : zeroOk Try.prog 80 = true := by kernel_rfl
theorem td81 : tdOf Try.prog 81 = .struct [(0, 1, 9), (1, 1, 55)] := by kernel_rfl
theorem sz81 : Try.prog.cellsOf 81 = 2 := by kernel_rfl
theorem by81 : Try.prog.bytesOf 81 = 40 := by kernel_rfl
theorem zr81 : zeroOf Try.prog 81 = some [.str [], .sl .nil 0 []] := by kernel_rfl
theorem zk81 : zeroOk Try.prog 81 = true := by kernel_rfl
theorem td82 : tdOf Try.prog 82 = .struct [(0, 1, 9), (1, 1, 55)] := by kernel_rfl
theorem sz82 : Try.prog.cellsOf 82 = 2 := by kernel_rfl
theorem by82 : Try.prog.bytesOf 82 = 40 := by kernel_rfl
theorem zr82 : zeroOf Try.prog 82 = some [.str [], .sl .nil 0 []] := by kernel_rfl
theorem zk82 : zeroOk Try.prog 82 = true := by kernel_rfl
theorem td83 : tdOf Try.prog 83 = .slice 85 := by kernel_rfl
theorem sz83 : Try.prog.cellsOf 83 = 1 := by kernel_rfl
theorem by83 : Try.prog.bytesOf 83 = 24 := by kernel_rfl
theorem zr83 : zeroOf Try.prog 83 = some [.sl .nil 0 []] := by kernel_rfl
theorem zk83 : zeroOk Try.prog 83 = true := by kernel_rfl
theorem td84 : tdOf Try.prog 84 = .struct [(0, 1, 3), (1, 1, 9), (2, 1, 83), (3, 1, 26)] := by kernel_rfl
theorem sz84 : Try.prog.cellsOf 84 = 4 := by kernel_rfl
theorem by84 : Try.prog.bytesOf 84 = 72 := by kernel_rfl
theorem zr84 : zeroOf Try.prog 84 = some [.int .i64 0, .str [], .sl .nil 0 [], .sl .nil 0 []] := by kernel_rfl
theorem zk84 : zeroOk Try.prog 84 = true := by kernel_rfl
theorem td85 : tdOf Try.prog 85 = .struct [(0, 1, 3), (1, 1, 9), (2, 1, 83), (3, 1, 26)] := by kernel_rfl
theorem sz85 : Try.prog.cellsOf 85 = 4 := by kernel_rfl
theorem by85 : Try.prog.bytesOf 85 = 72 := by kernel_rfl
theorem zr85 : zeroOf Try.prog 85 = some [.int .i64 0, .str [], .sl .nil 0 [], .sl .nil 0 []] := by kernel_rfl
theorem zk85 : zeroOk Try.prog 85 = true := by kernel_rfl
theorem td86 : tdOf Try.prog 86 = .struct [(0, 1, 9), (1, 4, 85)] := by kernel_rfl
theorem sz86 : Try.prog.cellsOf 86 = 5 := by kernel_rfl
theorem by86 : Try.prog.bytesOf 86 = 88 := by kernel_rfl
theorem zr86 : zeroOf Try.prog 86 = some [.str [], .int .i64 0, .str [], .sl .nil 0 [], .sl .nil 0 []] := by kernel_rfl
theorem zk86 : zeroOk Try.prog 86 = true := by kernel_rfl
theorem td87 : tdOf Try.prog 87 = .struct [(0, 1, 9), (1, 4, 85)] := by kernel_rfl
theorem sz87 : Try.prog.cellsOf 87 = 5 := by kernel_rfl
theorem by87 : Try.prog.bytesOf 87 = 88 := by kernel_rfl
theorem zr87 : zeroOf Try.prog 87 = some [.str [], .int .i64 0, .str [], .sl .nil 0 [], .sl .nil 0 []] := by kernel_rfl
theorem zk87 : zeroOk Try.prog 87 = true := by kernel_rfl
theorem td88 : tdOf Try.prog 88 = .ptr := by kernel_rfl
theorem sz88 : Try.prog.cellsOf 88 = 1 := by kernel_rfl
theorem by88 : Try.prog.bytesOf 88 = 8 := by kernel_rfl
theorem zr88 : zeroOf Try.prog 88 = some [.undef] := by kernel_rfl
theorem zk88 : zeroOk Try.prog 88 = true := by kernel_rfl
theorem td89 : tdOf Try.prog 89 = .ptr := by kernel_rfl
theorem sz89 : Try.prog.cellsOf 89 = 1 := by kernel_rfl
theorem by89 : Try.prog.bytesOf 89 = 8 := by kernel_rfl
theorem zr89 : zeroOf Try.prog 89 = some [.undef] := by kernel_rfl
theorem zk89 : zeroOk Try.prog 89 = true := by kernel_rfl
theorem td90 : tdOf Try.prog 90 = .struct [(0, 1, 9), (1, 1, 44)] := by kernel_rfl
theorem sz90 : Try.prog.cellsOf 90 = 2 := by kernel_rfl
theorem by90 : Try.prog.bytesOf 90 = 40 := by kernel_rfl
theorem zr90 : zeroOf Try.prog 90 = some [.str [], .sl .nil 0 []] := by kernel_rfl
theorem zk90 : zeroOk Try.prog 90 = true := by kernel_rfl
theorem td91 : tdOf Try.prog 91 = .struct [(0, 1, 9), (1, 1, 44)] := by kernel_rfl
theorem sz91 : Try.prog.cellsOf 91 = 2 := by kernel_rfl
theorem by91 : Try.prog.bytesOf 91 = 40 := by kernel_rfl
theorem zr91 : zeroOf Try.prog 91 = some [.str [], .sl .nil 0 []] := by kernel_rfl
theorem zk91 : zeroOk Try.prog 91 = true := by kernel_rfl
theorem td92 : tdOf Try.prog 92 = .ptr := by kernel_rfl
theorem sz92 : Try.prog.cellsOf 92 = 1 := by kernel_rfl
theorem by92 : Try.prog.bytesOf 92 = 8 := by kernel_rfl
theorem zr92 : zeroOf Try.prog 92 = some [.undef] := by kernel_rfl
theorem zk92 : zeroOk Try.prog 92 = true := by kernel_rfl
theorem td93 : tdOf Try.prog 93 = .slice 95 := by kernel_rfl
theorem sz93 : Try.prog.cellsOf 93 = 1 := by kernel_rfl
theorem by93 : Try.prog.bytesOf 93 = 24 := by kernel_rfl
theorem zr93 : zeroOf Try.prog 93 = some [.sl .nil 0 []] := by kernel_rfl
theorem zk93 : zeroOk Try.prog 93 = true := by kernel_rfl
theorem td94 : tdOf Try.prog 94 = .struct [(0, 1, 3), (1, 1, 9), (2, 1, 93), (3, 1, 26)] := by kernel_rfl
theorem sz94 : Try.prog.cellsOf 94 = 4 := by kernel_rfl
theorem by94 : Try.prog.bytesOf 94 = 72 := by kernel_rfl
theorem zr94 : zeroOf Try.prog 94 = some [.int .i64 0, .str [], .sl .nil 0 [], .sl .nil 0 []] := by kernel_rfl
theorem zk94 : zeroOk Try.prog 94 = true := by kernel_rfl
theorem td95 : tdOf Try.prog 95 = .struct [(0, 1, 3), (1, 1, 9), (2, 1, 93), (3, 1, 26)] := by kernel_rfl
theorem sz95 : Try.prog.cellsOf 95 = 4 := by kernel_rfl
theorem by95 : Try.prog.bytesOf 95 = 72 := by kernel_rfl
theorem zr95 : zeroOf Try.prog 95 = some [.int .i64 0, .str [], .sl .nil 0 [], .sl .nil 0 []] := by kernel_rfl
theorem zk95 : zeroOk Try.prog 95 = true := by kernel_rfl
theorem td96 : tdOf Try.prog 96 = .struct [(0, 1, 9), (1, 4, 95)] := by kernel_rfl
theorem sz96 : Try.prog.cellsOf 96 = 5 := by kernel_rfl
theorem by96 : Try.prog.bytesOf 96 = 88 := by kernel_rfl
theorem zr96 : zeroOf Try.prog 96 = some [.str [], .int .i64 0, .str [], .sl .nil 0 [], .sl .nil 0 []] := by kernel_rfl
theorem zk96 : zeroOk Try.prog 96 = true := by kernel_rfl
theorem td97 : tdOf Try.prog 97 = .struct [(0, 1, 9), (1, 4, 95)] := by kernel_rfl
theorem sz97 : Try.prog.cellsOf 97 = 5 := by kernel_rfl
theorem by97 : Try.prog.bytesOf 97 = 88 := by kernel_rfl
theorem zr97 : zeroOf Try.prog 97 = some [.str [], .int .i64 0, .str [], .sl .nil 0 [], .sl .nil 0 []] := by kernel_rfl
theorem zk97 : zeroOk Try.prog 97 = true := by kernel_rfl
theorem td98 : tdOf Try.prog 98 = .ptr := by kernel_rfl
theorem sz98 : Try.prog.cellsOf 98 = 1 := by kernel_rfl
theorem by98 : Try.prog.bytesOf 98 = 8 := by kernel_rfl
theorem zr98 : zeroOf Try.prog 98 = some [.undef] := by kernel_rfl
theorem zk98 : zeroOk Try.prog 98 = true := by kernel_rfl
theorem td99 : tdOf Try.prog 99 = .ptr := by kernel_rfl
theorem sz99 : Try.prog.cellsOf 99 = 1 := by kernel_rfl
theorem by99 : Try.prog.bytesOf 99 = 8 := by kernel_rfl
theorem zr99 : zeroOf Try.prog 99 = some [.undef] := by kernel_rfl
theorem zk99 : zeroOk Try.prog 99 = true := by kernel_rfl
theorem td100 : tdOf Try.prog 100 = .ptr := by kernel_rfl
theorem sz100 : Try.prog.cellsOf 100 = 1 := by kernel_rfl
theorem by100 : Try.prog.bytesOf 100 = 8 := by kernel_rfl
theorem zr100 : zeroOf Try.prog 100 = some [.undef] := by kernel_rfl
theorem zk100 : zeroOk Try.prog 100 = true := by kernel_rfl
theorem td101 : tdOf Try.prog 101 = .ptr := by kernel_rfl
theorem sz101 : Try.prog.cellsOf 101 = 1 := by kernel_rfl
theorem by101 : Try.prog.bytesOf 101 = 8 := by kernel_rfl
theorem zr101 : zeroOf Try.prog 101 = some [.undef] := by kernel_rfl
theorem zk101 : zeroOk Try.prog 101 = true := by kernel_rfl
theorem td102 : tdOf Try.prog 102 = .ptr := by kernel_rfl
theorem sz102 : Try.prog.cellsOf 102 = 1 := by kernel_rfl
theorem by102 : Try.prog.bytesOf 102 = 8 := by kernel_rfl
theorem zr102 : zeroOf Try.prog 102 = some [.undef] := by kernel_rfl
theorem zk102 : zeroOk Try.prog 102 = true := by kernel_rfl
theorem td103 : tdOf Try.prog 103 = .int .i64 := by kernel_rfl
theorem sz103 : Try.prog.cellsOf 103 = 1 := by kernel_rfl
theorem by103 : Try.prog.bytesOf 103 = 8 := by kernel_rfl
theorem zr103 : zeroOf Try.prog 103 = some [.int .i64 0] := by kernel_rfl
theorem zk103 : zeroOk Try.prog 103 = true := by kernel_rfl
theorem td105 : tdOf Try.prog 105 = .ptr := by kernel_rfl
theorem sz105 : Try.prog.cellsOf 105 = 1 := by kernel_rfl
theorem by105 : Try.prog.bytesOf 105 = 8 := by kernel_rfl
theorem zr105 : zeroOf Try.prog 105 = some [.undef] := by kernel_rfl
theorem zk105 : zeroOk Try.prog 105 = true := by kernel_rfl
theorem td106 : tdOf Try.prog 106 = .ptr := by kernel_rfl
theorem sz106 : Try.prog.cellsOf 106 = 1 := by kernel_rfl
theorem by106 : Try.prog.bytesOf 106 = 8 := by kernel_rfl
theorem zr106 : zeroOf Try.prog 106 = some [.undef] := by kernel_rfl
theorem zk106 : zeroOk Try.prog 106 = true := by kernel_rfl
theorem td107 : tdOf Try.prog 107 = .ptr := by kernel_rfl
theorem sz107 : Try.prog.cellsOf 107 = 1 := by kernel_rfl
theorem by107 : Try.prog.bytesOf 107 = 8 := by kernel_rfl
theorem zr107 : zeroOf Try.prog 107 = some [.undef] := by kernel_rfl
theorem zk107 : zeroOk Try.prog 107 = true := by kernel_rfl
theorem td108 : tdOf Try.prog 108 = .ptr := by kernel_rfl
theorem sz108 : Try.prog.cellsOf 108 = 1 := by kernel_rfl
theorem by108 : Try.prog.bytesOf 108 = 8 := by kernel_rfl
theorem zr108 : zeroOf Try.prog 108 = some [.undef] := by kernel_rfl
theorem zk108 : zeroOk Try.prog 108 = true := by kernel_rfl
theorem td110 : tdOf Try.prog 110 = .ptr := by kernel_rfl
theorem sz110 : Try.prog.cellsOf 110 = 1 := by kernel_rfl
theorem by110 : Try.prog.bytesOf 110 = 8 := by kernel_rfl
theorem zr110 : zeroOf Try.prog 110 = some [.undef] := by kernel_rfl
theorem zk110 : zeroOk Try.prog 110 = true := by kernel_rfl
theorem td111 : tdOf Try.prog 111 = .ptr := by kernel_rfl
theorem sz111 : Try.prog.cellsOf 111 = 1 := by kernel_rfl
theorem by111 : Try.prog.bytesOf 111 = 8 := by kernel_rfl
theorem zr111 : zeroOf Try.prog 111 = some [.undef] := by kernel_rfl
theorem zk111 : zeroOk Try.prog 111 = true := by kernel_rfl
theorem td112 : tdOf Try.prog 112 = .int .u32 := by kernel_rfl
theorem sz112 : Try.prog.cellsOf 112 = 1 := by kernel_rfl
theorem by112 : Try.prog.bytesOf 112 = 4 := by kernel_rfl
theorem zr112 : zeroOf Try.prog 112 = some [.int .u32 0] := by kernel_rfl
theorem zk112 : zeroOk Try.prog 112 = true := by kernel_rfl
theorem td113 : tdOf Try.prog 113 = .ptr := by kernel_rfl
theorem sz113 : Try.prog.cellsOf 113 = 1 := by kernel_rfl
theorem by113 : Try.prog.bytesOf 113 = 8 := by kernel_rfl
theorem zr113 : zeroOf Try.prog 113 = some [.undef] := by kernel_rfl
theorem zk113 : zeroOk Try.prog 113 = true := by kernel_rfl
theorem td114 : tdOf Try.prog 114 = .int .u64 := by kernel_rfl
theorem sz114 : Try.prog.cellsOf 114 = 1 := by kernel_rfl
theorem by114 : Try.prog.bytesOf 114 = 8 := by kernel_rfl
theorem zr114 : zeroOf Try.prog 114 = some [.int .u64 0] := by kernel_rfl
theorem zk114 : zeroOk Try.prog 114 = true := by kernel_rfl
theorem td115 : tdOf Try.prog 115 = .ptr := by kernel_rfl
theorem sz115 : Try.prog.cellsOf 115 = 1 := by kernel_rfl
theorem by115 : Try.prog.bytesOf 115 = 8 := by kernel_rfl
theorem zr115 : zeroOf Try.prog 115 = some [.undef] := by kernel_rfl
theorem zk115 : zeroOk Try.prog 115 = true := by kernel_rfl
theorem td116 : tdOf Try.prog 116 = .ptr := by kernel_rfl
theorem sz116 : Try.prog.cellsOf 116 = 1 := by kernel_rfl
theorem by116 : Try.prog.bytesOf 116 = 8 := by kernel_rfl
theorem zr116 : zeroOf Try.prog 116 = some [.undef] := by kernel_rfl
theorem zk116 : zeroOk Try.prog 116 = true := by kernel_rfl
theorem td117 : tdOf Try.prog 117 = .ptr := by kernel_rfl
theorem sz117 : Try.prog.cellsOf 117 = 1 := by kernel_rfl
theorem by117 : Try.prog.bytesOf 117 = 8 := by kernel_rfl
theorem zr117 : zeroOf Try.prog 117 = some [.undef] := by kernel_rfl
theorem zk117 : zeroOk Try.prog 117 = true := by kernel_rfl
theorem td118 : tdOf Try.prog 118 = .ptr := by kernel_rfl
theorem sz118 : Try.prog.cellsOf 118 = 1 := by kernel_rfl
theorem by118 : Try.prog.bytesOf 118 = 8 := by kernel_rfl
theorem zr118 : zeroOf Try.prog 118 = some [.undef] := by kernel_rfl
theorem zk118 : zeroOk Try.prog 118 = true := by kernel_rfl
theorem td119 : tdOf Try.prog 119 = .ptr := by kernel_rfl
theorem sz119 : Try.prog.cellsOf 119 = 1 := by kernel_rfl
theorem by119 : Try.prog.bytesOf 119 = 8 := by kernel_rfl
theorem zr119 : zeroOf Try.prog 119 = some [.undef] := by kernel_rfl
theorem zk119 : zeroOk Try.prog 119 = true := by kernel_rfl
theorem td120 : tdOf Try.prog 120 = .ptr := by kernel_rfl
theorem sz120 : Try.prog.cellsOf 120 = 1 := by kernel_rfl
theorem by120 : Try.prog.bytesOf 120 = 8 := by kernel_rfl
theorem zr120 : zeroOf Try.prog 120 = some [.undef] := by kernel_rfl
theorem zk120 : zeroOk Try.prog 120 = true := by kernel_rfl
theorem td121 : tdOf Try.prog 121 = .int .u64 := by kernel_rfl
theorem sz121 : Try.prog.cellsOf 121 = 1 := by kernel_rfl
theorem by121 : Try.prog.bytesOf 121 = 8 := by kernel_rfl
theorem zr121 : zeroOf Try.prog 121 = some [.int .u64 0] := by kernel_rfl
theorem zk121 : zeroOk Try.prog 121 = true := by kernel_rfl
theorem td122 : tdOf Try.prog 122 = .ptr := by kernel_rfl
theorem sz122 : Try.prog.cellsOf 122 = 1 := by kernel_rfl
theorem by122 : Try.prog.bytesOf 122 = 8 := by kernel_rfl
theorem zr122 : zeroOf Try.prog 122 = some [.undef] := by kernel_rfl
theorem zk122 : zeroOk Try.prog 122 = true := by kernel_rfl
theorem td123 : tdOf Try.prog 123 = .ptr := by kernel_rfl
theorem sz123 : Try.prog.cellsOf 123 = 1 := by kernel_rfl
theorem by123 : Try.prog.bytesOf 123 = 8 := by kernel_rfl
theorem zr123 : zeroOf Try.prog 123 = some [.undef] := by kernel_rfl
theorem zk123 : zeroOk Try.prog 123 = true := by kernel_rfl
theorem td124 : tdOf Try.prog 124 = .ptr := by kernel_rfl
theorem sz124 : Try.prog.cellsOf 124 = 1 := by kernel_rfl
theorem by124 : Try.prog.bytesOf 124 = 8 := by kernel_rfl
theorem zr124 : zeroOf Try.prog 124 = some [.undef] := by kernel_rfl
theorem zk124 : zeroOk Try.prog 124 = true := by kernel_rfl
theorem td125 : tdOf Try.prog 125 = .ptr := by kernel_rfl
theorem sz125 : Try.prog.cellsOf 125 = 1 := by kernel_rfl
theorem by125 : Try.prog.bytesOf 125 = 8 := by kernel_rfl
theorem td126 : tdOf Try.prog 126 = .ptr := by kernel_rfl
theorem sz126 : Try.prog.cellsOf 126 = 1 := by kernel_rfl
theorem by126 : Try.prog.bytesOf 126 = 8 := by kernel_rfl
theorem zr126 : zeroOf Try.prog 126 = some [.undef] := by kernel_rfl
theorem zk126 : zeroOk Try.prog 126 = true := by kernel_rfl
theorem td127 : tdOf Try.prog 127 = .ptr := by kernel_rfl
theorem sz127 : Try.prog.cellsOf 127 = 1 := by kernel_rfl
theorem by127 : Try.prog.bytesOf 127 = 8 := by kernel_rfl
theorem zr127 : zeroOf Try.prog 127 = some [.undef] := by kernel_rfl
theorem zk127 : zeroOk Try.prog 127 = true := by kernel_rfl
theorem td128 : tdOf Try.prog 128 = .ptr := by kernel_rfl
theorem sz128 : Try.prog.cellsOf 128 = 1 := by kernel_rfl
theorem by128 : Try.prog.bytesOf 128 = 8 := by kernel_rfl
theorem zr128 : zeroOf Try.prog 128 = some [.undef] := by kernel_rfl
theorem zk128 : zeroOk Try.prog 128 = true := by kernel_rfl
theorem td129 : tdOf Try.prog 129 = .ptr := by kernel_rfl
theorem sz129 : Try.prog.cellsOf 129 = 1 := by kernel_rfl
theorem by129 : Try.prog.bytesOf 129 = 8 := by kernel_rfl
theorem zr129 : zeroOf Try.prog 129 = some [.undef] := by kernel_rfl
theorem zk129 : zeroOk Try.prog 129 = true := by kernel_rfl
theorem td130 : tdOf Try.prog 130 = .ptr := by kernel_rfl
theorem sz130 : Try.prog.cellsOf 130 = 1 := by kernel_rfl
theorem by130 : Try.prog.bytesOf 130 = 8 := by kernel_rfl
theorem zr130 : zeroOf Try.prog 130 = some [.undef] := by kernel_rfl
theorem zk130 : zeroOk Try.prog 130 = true := by kernel_rfl
theorem td131 : tdOf Try.prog 131 = .ptr := by kernel_rfl
theorem sz131 : Try.prog.cellsOf 131 = 1 := by kernel_rfl
theorem by131 : Try.prog.bytesOf 131 = 8 := by kernel_rfl
theorem zr131 : zeroOf Try.prog 131 = some [.undef] := by kernel_rfl
theorem zk131 : zeroOk Try.prog 131 = true := by kernel_rfl
theorem td132 : tdOf Try.prog 132 = .ptr := by kernel_rfl
theorem sz132 : Try.prog.cellsOf 132 = 1 := by kernel_rfl
theorem by132 : Try.prog.bytesOf 132 = 8 := by kernel_rfl
theorem td134 : tdOf Try.prog 134 = .ptr := by kernel_rfl
theorem sz134 : Try.prog.cellsOf 134 = 1 := by kernel_rfl
theorem by134 : Try.prog.bytesOf 134 = 8 := by kernel_rfl
theorem zr134 : zeroOf Try.prog 134 = some [.undef] := by kernel_rfl
theorem zk134 : zeroOk Try.prog 134 = true := by kernel_rfl
theorem td135 : tdOf Try.prog 135 = .ptr := by kernel_rfl
theorem sz135 : Try.prog.cellsOf 135 = 1 := by kernel_rfl
theorem by135 : Try.prog.bytesOf 135 = 8 := by kernel_rfl
theorem zr135 : zeroOf Try.prog 135 = some [.undef] := by kernel_rfl
theorem zk135 : zeroOk Try.prog 135 = true := by kernel_rfl
theorem td136 : tdOf Try.prog 136 = .ptr := by kernel_rfl
theorem sz136 : Try.prog.cellsOf 136 = 1 := by kernel_rfl
theorem by136 : Try.prog.bytesOf 136 = 8 := by kernel_rfl
theorem zr136 : zeroOf Try.prog 136 = some [.undef] := by kernel_rfl
theorem zk136 : zeroOk Try.prog 136 = true := by kernel_rfl
theorem td137 : tdOf Try.prog 137 = .struct [(0, 1, 17), (1, 1, 17), (2, 1, 17), (3, 1, 9)] := by kernel_rfl
theorem sz137 : Try.prog.cellsOf 137 = 4 := by kernel_rfl
theorem by137 : Try.prog.bytesOf 137 = 40 := by kernel_rfl
theorem td138 : tdOf Try.prog 138 = .struct [(0, 1, 17), (1, 1, 17), (2, 1, 17), (3, 1, 9)] := by kernel_rfl
theorem sz138 : Try.prog.cellsOf 138 = 4 := by kernel_rfl
theorem by138 : Try.prog.bytesOf 138 = 40 := by kernel_rfl
theorem td140 : tdOf Try.prog 140 = .struct [(0, 0, 139)] := by kernel_rfl
theorem sz140 : Try.prog.cellsOf 140 = 0 := by kernel_rfl
theorem by140 : Try.prog.bytesOf 140 = 0 := by kernel_rfl
theorem zr140 : zeroOf Try.prog 140 = some [] := by kernel_rfl
theorem zk140 : zeroOk Try.prog 140 = true := by kernel_rfl
theorem td141 : tdOf Try.prog 141 = .struct [(0, 0, 139)] := by kernel_rfl
theorem sz141 : Try.prog.cellsOf 141 = 0 := by kernel_rfl
theorem by141 : Try.prog.bytesOf 141 = 0 := by kernel_rfl
theorem zr141 : zeroOf Try.prog 141 = some [] := by kernel_rfl
theorem zk141 : zeroOk Try.prog 141 = true := by kernel_rfl
theorem td142 : tdOf Try.prog 142 = .ptr := by kernel_rfl
theorem sz142 : Try.prog.cellsOf 142 = 1 := by kernel_rfl
theorem by142 : Try.prog.bytesOf 142 = 8 := by kernel_rfl
theorem zr142 : zeroOf Try.prog 142 = some [.undef] := by kernel_rfl
theorem zk142 : zeroOk Try.prog 142 = true := by kernel_rfl
theorem td143 : tdOf Try.prog 143 = .int .u8 := by kernel_rfl
theorem sz143 : Try.prog.cellsOf 143 = 1 := by kernel_rfl
theorem by143 : Try.prog.bytesOf 143 = 1 := by kernel_rfl
theorem zr143 : zeroOf Try.prog 143 = some [.int .u8 0] := by kernel_rfl
theorem zk143 : zeroOk Try.prog 143 = true := by kernel_rfl
theorem td144 : tdOf Try.prog 144 = .int .u8 := by kernel_rfl
theorem sz144 : Try.prog.cellsOf 144 = 1 := by kernel_rfl
theorem by144 : Try.prog.bytesOf 144 = 1 := by kernel_rfl
theorem zr144 : zeroOf Try.prog 144 = some [.int .u8 0] := by kernel_rfl
theorem zk144 : zeroOk Try.prog 144 = true := by kernel_rfl
theorem td145 : tdOf Try.prog 145 = .ptr := by kernel_rfl
theorem sz145 : Try.prog.cellsOf 145 = 1 := by kernel_rfl
theorem by145 : Try.prog.bytesOf 145 = 8 := by kernel_rfl
theorem zr145 : zeroOf Try.prog 145 = some [.undef] := by kernel_rfl
theorem zk145 : zeroOk Try.prog 145 = true := by kernel_rfl
theorem td146 : tdOf Try.prog 146 = .ptr := by kernel_rfl
theorem sz146 : Try.prog.cellsOf 146 = 1 := by kernel_rfl
theorem by146 : Try.prog.bytesOf 146 = 8 := by kernel_rfl
theorem td147 : tdOf Try.prog 147 = .int .i32 := by kernel_rfl
theorem sz147 : Try.prog.cellsOf 147 = 1 := by kernel_rfl
theorem by147 : Try.prog.bytesOf 147 = 4 := by kernel_rfl
theorem zr147 : zeroOf Try.prog 147 = some [.int .i32 0] := by kernel_rfl
theorem zk147 : zeroOk Try.prog 147 = true := by kernel_rfl
theorem td148 : tdOf Try.prog 148 = .int .i32 := by kernel_rfl
theorem sz148 : Try.prog.cellsOf 148 = 1 := by kernel_rfl
theorem by148 : Try.prog.bytesOf 148 = 4 := by kernel_rfl
theorem zr148 : zeroOf Try.prog 148 = some [.int .i32 0] := by kernel_rfl
theorem zk148 : zeroOk Try.prog 148 = true := by kernel_rfl
theorem td149 : tdOf Try.prog 149 = .struct [(0, 1, 12), (1, 1, 12), (2, 1, 112), (3, 1, 143), (4, 1, 5), (5, 1, 5), (6, 1, 144), (7, 1, 145), (8, 1, 146), (9, 1, 147), (10, 1, 148)] := by kernel_rfl
theorem sz149 : Try.prog.cellsOf 149 = 11 := by kernel_rfl
theorem by149 : Try.prog.bytesOf 149 = 48 := by kernel_rfl
theorem td150 : tdOf Try.prog 150 = .struct [(0, 1, 12), (1, 1, 12), (2, 1, 112), (3, 1, 143), (4, 1, 5), (5, 1, 5), (6, 1, 144), (7, 1, 145), (8, 1, 146), (9, 1, 147), (10, 1, 148)] := by kernel_rfl
theorem sz150 : Try.prog.cellsOf 150 = 11 := by kernel_rfl
theorem by150 : Try.prog.bytesOf 150 = 48 := by kernel_rfl
attribute [simp] td1 sz1 by1 zr1 zk1 td2 sz2 by2 zr2 zk2 td3 sz3 by3 zr3 zk3 td4 sz4 by4 zr4 zk4 td5 sz5 by5 zr5 zk5 td6 sz6 by6 zr6 zk6 td7 sz7 by7 zr7 zk7 td8 sz8 by8 zr8 zk8 td9 sz9 by9 zr9 zk9 td10 sz10 by10 zr10 zk10 td11 sz11 by11 zr11 zk11 td12 sz12 by12 zr12 zk12 td13 sz13 by13 zr13 zk13 td14 sz14 by14 zr14 zk14 td15 sz15 by15 td16 sz16 by16 td17 sz17 by17 td18 sz18 by18 td19 sz19 by19 td21 sz21 by21 zr21 zk21 td22 sz22 by22 zr22 zk22 td23 sz23 by23 zr23 zk23 td24 sz24 by24 zr24 zk24 td25 sz25 by25 zr25 zk25 td26 sz26 by26 zr26 zk26 td27 sz27 by27 zr27 zk27 td28 sz28 by28 zr28 zk28 td29 sz29 by29 zr29 zk29 td30 sz30 by30 zr30 zk30 td31 sz31 by31 zr31 zk31 td32 sz32 by32 zr32 zk32 td33 sz33 by33 zr33 zk33 td34 sz34 by34 zr34 zk34 td35 sz35 by35 zr35 zk35 td36 sz36 by36 zr36 zk36 td37 sz37 by37 zr37 zk37 td38 sz38 by38 zr38 zk38 td39 sz39 by39 zr39 zk39 td40 sz40 by40 zr40 zk40 td41 sz41 by41 zr41 zk41 td42 sz42 by42 zr42 zk42 td43 sz43 by43 zr43 zk43 td44 sz44 by44 zr44 zk44 td45 sz45 by45 zr45 zk45 td46 sz46 by46 zr46 zk46 td47 sz47 by47 zr47 zk47 td48 sz48 by48 zr48 zk48 td49 sz49 by49 zr49 zk49 td50 sz50 by50 zr50 zk50 td51 sz51 by51 zr51 zk51 td52 sz52 by52 zr52 zk52 td53 sz53 by53 zr53 zk53 td54 sz54 by54 zr54 zk54 td55 sz55 by55 zr55 zk55 td56 sz56 by56 zr56 zk56 td57 sz57 by57 zr57 zk57 td58 sz58 by58 zr58 zk58 td59 sz59 by59 zr59 zk59 td60 sz60 by60 zr60 zk60 td61 sz61 by61 zr61 zk61 td62 sz62 by62 zr62 zk62 td63 sz63 by63 zr63 zk63 td64 sz64 by64 zr64 zk64 td65 sz65 by65 zr65 zk65 td66 sz66 by66 zr66 zk66 td67 sz67 by67 zr67 zk67 td68 sz68 by68 zr68 zk68 td69 sz69 by69 zr69 zk69 td70 sz70 by70 zr70 zk70 td71 sz71 by71 zr71 zk71 td72 sz72 by72 zr72 zk72 td73 sz73 by73 zr73 zk73 td74 sz74 by74 zr74 zk74 td75 sz75 by75 zr75 zk75 td76 sz76 by76 zr76 zk76 td77 sz77 by77 zr77 zk77 td78 sz78 by78 zr78 zk78 td79 sz79 by79 zr79 zk79 td80 sz80 by80 zr80 zk80 td81 sz81 by81 zr81 zk81 td82 sz82 by82 zr82 zk82 td83 sz83 by83 zr83 zk83 td84 sz84 by84 zr84 zk84 td85 sz85 by85 zr85 zk85 td86 sz86 by86 zr86 zk86 td87 sz87 by87 zr87 zk87 td88 sz88 by88 zr88 zk88 td89 sz89 by89 zr89 zk89 td90 sz90 by90 zr90 zk90 td91 sz91 by91 zr91 zk91 td92 sz92 by92 zr92 zk92 td93 sz93 by93 zr93 zk93 td94 sz94 by94 zr94 zk94 td95 sz95 by95 zr95 zk95 td96 sz96 by96 zr96 zk96 td97 sz97 by97 zr97 zk97 td98 sz98 by98 zr98 zk98 td99 sz99 by99 zr99 zk99 td100 sz100 by100 zr100 zk100 td101 sz101 by101 zr101 zk101 td102 sz102 by102 zr102 zk102 td103 sz103 by103 zr103 zk103 td105 sz105 by105 zr105 zk105 td106 sz106 by106 zr106 zk106 td107 sz107 by107 zr107 zk107 td108 sz108 by108 zr108 zk108 td110 sz110 by110 zr110 zk110 td111 sz111 by111 zr111 zk111 td112 sz112 by112 zr112 zk112 td113 sz113 by113 zr113 zk113 td114 sz114 by114 zr114 zk114 td115 sz115 by115 zr115 zk115 td116 sz116 by116 zr116 zk116 td117 sz117 by117 zr117 zk117 td118 sz118 by118 zr118 zk118 td119 sz119 by119 zr119 zk119 td120 sz120 by120 zr120 zk120 td121 sz121 by121 zr121 zk121 td122 sz122 by122 zr122 zk122 td123 sz123 by123 zr123 zk123 td124 sz124 by124 zr124 zk124 td125 sz125 by125 td126 sz126 by126 zr126 zk126 td127 sz127 by127 zr127 zk127 td128 sz128 by128 zr128 zk128 td129 sz129 by129 zr129 zk129 td130 sz130 by130 zr130 zk130 td131 sz131 by131 zr131 zk131 td132 sz132 by132 td134 sz134 by134 zr134 zk134 td135 sz135 by135 zr135 zk135 td136 sz136 by136 zr136 zk136 td137 sz137 by137 td138 sz138 by138 td140 sz140 by140 zr140 zk140 td141 sz141 by141 zr141 zk141 td142 sz142 by142 zr142 zk142 td143 sz143 by143 zr143 zk143 td144 sz144 by144 zr144 zk144 td145 sz145 by145 zr145 zk145 td146 sz146 by146 td147 sz147 by147 zr147 zk147 td148 sz148 by148 zr148 zk148 td149 sz149 by149 td150 sz150 by150
end Go.Proofs.Ytkpdlbidadcdjaa.Abs
