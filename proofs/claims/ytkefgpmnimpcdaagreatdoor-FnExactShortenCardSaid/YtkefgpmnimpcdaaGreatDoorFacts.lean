/- PRINTED by gen.py: the seat's types. No condition. -/
import Derived.Test.YtkefgpmnimpcdaaGreatDoorAbsL
import Derived.Test.YtkefgpmnimpcdaaGreatDoorProg
import Derived.KernelRfl
namespace Go.Proofs.YtkefgpmnimpcdaaGreatDoor.Abs
open Go
theorem td1 : tdOf Tryz.prog 1 = .ptr := by kernel_rfl
theorem sz1 : Tryz.prog.cellsOf 1 = 1 := by kernel_rfl
theorem by1 : Tryz.prog.bytesOf 1 = 8 := by kernel_rfl
theorem zr1 : zeroOf Tryz.prog 1 = some [.undef] := by kernel_rfl
theorem zk1 : zeroOk Tryz.prog 1 = true := by kernel_rfl
theorem td2 : tdOf Tryz.prog 2 = .int .i64 := by kernel_rfl
theorem sz2 : Tryz.prog.cellsOf 2 = 1 := by kernel_rfl
theorem by2 : Tryz.prog.bytesOf 2 = 8 := by kernel_rfl
theorem zr2 : zeroOf Tryz.prog 2 = some [.int .i64 0] := by kernel_rfl
theorem zk2 : zeroOk Tryz.prog 2 = true := by kernel_rfl
theorem td3 : tdOf Tryz.prog 3 = .int .i64 := by kernel_rfl
theorem sz3 : Tryz.prog.cellsOf 3 = 1 := by kernel_rfl
theorem by3 : Tryz.prog.bytesOf 3 = 8 := by kernel_rfl
theorem zr3 : zeroOf Tryz.prog 3 = some [.int .i64 0] := by kernel_rfl
theorem zk3 : zeroOk Tryz.prog 3 = true := by kernel_rfl
theorem td4 : tdOf Tryz.prog 4 = .bool := by kernel_rfl
theorem sz4 : Tryz.prog.cellsOf 4 = 1 := by kernel_rfl
theorem by4 : Tryz.prog.bytesOf 4 = 1 := by kernel_rfl
theorem zr4 : zeroOf Tryz.prog 4 = some [.bool false] := by kernel_rfl
theorem zk4 : zeroOk Tryz.prog 4 = true := by kernel_rfl
theorem td5 : tdOf Tryz.prog 5 = .int .u8 := by kernel_rfl
theorem sz5 : Tryz.prog.cellsOf 5 = 1 := by kernel_rfl
theorem by5 : Tryz.prog.bytesOf 5 = 1 := by kernel_rfl
theorem zr5 : zeroOf Tryz.prog 5 = some [.int .u8 0] := by kernel_rfl
theorem zk5 : zeroOk Tryz.prog 5 = true := by kernel_rfl
theorem td6 : tdOf Tryz.prog 6 = .int .u8 := by kernel_rfl
theorem sz6 : Tryz.prog.cellsOf 6 = 1 := by kernel_rfl
theorem by6 : Tryz.prog.bytesOf 6 = 1 := by kernel_rfl
theorem zr6 : zeroOf Tryz.prog 6 = some [.int .u8 0] := by kernel_rfl
theorem zk6 : zeroOk Tryz.prog 6 = true := by kernel_rfl
theorem td7 : tdOf Tryz.prog 7 = .struct [(0, 1, 2), (1, 1, 3), (2, 1, 4), (3, 1, 6)] := by kernel_rfl
theorem sz7 : Tryz.prog.cellsOf 7 = 4 := by kernel_rfl
theorem by7 : Tryz.prog.bytesOf 7 = 24 := by kernel_rfl
theorem zr7 : zeroOf Tryz.prog 7 = some [.int .i64 0, .int .i64 0, .bool false, .int .u8 0] := by kernel_rfl
theorem zk7 : zeroOk Tryz.prog 7 = true := by kernel_rfl
theorem td8 : tdOf Tryz.prog 8 = .struct [(0, 1, 2), (1, 1, 3), (2, 1, 4), (3, 1, 6)] := by kernel_rfl
theorem sz8 : Tryz.prog.cellsOf 8 = 4 := by kernel_rfl
theorem by8 : Tryz.prog.bytesOf 8 = 24 := by kernel_rfl
theorem zr8 : zeroOf Tryz.prog 8 = some [.int .i64 0, .int .i64 0, .bool false, .int .u8 0] := by kernel_rfl
theorem zk8 : zeroOk Tryz.prog 8 = true := by kernel_rfl
theorem td9 : tdOf Tryz.prog 9 = .str := by kernel_rfl
theorem sz9 : Tryz.prog.cellsOf 9 = 1 := by kernel_rfl
theorem by9 : Tryz.prog.bytesOf 9 = 16 := by kernel_rfl
theorem zr9 : zeroOf Tryz.prog 9 = some [.str []] := by kernel_rfl
theorem zk9 : zeroOk Tryz.prog 9 = true := by kernel_rfl
theorem td10 : tdOf Tryz.prog 10 = .str := by kernel_rfl
theorem sz10 : Tryz.prog.cellsOf 10 = 1 := by kernel_rfl
theorem by10 : Tryz.prog.bytesOf 10 = 16 := by kernel_rfl
theorem zr10 : zeroOf Tryz.prog 10 = some [.str []] := by kernel_rfl
theorem zk10 : zeroOk Tryz.prog 10 = true := by kernel_rfl
theorem td11 : tdOf Tryz.prog 11 = .str := by kernel_rfl
theorem sz11 : Tryz.prog.cellsOf 11 = 1 := by kernel_rfl
theorem by11 : Tryz.prog.bytesOf 11 = 16 := by kernel_rfl
theorem zr11 : zeroOf Tryz.prog 11 = some [.str []] := by kernel_rfl
theorem zk11 : zeroOk Tryz.prog 11 = true := by kernel_rfl
theorem td12 : tdOf Tryz.prog 12 = .int .u64 := by kernel_rfl
theorem sz12 : Tryz.prog.cellsOf 12 = 1 := by kernel_rfl
theorem by12 : Tryz.prog.bytesOf 12 = 8 := by kernel_rfl
theorem zr12 : zeroOf Tryz.prog 12 = some [.int .u64 0] := by kernel_rfl
theorem zk12 : zeroOk Tryz.prog 12 = true := by kernel_rfl
theorem td13 : tdOf Tryz.prog 13 = .struct [(0, 1, 9), (1, 1, 12)] := by kernel_rfl
theorem sz13 : Tryz.prog.cellsOf 13 = 2 := by kernel_rfl
theorem by13 : Tryz.prog.bytesOf 13 = 24 := by kernel_rfl
theorem zr13 : zeroOf Tryz.prog 13 = some [.str [], .int .u64 0] := by kernel_rfl
theorem zk13 : zeroOk Tryz.prog 13 = true := by kernel_rfl
theorem td14 : tdOf Tryz.prog 14 = .struct [(0, 1, 9), (1, 1, 12)] := by kernel_rfl
theorem sz14 : Tryz.prog.cellsOf 14 = 2 := by kernel_rfl
theorem by14 : Tryz.prog.bytesOf 14 = 24 := by kernel_rfl
theorem zr14 : zeroOf Tryz.prog 14 = some [.str [], .int .u64 0] := by kernel_rfl
theorem zk14 : zeroOk Tryz.prog 14 = true := by kernel_rfl
theorem td15 : tdOf Tryz.prog 15 = .ptr := by kernel_rfl
theorem sz15 : Tryz.prog.cellsOf 15 = 1 := by kernel_rfl
theorem by15 : Tryz.prog.bytesOf 15 = 8 := by kernel_rfl
theorem td16 : tdOf Tryz.prog 16 = .ptr := by kernel_rfl
theorem sz16 : Tryz.prog.cellsOf 16 = 1 := by kernel_rfl
theorem by16 : Tryz.prog.bytesOf 16 = 8 := by kernel_rfl
theorem td17 : tdOf Tryz.prog 17 = .ptr := by kernel_rfl
theorem sz17 : Tryz.prog.cellsOf 17 = 1 := by kernel_rfl
theorem by17 : Tryz.prog.bytesOf 17 = 8 := by kernel_rfl
theorem td18 : tdOf Tryz.prog 18 = .struct [(0, 1, 17)] := by kernel_rfl
theorem sz18 : Tryz.prog.cellsOf 18 = 1 := by kernel_rfl
theorem by18 : Tryz.prog.bytesOf 18 = 8 := by kernel_rfl
theorem td19 : tdOf Tryz.prog 19 = .struct [(0, 1, 17)] := by kernel_rfl
theorem sz19 : Tryz.prog.cellsOf 19 = 1 := by kernel_rfl
theorem by19 : Tryz.prog.bytesOf 19 = 8 := by kernel_rfl
theorem td21 : tdOf Tryz.prog 21 = .int .i32 := by kernel_rfl
theorem sz21 : Tryz.prog.cellsOf 21 = 1 := by kernel_rfl
theorem by21 : Tryz.prog.bytesOf 21 = 4 := by kernel_rfl
theorem zr21 : zeroOf Tryz.prog 21 = some [.int .i32 0] := by kernel_rfl
theorem zk21 : zeroOk Tryz.prog 21 = true := by kernel_rfl
theorem td22 : tdOf Tryz.prog 22 = .slice 104 := by kernel_rfl
theorem sz22 : Tryz.prog.cellsOf 22 = 1 := by kernel_rfl
theorem by22 : Tryz.prog.bytesOf 22 = 24 := by kernel_rfl
theorem zr22 : zeroOf Tryz.prog 22 = some [.sl .nil 0 []] := by kernel_rfl
theorem zk22 : zeroOk Tryz.prog 22 = true := by kernel_rfl
theorem td23 : tdOf Tryz.prog 23 = .struct [(0, 1, 3), (1, 1, 3)] := by kernel_rfl
theorem sz23 : Tryz.prog.cellsOf 23 = 2 := by kernel_rfl
theorem by23 : Tryz.prog.bytesOf 23 = 16 := by kernel_rfl
theorem zr23 : zeroOf Tryz.prog 23 = some [.int .i64 0, .int .i64 0] := by kernel_rfl
theorem zk23 : zeroOk Tryz.prog 23 = true := by kernel_rfl
theorem td24 : tdOf Tryz.prog 24 = .struct [(0, 1, 3), (1, 1, 3)] := by kernel_rfl
theorem sz24 : Tryz.prog.cellsOf 24 = 2 := by kernel_rfl
theorem by24 : Tryz.prog.bytesOf 24 = 16 := by kernel_rfl
theorem zr24 : zeroOf Tryz.prog 24 = some [.int .i64 0, .int .i64 0] := by kernel_rfl
theorem zk24 : zeroOk Tryz.prog 24 = true := by kernel_rfl
theorem td26 : tdOf Tryz.prog 26 = .ptr := by kernel_rfl
theorem sz26 : Tryz.prog.cellsOf 26 = 1 := by kernel_rfl
theorem by26 : Tryz.prog.bytesOf 26 = 8 := by kernel_rfl
theorem zr26 : zeroOf Tryz.prog 26 = some [.undef] := by kernel_rfl
theorem zk26 : zeroOk Tryz.prog 26 = true := by kernel_rfl
theorem td27 : tdOf Tryz.prog 27 = .ptr := by kernel_rfl
theorem sz27 : Tryz.prog.cellsOf 27 = 1 := by kernel_rfl
theorem by27 : Tryz.prog.bytesOf 27 = 8 := by kernel_rfl
theorem zr27 : zeroOf Tryz.prog 27 = some [.undef] := by kernel_rfl
theorem zk27 : zeroOk Tryz.prog 27 = true := by kernel_rfl
theorem td28 : tdOf Tryz.prog 28 = .ptr := by kernel_rfl
theorem sz28 : Tryz.prog.cellsOf 28 = 1 := by kernel_rfl
theorem by28 : Tryz.prog.bytesOf 28 = 8 := by kernel_rfl
theorem zr28 : zeroOf Tryz.prog 28 = some [.undef] := by kernel_rfl
theorem zk28 : zeroOk Tryz.prog 28 = true := by kernel_rfl
theorem td29 : tdOf Tryz.prog 29 = .ptr := by kernel_rfl
theorem sz29 : Tryz.prog.cellsOf 29 = 1 := by kernel_rfl
theorem by29 : Tryz.prog.bytesOf 29 = 8 := by kernel_rfl
theorem zr29 : zeroOf Tryz.prog 29 = some [.undef] := by kernel_rfl
theorem zk29 : zeroOk Tryz.prog 29 = true := by kernel_rfl
theorem td30 : tdOf Tryz.prog 30 = .ptr := by kernel_rfl
theorem sz30 : Tryz.prog.cellsOf 30 = 1 := by kernel_rfl
theorem by30 : Tryz.prog.bytesOf 30 = 8 := by kernel_rfl
theorem zr30 : zeroOf Tryz.prog 30 = some [.undef] := by kernel_rfl
theorem zk30 : zeroOk Tryz.prog 30 = true := by kernel_rfl
theorem td31 : tdOf Tryz.prog 31 = .struct [(0, 1, 9), (1, 1, 9)] := by kernel_rfl
theorem sz31 : Tryz.prog.cellsOf 31 = 2 := by kernel_rfl
theorem by31 : Tryz.prog.bytesOf 31 = 32 := by kernel_rfl
theorem zr31 : zeroOf Tryz.prog 31 = some [.str [], .str []] := by kernel_rfl
theorem zk31 : zeroOk Tryz.prog 31 = true := by kernel_rfl
theorem td32 : tdOf Tryz.prog 32 = .struct [(0, 1, 9), (1, 1, 9)] := by kernel_rfl
theorem sz32 : Tryz.prog.cellsOf 32 = 2 := by kernel_rfl
theorem by32 : Tryz.prog.bytesOf 32 = 32 := by kernel_rfl
theorem zr32 : zeroOf Tryz.prog 32 = some [.str [], .str []] := by kernel_rfl
theorem zk32 : zeroOk Tryz.prog 32 = true := by kernel_rfl
theorem td34 : tdOf Tryz.prog 34 = .ptr := by kernel_rfl
theorem sz34 : Tryz.prog.cellsOf 34 = 1 := by kernel_rfl
theorem by34 : Tryz.prog.bytesOf 34 = 8 := by kernel_rfl
theorem zr34 : zeroOf Tryz.prog 34 = some [.undef] := by kernel_rfl
theorem zk34 : zeroOk Tryz.prog 34 = true := by kernel_rfl
theorem td35 : tdOf Tryz.prog 35 = .ptr := by kernel_rfl
theorem sz35 : Tryz.prog.cellsOf 35 = 1 := by kernel_rfl
theorem by35 : Tryz.prog.bytesOf 35 = 8 := by kernel_rfl
theorem zr35 : zeroOf Tryz.prog 35 = some [.undef] := by kernel_rfl
theorem zk35 : zeroOk Tryz.prog 35 = true := by kernel_rfl
theorem td36 : tdOf Tryz.prog 36 = .slice 39 := by kernel_rfl
theorem sz36 : Tryz.prog.cellsOf 36 = 1 := by kernel_rfl
theorem by36 : Tryz.prog.bytesOf 36 = 24 := by kernel_rfl
theorem zr36 : zeroOf Tryz.prog 36 = some [.sl .nil 0 []] := by kernel_rfl
theorem zk36 : zeroOk Tryz.prog 36 = true := by kernel_rfl
theorem td37 : tdOf Tryz.prog 37 = .slice 9 := by kernel_rfl
theorem sz37 : Tryz.prog.cellsOf 37 = 1 := by kernel_rfl
theorem by37 : Tryz.prog.bytesOf 37 = 24 := by kernel_rfl
theorem zr37 : zeroOf Tryz.prog 37 = some [.sl .nil 0 []] := by kernel_rfl
theorem zk37 : zeroOk Tryz.prog 37 = true := by kernel_rfl
theorem td38 : tdOf Tryz.prog 38 = .struct [(0, 1, 3), (1, 1, 9), (2, 1, 36), (3, 1, 37)] := by kernel_rfl
theorem sz38 : Tryz.prog.cellsOf 38 = 4 := by kernel_rfl
theorem by38 : Tryz.prog.bytesOf 38 = 72 := by kernel_rfl
theorem zr38 : zeroOf Tryz.prog 38 = some [.int .i64 0, .str [], .sl .nil 0 [], .sl .nil 0 []] := by kernel_rfl
theorem zk38 : zeroOk Tryz.prog 38 = true := by kernel_rfl
theorem td39 : tdOf Tryz.prog 39 = .struct [(0, 1, 3), (1, 1, 9), (2, 1, 36), (3, 1, 37)] := by kernel_rfl
theorem sz39 : Tryz.prog.cellsOf 39 = 4 := by kernel_rfl
theorem by39 : Tryz.prog.bytesOf 39 = 72 := by kernel_rfl
theorem zr39 : zeroOf Tryz.prog 39 = some [.int .i64 0, .str [], .sl .nil 0 [], .sl .nil 0 []] := by kernel_rfl
theorem zk39 : zeroOk Tryz.prog 39 = true := by kernel_rfl
theorem td41 : tdOf Tryz.prog 41 = .ptr := by kernel_rfl
theorem sz41 : Tryz.prog.cellsOf 41 = 1 := by kernel_rfl
theorem by41 : Tryz.prog.bytesOf 41 = 8 := by kernel_rfl
theorem zr41 : zeroOf Tryz.prog 41 = some [.undef] := by kernel_rfl
theorem zk41 : zeroOk Tryz.prog 41 = true := by kernel_rfl
theorem td42 : tdOf Tryz.prog 42 = .ptr := by kernel_rfl
theorem sz42 : Tryz.prog.cellsOf 42 = 1 := by kernel_rfl
theorem by42 : Tryz.prog.bytesOf 42 = 8 := by kernel_rfl
theorem zr42 : zeroOf Tryz.prog 42 = some [.undef] := by kernel_rfl
theorem zk42 : zeroOk Tryz.prog 42 = true := by kernel_rfl
theorem td43 : tdOf Tryz.prog 43 = .ptr := by kernel_rfl
theorem sz43 : Tryz.prog.cellsOf 43 = 1 := by kernel_rfl
theorem by43 : Tryz.prog.bytesOf 43 = 8 := by kernel_rfl
theorem zr43 : zeroOf Tryz.prog 43 = some [.undef] := by kernel_rfl
theorem zk43 : zeroOk Tryz.prog 43 = true := by kernel_rfl
theorem td44 : tdOf Tryz.prog 44 = .ptr := by kernel_rfl
theorem sz44 : Tryz.prog.cellsOf 44 = 1 := by kernel_rfl
theorem by44 : Tryz.prog.bytesOf 44 = 8 := by kernel_rfl
theorem zr44 : zeroOf Tryz.prog 44 = some [.undef] := by kernel_rfl
theorem zk44 : zeroOk Tryz.prog 44 = true := by kernel_rfl
theorem td45 : tdOf Tryz.prog 45 = .slice 88 := by kernel_rfl
theorem sz45 : Tryz.prog.cellsOf 45 = 1 := by kernel_rfl
theorem by45 : Tryz.prog.bytesOf 45 = 24 := by kernel_rfl
theorem zr45 : zeroOf Tryz.prog 45 = some [.sl .nil 0 []] := by kernel_rfl
theorem zk45 : zeroOk Tryz.prog 45 = true := by kernel_rfl
theorem td46 : tdOf Tryz.prog 46 = .slice 201 := by kernel_rfl
theorem sz46 : Tryz.prog.cellsOf 46 = 1 := by kernel_rfl
theorem by46 : Tryz.prog.bytesOf 46 = 24 := by kernel_rfl
theorem zr46 : zeroOf Tryz.prog 46 = some [.sl .nil 0 []] := by kernel_rfl
theorem zk46 : zeroOk Tryz.prog 46 = true := by kernel_rfl
theorem td47 : tdOf Tryz.prog 47 = .struct [(0, 1, 45), (1, 1, 45), (2, 1, 46)] := by kernel_rfl
theorem sz47 : Tryz.prog.cellsOf 47 = 3 := by kernel_rfl
theorem by47 : Tryz.prog.bytesOf 47 = 72 := by kernel_rfl
theorem zr47 : zeroOf Tryz.prog 47 = some [.sl .nil 0 [], .sl .nil 0 [], .sl .nil 0 []] := by kernel_rfl
theorem zk47 : zeroOk Tryz.prog 47 = true := by kernel_rfl
theorem td48 : tdOf Tryz.prog 48 = .struct [(0, 1, 45), (1, 1, 45), (2, 1, 46)] := by kernel_rfl
theorem sz48 : Tryz.prog.cellsOf 48 = 3 := by kernel_rfl
theorem by48 : Tryz.prog.bytesOf 48 = 72 := by kernel_rfl
theorem zr48 : zeroOf Tryz.prog 48 = some [.sl .nil 0 [], .sl .nil 0 [], .sl .nil 0 []] := by kernel_rfl
theorem zk48 : zeroOk Tryz.prog 48 = true := by kernel_rfl
theorem td49 : tdOf Tryz.prog 49 = .struct [(0, 1, 9), (1, 1, 9)] := by kernel_rfl
theorem sz49 : Tryz.prog.cellsOf 49 = 2 := by kernel_rfl
theorem by49 : Tryz.prog.bytesOf 49 = 32 := by kernel_rfl
theorem zr49 : zeroOf Tryz.prog 49 = some [.str [], .str []] := by kernel_rfl
theorem zk49 : zeroOk Tryz.prog 49 = true := by kernel_rfl
theorem td50 : tdOf Tryz.prog 50 = .ptr := by kernel_rfl
theorem sz50 : Tryz.prog.cellsOf 50 = 1 := by kernel_rfl
theorem by50 : Tryz.prog.bytesOf 50 = 8 := by kernel_rfl
theorem zr50 : zeroOf Tryz.prog 50 = some [.undef] := by kernel_rfl
theorem zk50 : zeroOk Tryz.prog 50 = true := by kernel_rfl
theorem td51 : tdOf Tryz.prog 51 = .ptr := by kernel_rfl
theorem sz51 : Tryz.prog.cellsOf 51 = 1 := by kernel_rfl
theorem by51 : Tryz.prog.bytesOf 51 = 8 := by kernel_rfl
theorem zr51 : zeroOf Tryz.prog 51 = some [.undef] := by kernel_rfl
theorem zk51 : zeroOk Tryz.prog 51 = true := by kernel_rfl
theorem td52 : tdOf Tryz.prog 52 = .slice 54 := by kernel_rfl
theorem sz52 : Tryz.prog.cellsOf 52 = 1 := by kernel_rfl
theorem by52 : Tryz.prog.bytesOf 52 = 24 := by kernel_rfl
theorem zr52 : zeroOf Tryz.prog 52 = some [.sl .nil 0 []] := by kernel_rfl
theorem zk52 : zeroOk Tryz.prog 52 = true := by kernel_rfl
theorem td53 : tdOf Tryz.prog 53 = .struct [(0, 1, 3), (1, 1, 9), (2, 1, 52), (3, 1, 37)] := by kernel_rfl
theorem sz53 : Tryz.prog.cellsOf 53 = 4 := by kernel_rfl
theorem by53 : Tryz.prog.bytesOf 53 = 72 := by kernel_rfl
theorem zr53 : zeroOf Tryz.prog 53 = some [.int .i64 0, .str [], .sl .nil 0 [], .sl .nil 0 []] := by kernel_rfl
theorem zk53 : zeroOk Tryz.prog 53 = true := by kernel_rfl
theorem td54 : tdOf Tryz.prog 54 = .struct [(0, 1, 3), (1, 1, 9), (2, 1, 52), (3, 1, 37)] := by kernel_rfl
theorem sz54 : Tryz.prog.cellsOf 54 = 4 := by kernel_rfl
theorem by54 : Tryz.prog.bytesOf 54 = 72 := by kernel_rfl
theorem zr54 : zeroOf Tryz.prog 54 = some [.int .i64 0, .str [], .sl .nil 0 [], .sl .nil 0 []] := by kernel_rfl
theorem zk54 : zeroOk Tryz.prog 54 = true := by kernel_rfl
theorem td55 : tdOf Tryz.prog 55 = .ptr := by kernel_rfl
theorem sz55 : Tryz.prog.cellsOf 55 = 1 := by kernel_rfl
theorem by55 : Tryz.prog.bytesOf 55 = 8 := by kernel_rfl
theorem zr55 : zeroOf Tryz.prog 55 = some [.undef] := by kernel_rfl
theorem zk55 : zeroOk Tryz.prog 55 = true := by kernel_rfl
theorem td56 : tdOf Tryz.prog 56 = .slice 95 := by kernel_rfl
theorem sz56 : Tryz.prog.cellsOf 56 = 1 := by kernel_rfl
theorem by56 : Tryz.prog.bytesOf 56 = 24 := by kernel_rfl
theorem zr56 : zeroOf Tryz.prog 56 = some [.sl .nil 0 []] := by kernel_rfl
theorem zk56 : zeroOk Tryz.prog 56 = true := by kernel_rfl
theorem td57 : tdOf Tryz.prog 57 = .slice 202 := by kernel_rfl
theorem sz57 : Tryz.prog.cellsOf 57 = 1 := by kernel_rfl
theorem by57 : Tryz.prog.bytesOf 57 = 24 := by kernel_rfl
theorem zr57 : zeroOf Tryz.prog 57 = some [.sl .nil 0 []] := by kernel_rfl
theorem zk57 : zeroOk Tryz.prog 57 = true := by kernel_rfl
theorem td58 : tdOf Tryz.prog 58 = .struct [(0, 1, 56), (1, 1, 56), (2, 1, 57)] := by kernel_rfl
theorem sz58 : Tryz.prog.cellsOf 58 = 3 := by kernel_rfl
theorem by58 : Tryz.prog.bytesOf 58 = 72 := by kernel_rfl
theorem zr58 : zeroOf Tryz.prog 58 = some [.sl .nil 0 [], .sl .nil 0 [], .sl .nil 0 []] := by kernel_rfl
theorem zk58 : zeroOk Tryz.prog 58 = true := by kernel_rfl
theorem td59 : tdOf Tryz.prog 59 = .struct [(0, 1, 56), (1, 1, 56), (2, 1, 57)] := by kernel_rfl
theorem sz59 : Tryz.prog.cellsOf 59 = 3 := by kernel_rfl
theorem by59 : Tryz.prog.bytesOf 59 = 72 := by kernel_rfl
theorem zr59 : zeroOf Tryz.prog 59 = some [.sl .nil 0 [], .sl .nil 0 [], .sl .nil 0 []] := by kernel_rfl
theorem zk59 : zeroOk Tryz.prog 59 = true := by kernel_rfl
theorem td60 : tdOf Tryz.prog 60 = .ptr := by kernel_rfl
theorem sz60 : Tryz.prog.cellsOf 60 = 1 := by kernel_rfl
theorem by60 : Tryz.prog.bytesOf 60 = 8 := by kernel_rfl
theorem zr60 : zeroOf Tryz.prog 60 = some [.undef] := by kernel_rfl
theorem zk60 : zeroOk Tryz.prog 60 = true := by kernel_rfl
theorem td61 : tdOf Tryz.prog 61 = .ptr := by kernel_rfl
theorem sz61 : Tryz.prog.cellsOf 61 = 1 := by kernel_rfl
theorem by61 : Tryz.prog.bytesOf 61 = 8 := by kernel_rfl
theorem zr61 : zeroOf Tryz.prog 61 = some [.undef] := by kernel_rfl
theorem zk61 : zeroOk Tryz.prog 61 = true := by kernel_rfl
theorem td62 : tdOf Tryz.prog 62 = .ptr := by kernel_rfl
theorem sz62 : Tryz.prog.cellsOf 62 = 1 := by kernel_rfl
theorem by62 : Tryz.prog.bytesOf 62 = 8 := by kernel_rfl
theorem zr62 : zeroOf Tryz.prog 62 = some [.undef] := by kernel_rfl
theorem zk62 : zeroOk Tryz.prog 62 = true := by kernel_rfl
theorem td63 : tdOf Tryz.prog 63 = .ptr := by kernel_rfl
theorem sz63 : Tryz.prog.cellsOf 63 = 1 := by kernel_rfl
theorem by63 : Tryz.prog.bytesOf 63 = 8 := by kernel_rfl
theorem zr63 : zeroOf Tryz.prog 63 = some [.undef] := by kernel_rfl
theorem zk63 : zeroOk Tryz.prog 63 = true := by kernel_rfl
theorem td64 : tdOf Tryz.prog 64 = .ptr := by kernel_rfl
theorem sz64 : Tryz.prog.cellsOf 64 = 1 := by kernel_rfl
theorem by64 : Tryz.prog.bytesOf 64 = 8 := by kernel_rfl
theorem zr64 : zeroOf Tryz.prog 64 = some [.undef] := by kernel_rfl
theorem zk64 : zeroOk Tryz.prog 64 = true := by kernel_rfl
theorem td65 : tdOf Tryz.prog 65 = .ptr := by kernel_rfl
theorem sz65 : Tryz.prog.cellsOf 65 = 1 := by kernel_rfl
theorem by65 : Tryz.prog.bytesOf 65 = 8 := by kernel_rfl
theorem zr65 : zeroOf Tryz.prog 65 = some [.undef] := by kernel_rfl
theorem zk65 : zeroOk Tryz.prog 65 = true := by kernel_rfl
theorem td66 : tdOf Tryz.prog 66 = .ptr := by kernel_rfl
theorem sz66 : Tryz.prog.cellsOf 66 = 1 := by kernel_rfl
theorem by66 : Tryz.prog.bytesOf 66 = 8 := by kernel_rfl
theorem zr66 : zeroOf Tryz.prog 66 = some [.undef] := by kernel_rfl
theorem zk66 : zeroOk Tryz.prog 66 = true := by kernel_rfl
theorem td67 : tdOf Tryz.prog 67 = .slice 69 := by kernel_rfl
theorem sz67 : Tryz.prog.cellsOf 67 = 1 := by kernel_rfl
theorem by67 : Tryz.prog.bytesOf 67 = 24 := by kernel_rfl
theorem zr67 : zeroOf Tryz.prog 67 = some [.sl .nil 0 []] := by kernel_rfl
theorem zk67 : zeroOk Tryz.prog 67 = true := by kernel_rfl
theorem td68 : tdOf Tryz.prog 68 = .struct [(0, 1, 3), (1, 1, 9), (2, 1, 67), (3, 1, 37)] := by kernel_rfl
theorem sz68 : Tryz.prog.cellsOf 68 = 4 := by kernel_rfl
theorem by68 : Tryz.prog.bytesOf 68 = 72 := by kernel_rfl
theorem zr68 : zeroOf Tryz.prog 68 = some [.int .i64 0, .str [], .sl .nil 0 [], .sl .nil 0 []] := by kernel_rfl
theorem zk68 : zeroOk Tryz.prog 68 = true := by kernel_rfl
theorem td69 : tdOf Tryz.prog 69 = .struct [(0, 1, 3), (1, 1, 9), (2, 1, 67), (3, 1, 37)] := by kernel_rfl
theorem sz69 : Tryz.prog.cellsOf 69 = 4 := by kernel_rfl
theorem by69 : Tryz.prog.bytesOf 69 = 72 := by kernel_rfl
theorem zr69 : zeroOf Tryz.prog 69 = some [.int .i64 0, .str [], .sl .nil 0 [], .sl .nil 0 []] := by kernel_rfl
theorem zk69 : zeroOk Tryz.prog 69 = true := by kernel_rfl
theorem td70 : tdOf Tryz.prog 70 = .slice 213 := by kernel_rfl
theorem sz70 : Tryz.prog.cellsOf 70 = 1 := by kernel_rfl
theorem by70 : Tryz.prog.bytesOf 70 = 24 := by kernel_rfl
theorem zr70 : zeroOf Tryz.prog 70 = some [.sl .nil 0 []] := by kernel_rfl
theorem zk70 : zeroOk Tryz.prog 70 = true := by kernel_rfl
theorem td71 : tdOf Tryz.prog 71 = .struct [(0, 1, 9), (1, 1, 9), (2, 2, 49), (4, 1, 4), (5, 4, 69), (9, 1, 70)] := by kernel_rfl
theorem sz71 : Tryz.prog.cellsOf 71 = 10 := by kernel_rfl
theorem by71 : Tryz.prog.bytesOf 71 = 168 := by kernel_rfl
theorem zr71 : zeroOf Tryz.prog 71 = some [.str [], .str [], .str [], .str [], .bool false, .int .i64 0, .str [], .sl .nil 0 [], .sl .nil 0 [], .sl .nil 0 []] := by kernel_rfl
theorem zk71 : zeroOk Tryz.prog 71 = true := by kernel_rfl
theorem td72 : tdOf Tryz.prog 72 = .struct [(0, 1, 9), (1, 1, 9), (2, 2, 49), (4, 1, 4), (5, 4, 69), (9, 1, 70)] := by kernel_rfl
theorem sz72 : Tryz.prog.cellsOf 72 = 10 := by kernel_rfl
theorem by72 : Tryz.prog.bytesOf 72 = 168 := by kernel_rfl
theorem zr72 : zeroOf Tryz.prog 72 = some [.str [], .str [], .str [], .str [], .bool false, .int .i64 0, .str [], .sl .nil 0 [], .sl .nil 0 [], .sl .nil 0 []] := by kernel_rfl
theorem zk72 : zeroOk Tryz.prog 72 = true := by kernel_rfl
theorem td73 : tdOf Tryz.prog 73 = .ptr := by kernel_rfl
theorem sz73 : Tryz.prog.cellsOf 73 = 1 := by kernel_rfl
theorem by73 : Tryz.prog.bytesOf 73 = 8 := by kernel_rfl
theorem zr73 : zeroOf Tryz.prog 73 = some [.undef] := by kernel_rfl
theorem zk73 : zeroOk Tryz.prog 73 = true := by kernel_rfl
theorem td74 : tdOf Tryz.prog 74 = .ptr := by kernel_rfl
theorem sz74 : Tryz.prog.cellsOf 74 = 1 := by kernel_rfl
theorem by74 : Tryz.prog.bytesOf 74 = 8 := by kernel_rfl
theorem zr74 : zeroOf Tryz.prog 74 = some [.undef] := by kernel_rfl
theorem zk74 : zeroOk Tryz.prog 74 = true := by kernel_rfl
theorem td75 : tdOf Tryz.prog 75 = .slice 219 := by kernel_rfl
theorem sz75 : Tryz.prog.cellsOf 75 = 1 := by kernel_rfl
theorem by75 : Tryz.prog.bytesOf 75 = 24 := by kernel_rfl
theorem zr75 : zeroOf Tryz.prog 75 = some [.sl .nil 0 []] := by kernel_rfl
theorem zk75 : zeroOk Tryz.prog 75 = true := by kernel_rfl
theorem td76 : tdOf Tryz.prog 76 = .struct [(0, 1, 9), (1, 1, 9), (2, 2, 32), (4, 1, 4), (5, 4, 39), (9, 1, 75)] := by kernel_rfl
theorem sz76 : Tryz.prog.cellsOf 76 = 10 := by kernel_rfl
theorem by76 : Tryz.prog.bytesOf 76 = 168 := by kernel_rfl
theorem zr76 : zeroOf Tryz.prog 76 = some [.str [], .str [], .str [], .str [], .bool false, .int .i64 0, .str [], .sl .nil 0 [], .sl .nil 0 [], .sl .nil 0 []] := by kernel_rfl
theorem zk76 : zeroOk Tryz.prog 76 = true := by kernel_rfl
theorem td77 : tdOf Tryz.prog 77 = .struct [(0, 1, 9), (1, 1, 9), (2, 2, 32), (4, 1, 4), (5, 4, 39), (9, 1, 75)] := by kernel_rfl
theorem sz77 : Tryz.prog.cellsOf 77 = 10 := by kernel_rfl
theorem by77 : Tryz.prog.bytesOf 77 = 168 := by kernel_rfl
theorem zr77 : zeroOf Tryz.prog 77 = some [.str [], .str [], .str [], .str [], .bool false, .int .i64 0, .str [], .sl .nil 0 [], .sl .nil 0 [], .sl .nil 0 []] := by kernel_rfl
theorem zk77 : zeroOk Tryz.prog 77 = true := by kernel_rfl
theorem td78 : tdOf Tryz.prog 78 = .ptr := by kernel_rfl
theorem sz78 : Tryz.prog.cellsOf 78 = 1 := by kernel_rfl
theorem by78 : Tryz.prog.bytesOf 78 = 8 := by kernel_rfl
theorem zr78 : zeroOf Tryz.prog 78 = some [.undef] := by kernel_rfl
theorem zk78 : zeroOk Tryz.prog 78 = true := by kernel_rfl
theorem td79 : tdOf Tryz.prog 79 = .ptr := by kernel_rfl
theorem sz79 : Tryz.prog.cellsOf 79 = 1 := by kernel_rfl
theorem by79 : Tryz.prog.bytesOf 79 = 8 := by kernel_rfl
theorem zr79 : zeroOf Tryz.prog 79 = some [.undef] := by kernel_rfl
theorem zk79 : zeroOk Tryz.prog 79 = true := by kernel_rfl
theorem td80 : tdOf Tryz.prog 80 = .ptr := by kernel_rfl
theorem sz80 : Tryz.prog.cellsOf 80 = 1 := by kernel_rfl
theorem by80 : Tryz.prog.bytesOf 80 = 8 := by kernel_rfl
theorem zr80 : zeroOf Tryz.prog 80 = some [.undef] := by kernel_rfl
theorem zk80 : zeroOk Tryz.prog 80 = true := by kernel_rfl
theorem td81 : tdOf Tryz.prog 81 = .ptr := by kernel_rfl
theorem sz81 : Tryz.prog.cellsOf 81 = 1 := by kernel_rfl
theorem by81 : Tryz.prog.bytesOf 81 = 8 := by kernel_rfl
theorem zr81 : zeroOf Tryz.prog 81 = some [.undef] := by kernel_rfl
theorem zk81 : zeroOk Tryz.prog 81 = true := by kernel_rfl
theorem td83 : tdOf Tryz.prog 83 = .ptr := by kernel_rfl
theorem sz83 : Tryz.prog.cellsOf 83 = 1 := by kernel_rfl
theorem by83 : Tryz.prog.bytesOf 83 = 8 := by kernel_rfl
theorem zr83 : zeroOf Tryz.prog 83 = some [.undef] := by kernel_rfl
theorem zk83 : zeroOk Tryz.prog 83 = true := by kernel_rfl
theorem td84 : tdOf Tryz.prog 84 = .slice 227 := by kernel_rfl
theorem sz84 : Tryz.prog.cellsOf 84 = 1 := by kernel_rfl
theorem by84 : Tryz.prog.bytesOf 84 = 24 := by kernel_rfl
theorem zr84 : zeroOf Tryz.prog 84 = some [.sl .nil 0 []] := by kernel_rfl
theorem zk84 : zeroOk Tryz.prog 84 = true := by kernel_rfl
theorem td85 : tdOf Tryz.prog 85 = .slice 72 := by kernel_rfl
theorem sz85 : Tryz.prog.cellsOf 85 = 1 := by kernel_rfl
theorem by85 : Tryz.prog.bytesOf 85 = 24 := by kernel_rfl
theorem zr85 : zeroOf Tryz.prog 85 = some [.sl .nil 0 []] := by kernel_rfl
theorem zk85 : zeroOk Tryz.prog 85 = true := by kernel_rfl
theorem td86 : tdOf Tryz.prog 86 = .slice 230 := by kernel_rfl
theorem sz86 : Tryz.prog.cellsOf 86 = 1 := by kernel_rfl
theorem by86 : Tryz.prog.bytesOf 86 = 24 := by kernel_rfl
theorem zr86 : zeroOf Tryz.prog 86 = some [.sl .nil 0 []] := by kernel_rfl
theorem zk86 : zeroOk Tryz.prog 86 = true := by kernel_rfl
theorem td87 : tdOf Tryz.prog 87 = .struct [(0, 1, 3), (1, 1, 4), (2, 1, 9), (3, 1, 9), (4, 1, 37), (5, 1, 84), (6, 1, 85), (7, 1, 86), (8, 1, 46), (9, 1, 4), (10, 1, 70)] := by kernel_rfl
theorem sz87 : Tryz.prog.cellsOf 87 = 11 := by kernel_rfl
theorem by87 : Tryz.prog.bytesOf 87 = 200 := by kernel_rfl
theorem zr87 : zeroOf Tryz.prog 87 = some [.int .i64 0, .bool false, .str [], .str [], .sl .nil 0 [], .sl .nil 0 [], .sl .nil 0 [], .sl .nil 0 [], .sl .nil 0 [], .bool false, .sl .nil 0 []] := by kernel_rfl
theorem zk87 : zeroOk Tryz.prog 87 = true := by kernel_rfl
theorem td88 : tdOf Tryz.prog 88 = .struct [(0, 1, 3), (1, 1, 4), (2, 1, 9), (3, 1, 9), (4, 1, 37), (5, 1, 84), (6, 1, 85), (7, 1, 86), (8, 1, 46), (9, 1, 4), (10, 1, 70)] := by kernel_rfl
theorem sz88 : Tryz.prog.cellsOf 88 = 11 := by kernel_rfl
theorem by88 : Tryz.prog.bytesOf 88 = 200 := by kernel_rfl
theorem zr88 : zeroOf Tryz.prog 88 = some [.int .i64 0, .bool false, .str [], .str [], .sl .nil 0 [], .sl .nil 0 [], .sl .nil 0 [], .sl .nil 0 [], .sl .nil 0 [], .bool false, .sl .nil 0 []] := by kernel_rfl
theorem zk88 : zeroOk Tryz.prog 88 = true := by kernel_rfl
theorem td89 : tdOf Tryz.prog 89 = .ptr := by kernel_rfl
theorem sz89 : Tryz.prog.cellsOf 89 = 1 := by kernel_rfl
theorem by89 : Tryz.prog.bytesOf 89 = 8 := by kernel_rfl
theorem zr89 : zeroOf Tryz.prog 89 = some [.undef] := by kernel_rfl
theorem zk89 : zeroOk Tryz.prog 89 = true := by kernel_rfl
theorem td90 : tdOf Tryz.prog 90 = .ptr := by kernel_rfl
theorem sz90 : Tryz.prog.cellsOf 90 = 1 := by kernel_rfl
theorem by90 : Tryz.prog.bytesOf 90 = 8 := by kernel_rfl
theorem zr90 : zeroOf Tryz.prog 90 = some [.undef] := by kernel_rfl
theorem zk90 : zeroOk Tryz.prog 90 = true := by kernel_rfl
theorem td91 : tdOf Tryz.prog 91 = .slice 166 := by kernel_rfl
theorem sz91 : Tryz.prog.cellsOf 91 = 1 := by kernel_rfl
theorem by91 : Tryz.prog.bytesOf 91 = 24 := by kernel_rfl
theorem zr91 : zeroOf Tryz.prog 91 = some [.sl .nil 0 []] := by kernel_rfl
theorem zk91 : zeroOk Tryz.prog 91 = true := by kernel_rfl
theorem td92 : tdOf Tryz.prog 92 = .slice 77 := by kernel_rfl
theorem sz92 : Tryz.prog.cellsOf 92 = 1 := by kernel_rfl
theorem by92 : Tryz.prog.bytesOf 92 = 24 := by kernel_rfl
theorem zr92 : zeroOf Tryz.prog 92 = some [.sl .nil 0 []] := by kernel_rfl
theorem zk92 : zeroOk Tryz.prog 92 = true := by kernel_rfl
theorem td93 : tdOf Tryz.prog 93 = .slice 172 := by kernel_rfl
theorem sz93 : Tryz.prog.cellsOf 93 = 1 := by kernel_rfl
theorem by93 : Tryz.prog.bytesOf 93 = 24 := by kernel_rfl
theorem zr93 : zeroOf Tryz.prog 93 = some [.sl .nil 0 []] := by kernel_rfl
theorem zk93 : zeroOk Tryz.prog 93 = true := by kernel_rfl
theorem td94 : tdOf Tryz.prog 94 = .struct [(0, 1, 3), (1, 1, 4), (2, 1, 9), (3, 1, 9), (4, 1, 37), (5, 1, 91), (6, 1, 92), (7, 1, 93), (8, 1, 57), (9, 1, 4), (10, 1, 75)] := by kernel_rfl
theorem sz94 : Tryz.prog.cellsOf 94 = 11 := by kernel_rfl
theorem by94 : Tryz.prog.bytesOf 94 = 200 := by kernel_rfl
theorem zr94 : zeroOf Tryz.prog 94 = some [.int .i64 0, .bool false, .str [], .str [], .sl .nil 0 [], .sl .nil 0 [], .sl .nil 0 [], .sl .nil 0 [], .sl .nil 0 [], .bool false, .sl .nil 0 []] := by kernel_rfl
theorem zk94 : zeroOk Tryz.prog 94 = true := by kernel_rfl
theorem td95 : tdOf Tryz.prog 95 = .struct [(0, 1, 3), (1, 1, 4), (2, 1, 9), (3, 1, 9), (4, 1, 37), (5, 1, 91), (6, 1, 92), (7, 1, 93), (8, 1, 57), (9, 1, 4), (10, 1, 75)] := by kernel_rfl
theorem sz95 : Tryz.prog.cellsOf 95 = 11 := by kernel_rfl
theorem by95 : Tryz.prog.bytesOf 95 = 200 := by kernel_rfl
theorem zr95 : zeroOf Tryz.prog 95 = some [.int .i64 0, .bool false, .str [], .str [], .sl .nil 0 [], .sl .nil 0 [], .sl .nil 0 [], .sl .nil 0 [], .sl .nil 0 [], .bool false, .sl .nil 0 []] := by kernel_rfl
theorem zk95 : zeroOk Tryz.prog 95 = true := by kernel_rfl
theorem td96 : tdOf Tryz.prog 96 = .ptr := by kernel_rfl
theorem sz96 : Tryz.prog.cellsOf 96 = 1 := by kernel_rfl
theorem by96 : Tryz.prog.bytesOf 96 = 8 := by kernel_rfl
theorem zr96 : zeroOf Tryz.prog 96 = some [.undef] := by kernel_rfl
theorem zk96 : zeroOk Tryz.prog 96 = true := by kernel_rfl
theorem td97 : tdOf Tryz.prog 97 = .ptr := by kernel_rfl
theorem sz97 : Tryz.prog.cellsOf 97 = 1 := by kernel_rfl
theorem by97 : Tryz.prog.bytesOf 97 = 8 := by kernel_rfl
theorem zr97 : zeroOf Tryz.prog 97 = some [.undef] := by kernel_rfl
theorem zk97 : zeroOk Tryz.prog 97 = true := by kernel_rfl
theorem td98 : tdOf Tryz.prog 98 = .ptr := by kernel_rfl
theorem sz98 : Tryz.prog.cellsOf 98 = 1 := by kernel_rfl
theorem by98 : Tryz.prog.bytesOf 98 = 8 := by kernel_rfl
theorem zr98 : zeroOf Tryz.prog 98 = some [.undef] := by kernel_rfl
theorem zk98 : zeroOk Tryz.prog 98 = true := by kernel_rfl
theorem td99 : tdOf Tryz.prog 99 = .ptr := by kernel_rfl
theorem sz99 : Tryz.prog.cellsOf 99 = 1 := by kernel_rfl
theorem by99 : Tryz.prog.bytesOf 99 = 8 := by kernel_rfl
theorem zr99 : zeroOf Tryz.prog 99 = some [.undef] := by kernel_rfl
theorem zk99 : zeroOk Tryz.prog 99 = true := by kernel_rfl
theorem td101 : tdOf Tryz.prog 101 = .ptr := by kernel_rfl
theorem sz101 : Tryz.prog.cellsOf 101 = 1 := by kernel_rfl
theorem by101 : Tryz.prog.bytesOf 101 = 8 := by kernel_rfl
theorem zr101 : zeroOf Tryz.prog 101 = some [.undef] := by kernel_rfl
theorem zk101 : zeroOk Tryz.prog 101 = true := by kernel_rfl
theorem td102 : tdOf Tryz.prog 102 = .ptr := by kernel_rfl
theorem sz102 : Tryz.prog.cellsOf 102 = 1 := by kernel_rfl
theorem by102 : Tryz.prog.bytesOf 102 = 8 := by kernel_rfl
theorem zr102 : zeroOf Tryz.prog 102 = some [.undef] := by kernel_rfl
theorem zk102 : zeroOk Tryz.prog 102 = true := by kernel_rfl
theorem td103 : tdOf Tryz.prog 103 = .struct [(0, 1, 3), (1, 1, 9), (2, 1, 3)] := by kernel_rfl
theorem sz103 : Tryz.prog.cellsOf 103 = 3 := by kernel_rfl
theorem by103 : Tryz.prog.bytesOf 103 = 32 := by kernel_rfl
theorem zr103 : zeroOf Tryz.prog 103 = some [.int .i64 0, .str [], .int .i64 0] := by kernel_rfl
theorem zk103 : zeroOk Tryz.prog 103 = true := by kernel_rfl
theorem td104 : tdOf Tryz.prog 104 = .struct [(0, 1, 3), (1, 1, 9), (2, 1, 3)] := by kernel_rfl
theorem sz104 : Tryz.prog.cellsOf 104 = 3 := by kernel_rfl
theorem by104 : Tryz.prog.bytesOf 104 = 32 := by kernel_rfl
theorem zr104 : zeroOf Tryz.prog 104 = some [.int .i64 0, .str [], .int .i64 0] := by kernel_rfl
theorem zk104 : zeroOk Tryz.prog 104 = true := by kernel_rfl
theorem td106 : tdOf Tryz.prog 106 = .ptr := by kernel_rfl
theorem sz106 : Tryz.prog.cellsOf 106 = 1 := by kernel_rfl
theorem by106 : Tryz.prog.bytesOf 106 = 8 := by kernel_rfl
theorem zr106 : zeroOf Tryz.prog 106 = some [.undef] := by kernel_rfl
theorem zk106 : zeroOk Tryz.prog 106 = true := by kernel_rfl
theorem td107 : tdOf Tryz.prog 107 = .ptr := by kernel_rfl
theorem sz107 : Tryz.prog.cellsOf 107 = 1 := by kernel_rfl
theorem by107 : Tryz.prog.bytesOf 107 = 8 := by kernel_rfl
theorem zr107 : zeroOf Tryz.prog 107 = some [.undef] := by kernel_rfl
theorem zk107 : zeroOk Tryz.prog 107 = true := by kernel_rfl
theorem td108 : tdOf Tryz.prog 108 = .ptr := by kernel_rfl
theorem sz108 : Tryz.prog.cellsOf 108 = 1 := by kernel_rfl
theorem by108 : Tryz.prog.bytesOf 108 = 8 := by kernel_rfl
theorem zr108 : zeroOf Tryz.prog 108 = some [.undef] := by kernel_rfl
theorem zk108 : zeroOk Tryz.prog 108 = true := by kernel_rfl
theorem td109 : tdOf Tryz.prog 109 = .ptr := by kernel_rfl
theorem sz109 : Tryz.prog.cellsOf 109 = 1 := by kernel_rfl
theorem by109 : Tryz.prog.bytesOf 109 = 8 := by kernel_rfl
theorem td110 : tdOf Tryz.prog 110 = .ptr := by kernel_rfl
theorem sz110 : Tryz.prog.cellsOf 110 = 1 := by kernel_rfl
theorem by110 : Tryz.prog.bytesOf 110 = 8 := by kernel_rfl
theorem zr110 : zeroOf Tryz.prog 110 = some [.undef] := by kernel_rfl
theorem zk110 : zeroOk Tryz.prog 110 = true := by kernel_rfl
theorem td111 : tdOf Tryz.prog 111 = .ptr := by kernel_rfl
theorem sz111 : Tryz.prog.cellsOf 111 = 1 := by kernel_rfl
theorem by111 : Tryz.prog.bytesOf 111 = 8 := by kernel_rfl
theorem zr111 : zeroOf Tryz.prog 111 = some [.undef] := by kernel_rfl
theorem zk111 : zeroOk Tryz.prog 111 = true := by kernel_rfl
theorem td112 : tdOf Tryz.prog 112 = .ptr := by kernel_rfl
theorem sz112 : Tryz.prog.cellsOf 112 = 1 := by kernel_rfl
theorem by112 : Tryz.prog.bytesOf 112 = 8 := by kernel_rfl
theorem zr112 : zeroOf Tryz.prog 112 = some [.undef] := by kernel_rfl
theorem zk112 : zeroOk Tryz.prog 112 = true := by kernel_rfl
theorem td113 : tdOf Tryz.prog 113 = .struct [(0, 1, 22), (1, 1, 3), (2, 1, 3), (3, 2, 24)] := by kernel_rfl
theorem sz113 : Tryz.prog.cellsOf 113 = 5 := by kernel_rfl
theorem by113 : Tryz.prog.bytesOf 113 = 56 := by kernel_rfl
theorem zr113 : zeroOf Tryz.prog 113 = some [.sl .nil 0 [], .int .i64 0, .int .i64 0, .int .i64 0, .int .i64 0] := by kernel_rfl
theorem zk113 : zeroOk Tryz.prog 113 = true := by kernel_rfl
theorem td114 : tdOf Tryz.prog 114 = .struct [(0, 1, 22), (1, 1, 3), (2, 1, 3), (3, 2, 24)] := by kernel_rfl
theorem sz114 : Tryz.prog.cellsOf 114 = 5 := by kernel_rfl
theorem by114 : Tryz.prog.bytesOf 114 = 56 := by kernel_rfl
theorem zr114 : zeroOf Tryz.prog 114 = some [.sl .nil 0 [], .int .i64 0, .int .i64 0, .int .i64 0, .int .i64 0] := by kernel_rfl
theorem zk114 : zeroOk Tryz.prog 114 = true := by kernel_rfl
theorem td115 : tdOf Tryz.prog 115 = .ptr := by kernel_rfl
theorem sz115 : Tryz.prog.cellsOf 115 = 1 := by kernel_rfl
theorem by115 : Tryz.prog.bytesOf 115 = 8 := by kernel_rfl
theorem td116 : tdOf Tryz.prog 116 = .ptr := by kernel_rfl
theorem sz116 : Tryz.prog.cellsOf 116 = 1 := by kernel_rfl
theorem by116 : Tryz.prog.bytesOf 116 = 8 := by kernel_rfl
theorem zr116 : zeroOf Tryz.prog 116 = some [.undef] := by kernel_rfl
theorem zk116 : zeroOk Tryz.prog 116 = true := by kernel_rfl
theorem td117 : tdOf Tryz.prog 117 = .ptr := by kernel_rfl
theorem sz117 : Tryz.prog.cellsOf 117 = 1 := by kernel_rfl
theorem by117 : Tryz.prog.bytesOf 117 = 8 := by kernel_rfl
theorem zr117 : zeroOf Tryz.prog 117 = some [.undef] := by kernel_rfl
theorem zk117 : zeroOk Tryz.prog 117 = true := by kernel_rfl
theorem td118 : tdOf Tryz.prog 118 = .ptr := by kernel_rfl
theorem sz118 : Tryz.prog.cellsOf 118 = 1 := by kernel_rfl
theorem by118 : Tryz.prog.bytesOf 118 = 8 := by kernel_rfl
theorem zr118 : zeroOf Tryz.prog 118 = some [.undef] := by kernel_rfl
theorem zk118 : zeroOk Tryz.prog 118 = true := by kernel_rfl
theorem td119 : tdOf Tryz.prog 119 = .struct [(0, 1, 22), (1, 1, 3), (2, 1, 3), (3, 2, 24)] := by kernel_rfl
theorem sz119 : Tryz.prog.cellsOf 119 = 5 := by kernel_rfl
theorem by119 : Tryz.prog.bytesOf 119 = 56 := by kernel_rfl
theorem zr119 : zeroOf Tryz.prog 119 = some [.sl .nil 0 [], .int .i64 0, .int .i64 0, .int .i64 0, .int .i64 0] := by kernel_rfl
theorem zk119 : zeroOk Tryz.prog 119 = true := by kernel_rfl
theorem td120 : tdOf Tryz.prog 120 = .struct [(0, 1, 22), (1, 1, 3), (2, 1, 3), (3, 2, 24)] := by kernel_rfl
theorem sz120 : Tryz.prog.cellsOf 120 = 5 := by kernel_rfl
theorem by120 : Tryz.prog.bytesOf 120 = 56 := by kernel_rfl
theorem zr120 : zeroOf Tryz.prog 120 = some [.sl .nil 0 [], .int .i64 0, .int .i64 0, .int .i64 0, .int .i64 0] := by kernel_rfl
theorem zk120 : zeroOk Tryz.prog 120 = true := by kernel_rfl
theorem td121 : tdOf Tryz.prog 121 = .ptr := by kernel_rfl
theorem sz121 : Tryz.prog.cellsOf 121 = 1 := by kernel_rfl
theorem by121 : Tryz.prog.bytesOf 121 = 8 := by kernel_rfl
theorem zr121 : zeroOf Tryz.prog 121 = some [.undef] := by kernel_rfl
theorem zk121 : zeroOk Tryz.prog 121 = true := by kernel_rfl
theorem td122 : tdOf Tryz.prog 122 = .ptr := by kernel_rfl
theorem sz122 : Tryz.prog.cellsOf 122 = 1 := by kernel_rfl
theorem by122 : Tryz.prog.bytesOf 122 = 8 := by kernel_rfl
theorem zr122 : zeroOf Tryz.prog 122 = some [.undef] := by kernel_rfl
theorem zk122 : zeroOk Tryz.prog 122 = true := by kernel_rfl
theorem td123 : tdOf Tryz.prog 123 = .ptr := by kernel_rfl
theorem sz123 : Tryz.prog.cellsOf 123 = 1 := by kernel_rfl
theorem by123 : Tryz.prog.bytesOf 123 = 8 := by kernel_rfl
theorem zr123 : zeroOf Tryz.prog 123 = some [.undef] := by kernel_rfl
theorem zk123 : zeroOk Tryz.prog 123 = true := by kernel_rfl
theorem td124 : tdOf Tryz.prog 124 = .ptr := by kernel_rfl
theorem sz124 : Tryz.prog.cellsOf 124 = 1 := by kernel_rfl
theorem by124 : Tryz.prog.bytesOf 124 = 8 := by kernel_rfl
theorem zr124 : zeroOf Tryz.prog 124 = some [.undef] := by kernel_rfl
theorem zk124 : zeroOk Tryz.prog 124 = true := by kernel_rfl
theorem td125 : tdOf Tryz.prog 125 = .ptr := by kernel_rfl
theorem sz125 : Tryz.prog.cellsOf 125 = 1 := by kernel_rfl
theorem by125 : Tryz.prog.bytesOf 125 = 8 := by kernel_rfl
theorem zr125 : zeroOf Tryz.prog 125 = some [.undef] := by kernel_rfl
theorem zk125 : zeroOk Tryz.prog 125 = true := by kernel_rfl
theorem td126 : tdOf Tryz.prog 126 = .ptr := by kernel_rfl
theorem sz126 : Tryz.prog.cellsOf 126 = 1 := by kernel_rfl
theorem by126 : Tryz.prog.bytesOf 126 = 8 := by kernel_rfl
theorem zr126 : zeroOf Tryz.prog 126 = some [.undef] := by kernel_rfl
theorem zk126 : zeroOk Tryz.prog 126 = true := by kernel_rfl
theorem td127 : tdOf Tryz.prog 127 = .ptr := by kernel_rfl
theorem sz127 : Tryz.prog.cellsOf 127 = 1 := by kernel_rfl
theorem by127 : Tryz.prog.bytesOf 127 = 8 := by kernel_rfl
theorem zr127 : zeroOf Tryz.prog 127 = some [.undef] := by kernel_rfl
theorem zk127 : zeroOk Tryz.prog 127 = true := by kernel_rfl
theorem td128 : tdOf Tryz.prog 128 = .ptr := by kernel_rfl
theorem sz128 : Tryz.prog.cellsOf 128 = 1 := by kernel_rfl
theorem by128 : Tryz.prog.bytesOf 128 = 8 := by kernel_rfl
theorem zr128 : zeroOf Tryz.prog 128 = some [.undef] := by kernel_rfl
theorem zk128 : zeroOk Tryz.prog 128 = true := by kernel_rfl
theorem td129 : tdOf Tryz.prog 129 = .ptr := by kernel_rfl
theorem sz129 : Tryz.prog.cellsOf 129 = 1 := by kernel_rfl
theorem by129 : Tryz.prog.bytesOf 129 = 8 := by kernel_rfl
theorem zr129 : zeroOf Tryz.prog 129 = some [.undef] := by kernel_rfl
theorem zk129 : zeroOk Tryz.prog 129 = true := by kernel_rfl
theorem td130 : tdOf Tryz.prog 130 = .ptr := by kernel_rfl
theorem sz130 : Tryz.prog.cellsOf 130 = 1 := by kernel_rfl
theorem by130 : Tryz.prog.bytesOf 130 = 8 := by kernel_rfl
theorem zr130 : zeroOf Tryz.prog 130 = some [.undef] := by kernel_rfl
theorem zk130 : zeroOk Tryz.prog 130 = true := by kernel_rfl
theorem td131 : tdOf Tryz.prog 131 = .ptr := by kernel_rfl
theorem sz131 : Tryz.prog.cellsOf 131 = 1 := by kernel_rfl
theorem by131 : Tryz.prog.bytesOf 131 = 8 := by kernel_rfl
theorem zr131 : zeroOf Tryz.prog 131 = some [.undef] := by kernel_rfl
theorem zk131 : zeroOk Tryz.prog 131 = true := by kernel_rfl
theorem td132 : tdOf Tryz.prog 132 = .ptr := by kernel_rfl
theorem sz132 : Tryz.prog.cellsOf 132 = 1 := by kernel_rfl
theorem by132 : Tryz.prog.bytesOf 132 = 8 := by kernel_rfl
theorem zr132 : zeroOf Tryz.prog 132 = some [.undef] := by kernel_rfl
theorem zk132 : zeroOk Tryz.prog 132 = true := by kernel_rfl
theorem td133 : tdOf Tryz.prog 133 = .ptr := by kernel_rfl
theorem sz133 : Tryz.prog.cellsOf 133 = 1 := by kernel_rfl
theorem by133 : Tryz.prog.bytesOf 133 = 8 := by kernel_rfl
theorem zr133 : zeroOf Tryz.prog 133 = some [.undef] := by kernel_rfl
theorem zk133 : zeroOk Tryz.prog 133 = true := by kernel_rfl
theorem td134 : tdOf Tryz.prog 134 = .ptr := by kernel_rfl
theorem sz134 : Tryz.prog.cellsOf 134 = 1 := by kernel_rfl
theorem by134 : Tryz.prog.bytesOf 134 = 8 := by kernel_rfl
theorem zr134 : zeroOf Tryz.prog 134 = some [.undef] := by kernel_rfl
theorem zk134 : zeroOk Tryz.prog 134 = true := by kernel_rfl
theorem td136 : tdOf Tryz.prog 136 = .ptr := by kernel_rfl
theorem sz136 : Tryz.prog.cellsOf 136 = 1 := by kernel_rfl
theorem by136 : Tryz.prog.bytesOf 136 = 8 := by kernel_rfl
theorem zr136 : zeroOf Tryz.prog 136 = some [.undef] := by kernel_rfl
theorem zk136 : zeroOk Tryz.prog 136 = true := by kernel_rfl
theorem td137 : tdOf Tryz.prog 137 = .ptr := by kernel_rfl
theorem sz137 : Tryz.prog.cellsOf 137 = 1 := by kernel_rfl
theorem by137 : Tryz.prog.bytesOf 137 = 8 := by kernel_rfl
theorem zr137 : zeroOf Tryz.prog 137 = some [.undef] := by kernel_rfl
theorem zk137 : zeroOk Tryz.prog 137 = true := by kernel_rfl
theorem td138 : tdOf Tryz.prog 138 = .ptr := by kernel_rfl
theorem sz138 : Tryz.prog.cellsOf 138 = 1 := by kernel_rfl
theorem by138 : Tryz.prog.bytesOf 138 = 8 := by kernel_rfl
theorem zr138 : zeroOf Tryz.prog 138 = some [.undef] := by kernel_rfl
theorem zk138 : zeroOk Tryz.prog 138 = true := by kernel_rfl
theorem td139 : tdOf Tryz.prog 139 = .ptr := by kernel_rfl
theorem sz139 : Tryz.prog.cellsOf 139 = 1 := by kernel_rfl
theorem by139 : Tryz.prog.bytesOf 139 = 8 := by kernel_rfl
theorem zr139 : zeroOf Tryz.prog 139 = some [.undef] := by kernel_rfl
theorem zk139 : zeroOk Tryz.prog 139 = true := by kernel_rfl
theorem td140 : tdOf Tryz.prog 140 = .ptr := by kernel_rfl
theorem sz140 : Tryz.prog.cellsOf 140 = 1 := by kernel_rfl
theorem by140 : Tryz.prog.bytesOf 140 = 8 := by kernel_rfl
theorem zr140 : zeroOf Tryz.prog 140 = some [.undef] := by kernel_rfl
theorem zk140 : zeroOk Tryz.prog 140 = true := by kernel_rfl
theorem td141 : tdOf Tryz.prog 141 = .ptr := by kernel_rfl
theorem sz141 : Tryz.prog.cellsOf 141 = 1 := by kernel_rfl
theorem by141 : Tryz.prog.bytesOf 141 = 8 := by kernel_rfl
theorem zr141 : zeroOf Tryz.prog 141 = some [.undef] := by kernel_rfl
theorem zk141 : zeroOk Tryz.prog 141 = true := by kernel_rfl
theorem td142 : tdOf Tryz.prog 142 = .ptr := by kernel_rfl
theorem sz142 : Tryz.prog.cellsOf 142 = 1 := by kernel_rfl
theorem by142 : Tryz.prog.bytesOf 142 = 8 := by kernel_rfl
theorem zr142 : zeroOf Tryz.prog 142 = some [.undef] := by kernel_rfl
theorem zk142 : zeroOk Tryz.prog 142 = true := by kernel_rfl
theorem td143 : tdOf Tryz.prog 143 = .ptr := by kernel_rfl
theorem sz143 : Tryz.prog.cellsOf 143 = 1 := by kernel_rfl
theorem by143 : Tryz.prog.bytesOf 143 = 8 := by kernel_rfl
theorem zr143 : zeroOf Tryz.prog 143 = some [.undef] := by kernel_rfl
theorem zk143 : zeroOk Tryz.prog 143 = true := by kernel_rfl
theorem td144 : tdOf Tryz.prog 144 = .ptr := by kernel_rfl
theorem sz144 : Tryz.prog.cellsOf 144 = 1 := by kernel_rfl
theorem by144 : Tryz.prog.bytesOf 144 = 8 := by kernel_rfl
theorem zr144 : zeroOf Tryz.prog 144 = some [.undef] := by kernel_rfl
theorem zk144 : zeroOk Tryz.prog 144 = true := by kernel_rfl
theorem td145 : tdOf Tryz.prog 145 = .ptr := by kernel_rfl
theorem sz145 : Tryz.prog.cellsOf 145 = 1 := by kernel_rfl
theorem by145 : Tryz.prog.bytesOf 145 = 8 := by kernel_rfl
theorem zr145 : zeroOf Tryz.prog 145 = some [.undef] := by kernel_rfl
theorem zk145 : zeroOk Tryz.prog 145 = true := by kernel_rfl
theorem td146 : tdOf Tryz.prog 146 = .ptr := by kernel_rfl
theorem sz146 : Tryz.prog.cellsOf 146 = 1 := by kernel_rfl
theorem by146 : Tryz.prog.bytesOf 146 = 8 := by kernel_rfl
theorem zr146 : zeroOf Tryz.prog 146 = some [.undef] := by kernel_rfl
theorem zk146 : zeroOk Tryz.prog 146 = true := by kernel_rfl
theorem td147 : tdOf Tryz.prog 147 = .ptr := by kernel_rfl
theorem sz147 : Tryz.prog.cellsOf 147 = 1 := by kernel_rfl
theorem by147 : Tryz.prog.bytesOf 147 = 8 := by kernel_rfl
theorem zr147 : zeroOf Tryz.prog 147 = some [.undef] := by kernel_rfl
theorem zk147 : zeroOk Tryz.prog 147 = true := by kernel_rfl
theorem td148 : tdOf Tryz.prog 148 = .ptr := by kernel_rfl
theorem sz148 : Tryz.prog.cellsOf 148 = 1 := by kernel_rfl
theorem by148 : Tryz.prog.bytesOf 148 = 8 := by kernel_rfl
theorem zr148 : zeroOf Tryz.prog 148 = some [.undef] := by kernel_rfl
theorem zk148 : zeroOk Tryz.prog 148 = true := by kernel_rfl
theorem td149 : tdOf Tryz.prog 149 = .ptr := by kernel_rfl
theorem sz149 : Tryz.prog.cellsOf 149 = 1 := by kernel_rfl
theorem by149 : Tryz.prog.bytesOf 149 = 8 := by kernel_rfl
theorem zr149 : zeroOf Tryz.prog 149 = some [.undef] := by kernel_rfl
theorem zk149 : zeroOk Tryz.prog 149 = true := by kernel_rfl
theorem td150 : tdOf Tryz.prog 150 = .ptr := by kernel_rfl
theorem sz150 : Tryz.prog.cellsOf 150 = 1 := by kernel_rfl
theorem by150 : Tryz.prog.bytesOf 150 = 8 := by kernel_rfl
theorem zr150 : zeroOf Tryz.prog 150 = some [.undef] := by kernel_rfl
theorem zk150 : zeroOk Tryz.prog 150 = true := by kernel_rfl
theorem td151 : tdOf Tryz.prog 151 = .ptr := by kernel_rfl
theorem sz151 : Tryz.prog.cellsOf 151 = 1 := by kernel_rfl
theorem by151 : Tryz.prog.bytesOf 151 = 8 := by kernel_rfl
theorem zr151 : zeroOf Tryz.prog 151 = some [.undef] := by kernel_rfl
theorem zk151 : zeroOk Tryz.prog 151 = true := by kernel_rfl
theorem td152 : tdOf Tryz.prog 152 = .ptr := by kernel_rfl
theorem sz152 : Tryz.prog.cellsOf 152 = 1 := by kernel_rfl
theorem by152 : Tryz.prog.bytesOf 152 = 8 := by kernel_rfl
theorem zr152 : zeroOf Tryz.prog 152 = some [.undef] := by kernel_rfl
theorem zk152 : zeroOk Tryz.prog 152 = true := by kernel_rfl
theorem td153 : tdOf Tryz.prog 153 = .ptr := by kernel_rfl
theorem sz153 : Tryz.prog.cellsOf 153 = 1 := by kernel_rfl
theorem by153 : Tryz.prog.bytesOf 153 = 8 := by kernel_rfl
theorem zr153 : zeroOf Tryz.prog 153 = some [.undef] := by kernel_rfl
theorem zk153 : zeroOk Tryz.prog 153 = true := by kernel_rfl
theorem td154 : tdOf Tryz.prog 154 = .ptr := by kernel_rfl
theorem sz154 : Tryz.prog.cellsOf 154 = 1 := by kernel_rfl
theorem by154 : Tryz.prog.bytesOf 154 = 8 := by kernel_rfl
theorem zr154 : zeroOf Tryz.prog 154 = some [.undef] := by kernel_rfl
theorem zk154 : zeroOk Tryz.prog 154 = true := by kernel_rfl
theorem td155 : tdOf Tryz.prog 155 = .ptr := by kernel_rfl
theorem sz155 : Tryz.prog.cellsOf 155 = 1 := by kernel_rfl
theorem by155 : Tryz.prog.bytesOf 155 = 8 := by kernel_rfl
theorem zr155 : zeroOf Tryz.prog 155 = some [.undef] := by kernel_rfl
theorem zk155 : zeroOk Tryz.prog 155 = true := by kernel_rfl
theorem td156 : tdOf Tryz.prog 156 = .ptr := by kernel_rfl
theorem sz156 : Tryz.prog.cellsOf 156 = 1 := by kernel_rfl
theorem by156 : Tryz.prog.bytesOf 156 = 8 := by kernel_rfl
theorem zr156 : zeroOf Tryz.prog 156 = some [.undef] := by kernel_rfl
theorem zk156 : zeroOk Tryz.prog 156 = true := by kernel_rfl
theorem td157 : tdOf Tryz.prog 157 = .ptr := by kernel_rfl
theorem sz157 : Tryz.prog.cellsOf 157 = 1 := by kernel_rfl
theorem by157 : Tryz.prog.bytesOf 157 = 8 := by kernel_rfl
theorem zr157 : zeroOf Tryz.prog 157 = some [.undef] := by kernel_rfl
theorem zk157 : zeroOk Tryz.prog 157 = true := by kernel_rfl
theorem td158 : tdOf Tryz.prog 158 = .ptr := by kernel_rfl
theorem sz158 : Tryz.prog.cellsOf 158 = 1 := by kernel_rfl
theorem by158 : Tryz.prog.bytesOf 158 = 8 := by kernel_rfl
theorem zr158 : zeroOf Tryz.prog 158 = some [.undef] := by kernel_rfl
theorem zk158 : zeroOk Tryz.prog 158 = true := by kernel_rfl
theorem td159 : tdOf Tryz.prog 159 = .ptr := by kernel_rfl
theorem sz159 : Tryz.prog.cellsOf 159 = 1 := by kernel_rfl
theorem by159 : Tryz.prog.bytesOf 159 = 8 := by kernel_rfl
theorem zr159 : zeroOf Tryz.prog 159 = some [.undef] := by kernel_rfl
theorem zk159 : zeroOk Tryz.prog 159 = true := by kernel_rfl
theorem td160 : tdOf Tryz.prog 160 = .ptr := by kernel_rfl
theorem sz160 : Tryz.prog.cellsOf 160 = 1 := by kernel_rfl
theorem by160 : Tryz.prog.bytesOf 160 = 8 := by kernel_rfl
theorem zr160 : zeroOf Tryz.prog 160 = some [.undef] := by kernel_rfl
theorem zk160 : zeroOk Tryz.prog 160 = true := by kernel_rfl
theorem td161 : tdOf Tryz.prog 161 = .ptr := by kernel_rfl
theorem sz161 : Tryz.prog.cellsOf 161 = 1 := by kernel_rfl
theorem by161 : Tryz.prog.bytesOf 161 = 8 := by kernel_rfl
theorem zr161 : zeroOf Tryz.prog 161 = some [.undef] := by kernel_rfl
theorem zk161 : zeroOk Tryz.prog 161 = true := by kernel_rfl
theorem td162 : tdOf Tryz.prog 162 = .ptr := by kernel_rfl
theorem sz162 : Tryz.prog.cellsOf 162 = 1 := by kernel_rfl
theorem by162 : Tryz.prog.bytesOf 162 = 8 := by kernel_rfl
theorem zr162 : zeroOf Tryz.prog 162 = some [.undef] := by kernel_rfl
theorem zk162 : zeroOk Tryz.prog 162 = true := by kernel_rfl
theorem td163 : tdOf Tryz.prog 163 = .ptr := by kernel_rfl
theorem sz163 : Tryz.prog.cellsOf 163 = 1 := by kernel_rfl
theorem by163 : Tryz.prog.bytesOf 163 = 8 := by kernel_rfl
theorem zr163 : zeroOf Tryz.prog 163 = some [.undef] := by kernel_rfl
theorem zk163 : zeroOk Tryz.prog 163 = true := by kernel_rfl
theorem td164 : tdOf Tryz.prog 164 = .ptr := by kernel_rfl
theorem sz164 : Tryz.prog.cellsOf 164 = 1 := by kernel_rfl
theorem by164 : Tryz.prog.bytesOf 164 = 8 := by kernel_rfl
theorem zr164 : zeroOf Tryz.prog 164 = some [.undef] := by kernel_rfl
theorem zk164 : zeroOk Tryz.prog 164 = true := by kernel_rfl
theorem td165 : tdOf Tryz.prog 165 = .struct [(0, 1, 9), (1, 1, 9), (2, 1, 92), (3, 2, 32), (5, 1, 75)] := by kernel_rfl
theorem sz165 : Tryz.prog.cellsOf 165 = 6 := by kernel_rfl
theorem by165 : Tryz.prog.bytesOf 165 = 112 := by kernel_rfl
theorem zr165 : zeroOf Tryz.prog 165 = some [.str [], .str [], .sl .nil 0 [], .str [], .str [], .sl .nil 0 []] := by kernel_rfl
theorem zk165 : zeroOk Tryz.prog 165 = true := by kernel_rfl
theorem td166 : tdOf Tryz.prog 166 = .struct [(0, 1, 9), (1, 1, 9), (2, 1, 92), (3, 2, 32), (5, 1, 75)] := by kernel_rfl
theorem sz166 : Tryz.prog.cellsOf 166 = 6 := by kernel_rfl
theorem by166 : Tryz.prog.bytesOf 166 = 112 := by kernel_rfl
theorem zr166 : zeroOf Tryz.prog 166 = some [.str [], .str [], .sl .nil 0 [], .str [], .str [], .sl .nil 0 []] := by kernel_rfl
theorem zk166 : zeroOk Tryz.prog 166 = true := by kernel_rfl
theorem td168 : tdOf Tryz.prog 168 = .ptr := by kernel_rfl
theorem sz168 : Tryz.prog.cellsOf 168 = 1 := by kernel_rfl
theorem by168 : Tryz.prog.bytesOf 168 = 8 := by kernel_rfl
theorem zr168 : zeroOf Tryz.prog 168 = some [.undef] := by kernel_rfl
theorem zk168 : zeroOk Tryz.prog 168 = true := by kernel_rfl
theorem td169 : tdOf Tryz.prog 169 = .ptr := by kernel_rfl
theorem sz169 : Tryz.prog.cellsOf 169 = 1 := by kernel_rfl
theorem by169 : Tryz.prog.bytesOf 169 = 8 := by kernel_rfl
theorem zr169 : zeroOf Tryz.prog 169 = some [.undef] := by kernel_rfl
theorem zk169 : zeroOk Tryz.prog 169 = true := by kernel_rfl
theorem td170 : tdOf Tryz.prog 170 = .ptr := by kernel_rfl
theorem sz170 : Tryz.prog.cellsOf 170 = 1 := by kernel_rfl
theorem by170 : Tryz.prog.bytesOf 170 = 8 := by kernel_rfl
theorem zr170 : zeroOf Tryz.prog 170 = some [.undef] := by kernel_rfl
theorem zk170 : zeroOk Tryz.prog 170 = true := by kernel_rfl
theorem td171 : tdOf Tryz.prog 171 = .struct [(0, 1, 9), (1, 1, 9), (2, 1, 75)] := by kernel_rfl
theorem sz171 : Tryz.prog.cellsOf 171 = 3 := by kernel_rfl
theorem by171 : Tryz.prog.bytesOf 171 = 56 := by kernel_rfl
theorem zr171 : zeroOf Tryz.prog 171 = some [.str [], .str [], .sl .nil 0 []] := by kernel_rfl
theorem zk171 : zeroOk Tryz.prog 171 = true := by kernel_rfl
theorem td172 : tdOf Tryz.prog 172 = .struct [(0, 1, 9), (1, 1, 9), (2, 1, 75)] := by kernel_rfl
theorem sz172 : Tryz.prog.cellsOf 172 = 3 := by kernel_rfl
theorem by172 : Tryz.prog.bytesOf 172 = 56 := by kernel_rfl
theorem zr172 : zeroOf Tryz.prog 172 = some [.str [], .str [], .sl .nil 0 []] := by kernel_rfl
theorem zk172 : zeroOk Tryz.prog 172 = true := by kernel_rfl
theorem td173 : tdOf Tryz.prog 173 = .ptr := by kernel_rfl
theorem sz173 : Tryz.prog.cellsOf 173 = 1 := by kernel_rfl
theorem by173 : Tryz.prog.bytesOf 173 = 8 := by kernel_rfl
theorem zr173 : zeroOf Tryz.prog 173 = some [.undef] := by kernel_rfl
theorem zk173 : zeroOk Tryz.prog 173 = true := by kernel_rfl
theorem td174 : tdOf Tryz.prog 174 = .ptr := by kernel_rfl
theorem sz174 : Tryz.prog.cellsOf 174 = 1 := by kernel_rfl
theorem by174 : Tryz.prog.bytesOf 174 = 8 := by kernel_rfl
theorem zr174 : zeroOf Tryz.prog 174 = some [.undef] := by kernel_rfl
theorem zk174 : zeroOk Tryz.prog 174 = true := by kernel_rfl
theorem td175 : tdOf Tryz.prog 175 = .ptr := by kernel_rfl
theorem sz175 : Tryz.prog.cellsOf 175 = 1 := by kernel_rfl
theorem by175 : Tryz.prog.bytesOf 175 = 8 := by kernel_rfl
theorem zr175 : zeroOf Tryz.prog 175 = some [.undef] := by kernel_rfl
theorem zk175 : zeroOk Tryz.prog 175 = true := by kernel_rfl
theorem td176 : tdOf Tryz.prog 176 = .ptr := by kernel_rfl
theorem sz176 : Tryz.prog.cellsOf 176 = 1 := by kernel_rfl
theorem by176 : Tryz.prog.bytesOf 176 = 8 := by kernel_rfl
theorem zr176 : zeroOf Tryz.prog 176 = some [.undef] := by kernel_rfl
theorem zk176 : zeroOk Tryz.prog 176 = true := by kernel_rfl
theorem td177 : tdOf Tryz.prog 177 = .ptr := by kernel_rfl
theorem sz177 : Tryz.prog.cellsOf 177 = 1 := by kernel_rfl
theorem by177 : Tryz.prog.bytesOf 177 = 8 := by kernel_rfl
theorem zr177 : zeroOf Tryz.prog 177 = some [.undef] := by kernel_rfl
theorem zk177 : zeroOk Tryz.prog 177 = true := by kernel_rfl
theorem td178 : tdOf Tryz.prog 178 = .ptr := by kernel_rfl
theorem sz178 : Tryz.prog.cellsOf 178 = 1 := by kernel_rfl
theorem by178 : Tryz.prog.bytesOf 178 = 8 := by kernel_rfl
theorem zr178 : zeroOf Tryz.prog 178 = some [.undef] := by kernel_rfl
theorem zk178 : zeroOk Tryz.prog 178 = true := by kernel_rfl
theorem td179 : tdOf Tryz.prog 179 = .ptr := by kernel_rfl
theorem sz179 : Tryz.prog.cellsOf 179 = 1 := by kernel_rfl
theorem by179 : Tryz.prog.bytesOf 179 = 8 := by kernel_rfl
theorem zr179 : zeroOf Tryz.prog 179 = some [.undef] := by kernel_rfl
theorem zk179 : zeroOk Tryz.prog 179 = true := by kernel_rfl
theorem td180 : tdOf Tryz.prog 180 = .ptr := by kernel_rfl
theorem sz180 : Tryz.prog.cellsOf 180 = 1 := by kernel_rfl
theorem by180 : Tryz.prog.bytesOf 180 = 8 := by kernel_rfl
theorem zr180 : zeroOf Tryz.prog 180 = some [.undef] := by kernel_rfl
theorem zk180 : zeroOk Tryz.prog 180 = true := by kernel_rfl
theorem td181 : tdOf Tryz.prog 181 = .ptr := by kernel_rfl
theorem sz181 : Tryz.prog.cellsOf 181 = 1 := by kernel_rfl
theorem by181 : Tryz.prog.bytesOf 181 = 8 := by kernel_rfl
theorem zr181 : zeroOf Tryz.prog 181 = some [.undef] := by kernel_rfl
theorem zk181 : zeroOk Tryz.prog 181 = true := by kernel_rfl
theorem td183 : tdOf Tryz.prog 183 = .ptr := by kernel_rfl
theorem sz183 : Tryz.prog.cellsOf 183 = 1 := by kernel_rfl
theorem by183 : Tryz.prog.bytesOf 183 = 8 := by kernel_rfl
theorem zr183 : zeroOf Tryz.prog 183 = some [.undef] := by kernel_rfl
theorem zk183 : zeroOk Tryz.prog 183 = true := by kernel_rfl
theorem td184 : tdOf Tryz.prog 184 = .ptr := by kernel_rfl
theorem sz184 : Tryz.prog.cellsOf 184 = 1 := by kernel_rfl
theorem by184 : Tryz.prog.bytesOf 184 = 8 := by kernel_rfl
theorem zr184 : zeroOf Tryz.prog 184 = some [.undef] := by kernel_rfl
theorem zk184 : zeroOk Tryz.prog 184 = true := by kernel_rfl
theorem td186 : tdOf Tryz.prog 186 = .ptr := by kernel_rfl
theorem sz186 : Tryz.prog.cellsOf 186 = 1 := by kernel_rfl
theorem by186 : Tryz.prog.bytesOf 186 = 8 := by kernel_rfl
theorem zr186 : zeroOf Tryz.prog 186 = some [.undef] := by kernel_rfl
theorem zk186 : zeroOk Tryz.prog 186 = true := by kernel_rfl
theorem td187 : tdOf Tryz.prog 187 = .ptr := by kernel_rfl
theorem sz187 : Tryz.prog.cellsOf 187 = 1 := by kernel_rfl
theorem by187 : Tryz.prog.bytesOf 187 = 8 := by kernel_rfl
theorem zr187 : zeroOf Tryz.prog 187 = some [.undef] := by kernel_rfl
theorem zk187 : zeroOk Tryz.prog 187 = true := by kernel_rfl
theorem td188 : tdOf Tryz.prog 188 = .ptr := by kernel_rfl
theorem sz188 : Tryz.prog.cellsOf 188 = 1 := by kernel_rfl
theorem by188 : Tryz.prog.bytesOf 188 = 8 := by kernel_rfl
theorem zr188 : zeroOf Tryz.prog 188 = some [.undef] := by kernel_rfl
theorem zk188 : zeroOk Tryz.prog 188 = true := by kernel_rfl
theorem td189 : tdOf Tryz.prog 189 = .ptr := by kernel_rfl
theorem sz189 : Tryz.prog.cellsOf 189 = 1 := by kernel_rfl
theorem by189 : Tryz.prog.bytesOf 189 = 8 := by kernel_rfl
theorem zr189 : zeroOf Tryz.prog 189 = some [.undef] := by kernel_rfl
theorem zk189 : zeroOk Tryz.prog 189 = true := by kernel_rfl
theorem td190 : tdOf Tryz.prog 190 = .slice 5 := by kernel_rfl
theorem sz190 : Tryz.prog.cellsOf 190 = 1 := by kernel_rfl
theorem by190 : Tryz.prog.bytesOf 190 = 24 := by kernel_rfl
theorem zr190 : zeroOf Tryz.prog 190 = some [.sl .nil 0 []] := by kernel_rfl
theorem zk190 : zeroOk Tryz.prog 190 = true := by kernel_rfl
theorem td191 : tdOf Tryz.prog 191 = .ptr := by kernel_rfl
theorem sz191 : Tryz.prog.cellsOf 191 = 1 := by kernel_rfl
theorem by191 : Tryz.prog.bytesOf 191 = 8 := by kernel_rfl
theorem zr191 : zeroOf Tryz.prog 191 = some [.undef] := by kernel_rfl
theorem zk191 : zeroOk Tryz.prog 191 = true := by kernel_rfl
theorem td192 : tdOf Tryz.prog 192 = .ptr := by kernel_rfl
theorem sz192 : Tryz.prog.cellsOf 192 = 1 := by kernel_rfl
theorem by192 : Tryz.prog.bytesOf 192 = 8 := by kernel_rfl
theorem zr192 : zeroOf Tryz.prog 192 = some [.undef] := by kernel_rfl
theorem zk192 : zeroOk Tryz.prog 192 = true := by kernel_rfl
theorem td193 : tdOf Tryz.prog 193 = .ptr := by kernel_rfl
theorem sz193 : Tryz.prog.cellsOf 193 = 1 := by kernel_rfl
theorem by193 : Tryz.prog.bytesOf 193 = 8 := by kernel_rfl
theorem zr193 : zeroOf Tryz.prog 193 = some [.undef] := by kernel_rfl
theorem zk193 : zeroOk Tryz.prog 193 = true := by kernel_rfl
theorem td194 : tdOf Tryz.prog 194 = .ptr := by kernel_rfl
theorem sz194 : Tryz.prog.cellsOf 194 = 1 := by kernel_rfl
theorem by194 : Tryz.prog.bytesOf 194 = 8 := by kernel_rfl
theorem zr194 : zeroOf Tryz.prog 194 = some [.undef] := by kernel_rfl
theorem zk194 : zeroOk Tryz.prog 194 = true := by kernel_rfl
theorem td195 : tdOf Tryz.prog 195 = .ptr := by kernel_rfl
theorem sz195 : Tryz.prog.cellsOf 195 = 1 := by kernel_rfl
theorem by195 : Tryz.prog.bytesOf 195 = 8 := by kernel_rfl
theorem zr195 : zeroOf Tryz.prog 195 = some [.undef] := by kernel_rfl
theorem zk195 : zeroOk Tryz.prog 195 = true := by kernel_rfl
theorem td196 : tdOf Tryz.prog 196 = .ptr := by kernel_rfl
theorem sz196 : Tryz.prog.cellsOf 196 = 1 := by kernel_rfl
theorem by196 : Tryz.prog.bytesOf 196 = 8 := by kernel_rfl
theorem zr196 : zeroOf Tryz.prog 196 = some [.undef] := by kernel_rfl
theorem zk196 : zeroOk Tryz.prog 196 = true := by kernel_rfl
theorem td197 : tdOf Tryz.prog 197 = .ptr := by kernel_rfl
theorem sz197 : Tryz.prog.cellsOf 197 = 1 := by kernel_rfl
theorem by197 : Tryz.prog.bytesOf 197 = 8 := by kernel_rfl
theorem zr197 : zeroOf Tryz.prog 197 = some [.undef] := by kernel_rfl
theorem zk197 : zeroOk Tryz.prog 197 = true := by kernel_rfl
theorem td198 : tdOf Tryz.prog 198 = .ptr := by kernel_rfl
theorem sz198 : Tryz.prog.cellsOf 198 = 1 := by kernel_rfl
theorem by198 : Tryz.prog.bytesOf 198 = 8 := by kernel_rfl
theorem zr198 : zeroOf Tryz.prog 198 = some [.undef] := by kernel_rfl
theorem zk198 : zeroOk Tryz.prog 198 = true := by kernel_rfl
theorem td199 : tdOf Tryz.prog 199 = .ptr := by kernel_rfl
theorem sz199 : Tryz.prog.cellsOf 199 = 1 := by kernel_rfl
theorem by199 : Tryz.prog.bytesOf 199 = 8 := by kernel_rfl
theorem zr199 : zeroOf Tryz.prog 199 = some [.undef] := by kernel_rfl
theorem zk199 : zeroOk Tryz.prog 199 = true := by kernel_rfl
theorem td200 : tdOf Tryz.prog 200 = .struct [(0, 1, 3), (1, 1, 9)] := by kernel_rfl
theorem sz200 : Tryz.prog.cellsOf 200 = 2 := by kernel_rfl
theorem by200 : Tryz.prog.bytesOf 200 = 24 := by kernel_rfl
theorem zr200 : zeroOf Tryz.prog 200 = some [.int .i64 0, .str []] := by kernel_rfl
theorem zk200 : zeroOk Tryz.prog 200 = true := by kernel_rfl
theorem td201 : tdOf Tryz.prog 201 = .struct [(0, 1, 3), (1, 1, 9)] := by kernel_rfl
theorem sz201 : Tryz.prog.cellsOf 201 = 2 := by kernel_rfl
theorem by201 : Tryz.prog.bytesOf 201 = 24 := by kernel_rfl
theorem zr201 : zeroOf Tryz.prog 201 = some [.int .i64 0, .str []] := by kernel_rfl
theorem zk201 : zeroOk Tryz.prog 201 = true := by kernel_rfl
theorem td202 : tdOf Tryz.prog 202 = .struct [(0, 1, 3), (1, 1, 9)] := by kernel_rfl
theorem sz202 : Tryz.prog.cellsOf 202 = 2 := by kernel_rfl
theorem by202 : Tryz.prog.bytesOf 202 = 24 := by kernel_rfl
theorem zr202 : zeroOf Tryz.prog 202 = some [.int .i64 0, .str []] := by kernel_rfl
theorem zk202 : zeroOk Tryz.prog 202 = true := by kernel_rfl
theorem td203 : tdOf Tryz.prog 203 = .ptr := by kernel_rfl
theorem sz203 : Tryz.prog.cellsOf 203 = 1 := by kernel_rfl
theorem by203 : Tryz.prog.bytesOf 203 = 8 := by kernel_rfl
theorem zr203 : zeroOf Tryz.prog 203 = some [.undef] := by kernel_rfl
theorem zk203 : zeroOk Tryz.prog 203 = true := by kernel_rfl
theorem td204 : tdOf Tryz.prog 204 = .ptr := by kernel_rfl
theorem sz204 : Tryz.prog.cellsOf 204 = 1 := by kernel_rfl
theorem by204 : Tryz.prog.bytesOf 204 = 8 := by kernel_rfl
theorem zr204 : zeroOf Tryz.prog 204 = some [.undef] := by kernel_rfl
theorem zk204 : zeroOk Tryz.prog 204 = true := by kernel_rfl
theorem td205 : tdOf Tryz.prog 205 = .ptr := by kernel_rfl
theorem sz205 : Tryz.prog.cellsOf 205 = 1 := by kernel_rfl
theorem by205 : Tryz.prog.bytesOf 205 = 8 := by kernel_rfl
theorem zr205 : zeroOf Tryz.prog 205 = some [.undef] := by kernel_rfl
theorem zk205 : zeroOk Tryz.prog 205 = true := by kernel_rfl
theorem td207 : tdOf Tryz.prog 207 = .ptr := by kernel_rfl
theorem sz207 : Tryz.prog.cellsOf 207 = 1 := by kernel_rfl
theorem by207 : Tryz.prog.bytesOf 207 = 8 := by kernel_rfl
theorem zr207 : zeroOf Tryz.prog 207 = some [.undef] := by kernel_rfl
theorem zk207 : zeroOk Tryz.prog 207 = true := by kernel_rfl
theorem td208 : tdOf Tryz.prog 208 = .ptr := by kernel_rfl
theorem sz208 : Tryz.prog.cellsOf 208 = 1 := by kernel_rfl
theorem by208 : Tryz.prog.bytesOf 208 = 8 := by kernel_rfl
theorem zr208 : zeroOf Tryz.prog 208 = some [.undef] := by kernel_rfl
theorem zk208 : zeroOk Tryz.prog 208 = true := by kernel_rfl
theorem td209 : tdOf Tryz.prog 209 = .ptr := by kernel_rfl
theorem sz209 : Tryz.prog.cellsOf 209 = 1 := by kernel_rfl
theorem by209 : Tryz.prog.bytesOf 209 = 8 := by kernel_rfl
theorem zr209 : zeroOf Tryz.prog 209 = some [.undef] := by kernel_rfl
theorem zk209 : zeroOk Tryz.prog 209 = true := by kernel_rfl
theorem td210 : tdOf Tryz.prog 210 = .ptr := by kernel_rfl
theorem sz210 : Tryz.prog.cellsOf 210 = 1 := by kernel_rfl
theorem by210 : Tryz.prog.bytesOf 210 = 8 := by kernel_rfl
theorem zr210 : zeroOf Tryz.prog 210 = some [.undef] := by kernel_rfl
theorem zk210 : zeroOk Tryz.prog 210 = true := by kernel_rfl
theorem td211 : tdOf Tryz.prog 211 = .slice 285 := by kernel_rfl
theorem sz211 : Tryz.prog.cellsOf 211 = 1 := by kernel_rfl
theorem by211 : Tryz.prog.bytesOf 211 = 24 := by kernel_rfl
theorem zr211 : zeroOf Tryz.prog 211 = some [.sl .nil 0 []] := by kernel_rfl
theorem zk211 : zeroOk Tryz.prog 211 = true := by kernel_rfl
theorem td212 : tdOf Tryz.prog 212 = .struct [(0, 1, 9), (1, 1, 211)] := by kernel_rfl
theorem sz212 : Tryz.prog.cellsOf 212 = 2 := by kernel_rfl
theorem by212 : Tryz.prog.bytesOf 212 = 40 := by kernel_rfl
theorem zr212 : zeroOf Tryz.prog 212 = some [.str [], .sl .nil 0 []] := by kernel_rfl
theorem zk212 : zeroOk Tryz.prog 212 = true := by kernel_rfl
theorem td213 : tdOf Tryz.prog 213 = .struct [(0, 1, 9), (1, 1, 211)] := by kernel_rfl
theorem sz213 : Tryz.prog.cellsOf 213 = 2 := by kernel_rfl
theorem by213 : Tryz.prog.bytesOf 213 = 40 := by kernel_rfl
theorem zr213 : zeroOf Tryz.prog 213 = some [.str [], .sl .nil 0 []] := by kernel_rfl
theorem zk213 : zeroOk Tryz.prog 213 = true := by kernel_rfl
theorem td214 : tdOf Tryz.prog 214 = .ptr := by kernel_rfl
theorem sz214 : Tryz.prog.cellsOf 214 = 1 := by kernel_rfl
theorem by214 : Tryz.prog.bytesOf 214 = 8 := by kernel_rfl
theorem zr214 : zeroOf Tryz.prog 214 = some [.undef] := by kernel_rfl
theorem zk214 : zeroOk Tryz.prog 214 = true := by kernel_rfl
theorem td215 : tdOf Tryz.prog 215 = .ptr := by kernel_rfl
theorem sz215 : Tryz.prog.cellsOf 215 = 1 := by kernel_rfl
theorem by215 : Tryz.prog.bytesOf 215 = 8 := by kernel_rfl
theorem zr215 : zeroOf Tryz.prog 215 = some [.undef] := by kernel_rfl
theorem zk215 : zeroOk Tryz.prog 215 = true := by kernel_rfl
theorem td216 : tdOf Tryz.prog 216 = .ptr := by kernel_rfl
theorem sz216 : Tryz.prog.cellsOf 216 = 1 := by kernel_rfl
theorem by216 : Tryz.prog.bytesOf 216 = 8 := by kernel_rfl
theorem zr216 : zeroOf Tryz.prog 216 = some [.undef] := by kernel_rfl
theorem zk216 : zeroOk Tryz.prog 216 = true := by kernel_rfl
theorem td217 : tdOf Tryz.prog 217 = .slice 264 := by kernel_rfl
theorem sz217 : Tryz.prog.cellsOf 217 = 1 := by kernel_rfl
theorem by217 : Tryz.prog.bytesOf 217 = 24 := by kernel_rfl
theorem zr217 : zeroOf Tryz.prog 217 = some [.sl .nil 0 []] := by kernel_rfl
theorem zk217 : zeroOk Tryz.prog 217 = true := by kernel_rfl
theorem td218 : tdOf Tryz.prog 218 = .struct [(0, 1, 9), (1, 1, 217)] := by kernel_rfl
theorem sz218 : Tryz.prog.cellsOf 218 = 2 := by kernel_rfl
theorem by218 : Tryz.prog.bytesOf 218 = 40 := by kernel_rfl
theorem zr218 : zeroOf Tryz.prog 218 = some [.str [], .sl .nil 0 []] := by kernel_rfl
theorem zk218 : zeroOk Tryz.prog 218 = true := by kernel_rfl
theorem td219 : tdOf Tryz.prog 219 = .struct [(0, 1, 9), (1, 1, 217)] := by kernel_rfl
theorem sz219 : Tryz.prog.cellsOf 219 = 2 := by kernel_rfl
theorem by219 : Tryz.prog.bytesOf 219 = 40 := by kernel_rfl
theorem zr219 : zeroOf Tryz.prog 219 = some [.str [], .sl .nil 0 []] := by kernel_rfl
theorem zk219 : zeroOk Tryz.prog 219 = true := by kernel_rfl
theorem td220 : tdOf Tryz.prog 220 = .ptr := by kernel_rfl
theorem sz220 : Tryz.prog.cellsOf 220 = 1 := by kernel_rfl
theorem by220 : Tryz.prog.bytesOf 220 = 8 := by kernel_rfl
theorem zr220 : zeroOf Tryz.prog 220 = some [.undef] := by kernel_rfl
theorem zk220 : zeroOk Tryz.prog 220 = true := by kernel_rfl
theorem td221 : tdOf Tryz.prog 221 = .ptr := by kernel_rfl
theorem sz221 : Tryz.prog.cellsOf 221 = 1 := by kernel_rfl
theorem by221 : Tryz.prog.bytesOf 221 = 8 := by kernel_rfl
theorem zr221 : zeroOf Tryz.prog 221 = some [.undef] := by kernel_rfl
theorem zk221 : zeroOk Tryz.prog 221 = true := by kernel_rfl
theorem td222 : tdOf Tryz.prog 222 = .ptr := by kernel_rfl
theorem sz222 : Tryz.prog.cellsOf 222 = 1 := by kernel_rfl
theorem by222 : Tryz.prog.bytesOf 222 = 8 := by kernel_rfl
theorem zr222 : zeroOf Tryz.prog 222 = some [.undef] := by kernel_rfl
theorem zk222 : zeroOk Tryz.prog 222 = true := by kernel_rfl
theorem td223 : tdOf Tryz.prog 223 = .ptr := by kernel_rfl
theorem sz223 : Tryz.prog.cellsOf 223 = 1 := by kernel_rfl
theorem by223 : Tryz.prog.bytesOf 223 = 8 := by kernel_rfl
theorem zr223 : zeroOf Tryz.prog 223 = some [.undef] := by kernel_rfl
theorem zk223 : zeroOk Tryz.prog 223 = true := by kernel_rfl
theorem td224 : tdOf Tryz.prog 224 = .ptr := by kernel_rfl
theorem sz224 : Tryz.prog.cellsOf 224 = 1 := by kernel_rfl
theorem by224 : Tryz.prog.bytesOf 224 = 8 := by kernel_rfl
theorem zr224 : zeroOf Tryz.prog 224 = some [.undef] := by kernel_rfl
theorem zk224 : zeroOk Tryz.prog 224 = true := by kernel_rfl
theorem td225 : tdOf Tryz.prog 225 = .ptr := by kernel_rfl
theorem sz225 : Tryz.prog.cellsOf 225 = 1 := by kernel_rfl
theorem by225 : Tryz.prog.bytesOf 225 = 8 := by kernel_rfl
theorem zr225 : zeroOf Tryz.prog 225 = some [.undef] := by kernel_rfl
theorem zk225 : zeroOk Tryz.prog 225 = true := by kernel_rfl
theorem td226 : tdOf Tryz.prog 226 = .struct [(0, 1, 9), (1, 1, 9), (2, 1, 85), (3, 2, 49), (5, 1, 70)] := by kernel_rfl
theorem sz226 : Tryz.prog.cellsOf 226 = 6 := by kernel_rfl
theorem by226 : Tryz.prog.bytesOf 226 = 112 := by kernel_rfl
theorem zr226 : zeroOf Tryz.prog 226 = some [.str [], .str [], .sl .nil 0 [], .str [], .str [], .sl .nil 0 []] := by kernel_rfl
theorem zk226 : zeroOk Tryz.prog 226 = true := by kernel_rfl
theorem td227 : tdOf Tryz.prog 227 = .struct [(0, 1, 9), (1, 1, 9), (2, 1, 85), (3, 2, 49), (5, 1, 70)] := by kernel_rfl
theorem sz227 : Tryz.prog.cellsOf 227 = 6 := by kernel_rfl
theorem by227 : Tryz.prog.bytesOf 227 = 112 := by kernel_rfl
theorem zr227 : zeroOf Tryz.prog 227 = some [.str [], .str [], .sl .nil 0 [], .str [], .str [], .sl .nil 0 []] := by kernel_rfl
theorem zk227 : zeroOk Tryz.prog 227 = true := by kernel_rfl
theorem td228 : tdOf Tryz.prog 228 = .ptr := by kernel_rfl
theorem sz228 : Tryz.prog.cellsOf 228 = 1 := by kernel_rfl
theorem by228 : Tryz.prog.bytesOf 228 = 8 := by kernel_rfl
theorem zr228 : zeroOf Tryz.prog 228 = some [.undef] := by kernel_rfl
theorem zk228 : zeroOk Tryz.prog 228 = true := by kernel_rfl
theorem td229 : tdOf Tryz.prog 229 = .struct [(0, 1, 9), (1, 1, 9), (2, 1, 70)] := by kernel_rfl
theorem sz229 : Tryz.prog.cellsOf 229 = 3 := by kernel_rfl
theorem by229 : Tryz.prog.bytesOf 229 = 56 := by kernel_rfl
theorem zr229 : zeroOf Tryz.prog 229 = some [.str [], .str [], .sl .nil 0 []] := by kernel_rfl
theorem zk229 : zeroOk Tryz.prog 229 = true := by kernel_rfl
theorem td230 : tdOf Tryz.prog 230 = .struct [(0, 1, 9), (1, 1, 9), (2, 1, 70)] := by kernel_rfl
theorem sz230 : Tryz.prog.cellsOf 230 = 3 := by kernel_rfl
theorem by230 : Tryz.prog.bytesOf 230 = 56 := by kernel_rfl
theorem zr230 : zeroOf Tryz.prog 230 = some [.str [], .str [], .sl .nil 0 []] := by kernel_rfl
theorem zk230 : zeroOk Tryz.prog 230 = true := by kernel_rfl
theorem td231 : tdOf Tryz.prog 231 = .ptr := by kernel_rfl
theorem sz231 : Tryz.prog.cellsOf 231 = 1 := by kernel_rfl
theorem by231 : Tryz.prog.bytesOf 231 = 8 := by kernel_rfl
theorem zr231 : zeroOf Tryz.prog 231 = some [.undef] := by kernel_rfl
theorem zk231 : zeroOk Tryz.prog 231 = true := by kernel_rfl
theorem td232 : tdOf Tryz.prog 232 = .ptr := by kernel_rfl
theorem sz232 : Tryz.prog.cellsOf 232 = 1 := by kernel_rfl
theorem by232 : Tryz.prog.bytesOf 232 = 8 := by kernel_rfl
theorem zr232 : zeroOf Tryz.prog 232 = some [.undef] := by kernel_rfl
theorem zk232 : zeroOk Tryz.prog 232 = true := by kernel_rfl
theorem td233 : tdOf Tryz.prog 233 = .ptr := by kernel_rfl
theorem sz233 : Tryz.prog.cellsOf 233 = 1 := by kernel_rfl
theorem by233 : Tryz.prog.bytesOf 233 = 8 := by kernel_rfl
theorem zr233 : zeroOf Tryz.prog 233 = some [.undef] := by kernel_rfl
theorem zk233 : zeroOk Tryz.prog 233 = true := by kernel_rfl
theorem td234 : tdOf Tryz.prog 234 = .ptr := by kernel_rfl
theorem sz234 : Tryz.prog.cellsOf 234 = 1 := by kernel_rfl
theorem by234 : Tryz.prog.bytesOf 234 = 8 := by kernel_rfl
theorem zr234 : zeroOf Tryz.prog 234 = some [.undef] := by kernel_rfl
theorem zk234 : zeroOk Tryz.prog 234 = true := by kernel_rfl
theorem td235 : tdOf Tryz.prog 235 = .ptr := by kernel_rfl
theorem sz235 : Tryz.prog.cellsOf 235 = 1 := by kernel_rfl
theorem by235 : Tryz.prog.bytesOf 235 = 8 := by kernel_rfl
theorem zr235 : zeroOf Tryz.prog 235 = some [.undef] := by kernel_rfl
theorem zk235 : zeroOk Tryz.prog 235 = true := by kernel_rfl
theorem td236 : tdOf Tryz.prog 236 = .ptr := by kernel_rfl
theorem sz236 : Tryz.prog.cellsOf 236 = 1 := by kernel_rfl
theorem by236 : Tryz.prog.bytesOf 236 = 8 := by kernel_rfl
theorem zr236 : zeroOf Tryz.prog 236 = some [.undef] := by kernel_rfl
theorem zk236 : zeroOk Tryz.prog 236 = true := by kernel_rfl
theorem td237 : tdOf Tryz.prog 237 = .ptr := by kernel_rfl
theorem sz237 : Tryz.prog.cellsOf 237 = 1 := by kernel_rfl
theorem by237 : Tryz.prog.bytesOf 237 = 8 := by kernel_rfl
theorem zr237 : zeroOf Tryz.prog 237 = some [.undef] := by kernel_rfl
theorem zk237 : zeroOk Tryz.prog 237 = true := by kernel_rfl
theorem td238 : tdOf Tryz.prog 238 = .ptr := by kernel_rfl
theorem sz238 : Tryz.prog.cellsOf 238 = 1 := by kernel_rfl
theorem by238 : Tryz.prog.bytesOf 238 = 8 := by kernel_rfl
theorem zr238 : zeroOf Tryz.prog 238 = some [.undef] := by kernel_rfl
theorem zk238 : zeroOk Tryz.prog 238 = true := by kernel_rfl
theorem td239 : tdOf Tryz.prog 239 = .ptr := by kernel_rfl
theorem sz239 : Tryz.prog.cellsOf 239 = 1 := by kernel_rfl
theorem by239 : Tryz.prog.bytesOf 239 = 8 := by kernel_rfl
theorem zr239 : zeroOf Tryz.prog 239 = some [.undef] := by kernel_rfl
theorem zk239 : zeroOk Tryz.prog 239 = true := by kernel_rfl
theorem td240 : tdOf Tryz.prog 240 = .ptr := by kernel_rfl
theorem sz240 : Tryz.prog.cellsOf 240 = 1 := by kernel_rfl
theorem by240 : Tryz.prog.bytesOf 240 = 8 := by kernel_rfl
theorem zr240 : zeroOf Tryz.prog 240 = some [.undef] := by kernel_rfl
theorem zk240 : zeroOk Tryz.prog 240 = true := by kernel_rfl
theorem td241 : tdOf Tryz.prog 241 = .ptr := by kernel_rfl
theorem sz241 : Tryz.prog.cellsOf 241 = 1 := by kernel_rfl
theorem by241 : Tryz.prog.bytesOf 241 = 8 := by kernel_rfl
theorem zr241 : zeroOf Tryz.prog 241 = some [.undef] := by kernel_rfl
theorem zk241 : zeroOk Tryz.prog 241 = true := by kernel_rfl
theorem td242 : tdOf Tryz.prog 242 = .ptr := by kernel_rfl
theorem sz242 : Tryz.prog.cellsOf 242 = 1 := by kernel_rfl
theorem by242 : Tryz.prog.bytesOf 242 = 8 := by kernel_rfl
theorem zr242 : zeroOf Tryz.prog 242 = some [.undef] := by kernel_rfl
theorem zk242 : zeroOk Tryz.prog 242 = true := by kernel_rfl
theorem td243 : tdOf Tryz.prog 243 = .ptr := by kernel_rfl
theorem sz243 : Tryz.prog.cellsOf 243 = 1 := by kernel_rfl
theorem by243 : Tryz.prog.bytesOf 243 = 8 := by kernel_rfl
theorem zr243 : zeroOf Tryz.prog 243 = some [.undef] := by kernel_rfl
theorem zk243 : zeroOk Tryz.prog 243 = true := by kernel_rfl
theorem td244 : tdOf Tryz.prog 244 = .ptr := by kernel_rfl
theorem sz244 : Tryz.prog.cellsOf 244 = 1 := by kernel_rfl
theorem by244 : Tryz.prog.bytesOf 244 = 8 := by kernel_rfl
theorem zr244 : zeroOf Tryz.prog 244 = some [.undef] := by kernel_rfl
theorem zk244 : zeroOk Tryz.prog 244 = true := by kernel_rfl
theorem td248 : tdOf Tryz.prog 248 = .ptr := by kernel_rfl
theorem sz248 : Tryz.prog.cellsOf 248 = 1 := by kernel_rfl
theorem by248 : Tryz.prog.bytesOf 248 = 8 := by kernel_rfl
theorem zr248 : zeroOf Tryz.prog 248 = some [.undef] := by kernel_rfl
theorem zk248 : zeroOk Tryz.prog 248 = true := by kernel_rfl
theorem td250 : tdOf Tryz.prog 250 = .ptr := by kernel_rfl
theorem sz250 : Tryz.prog.cellsOf 250 = 1 := by kernel_rfl
theorem by250 : Tryz.prog.bytesOf 250 = 8 := by kernel_rfl
theorem zr250 : zeroOf Tryz.prog 250 = some [.undef] := by kernel_rfl
theorem zk250 : zeroOk Tryz.prog 250 = true := by kernel_rfl
theorem td251 : tdOf Tryz.prog 251 = .ptr := by kernel_rfl
theorem sz251 : Tryz.prog.cellsOf 251 = 1 := by kernel_rfl
theorem by251 : Tryz.prog.bytesOf 251 = 8 := by kernel_rfl
theorem zr251 : zeroOf Tryz.prog 251 = some [.undef] := by kernel_rfl
theorem zk251 : zeroOk Tryz.prog 251 = true := by kernel_rfl
theorem td252 : tdOf Tryz.prog 252 = .ptr := by kernel_rfl
theorem sz252 : Tryz.prog.cellsOf 252 = 1 := by kernel_rfl
theorem by252 : Tryz.prog.bytesOf 252 = 8 := by kernel_rfl
theorem zr252 : zeroOf Tryz.prog 252 = some [.undef] := by kernel_rfl
theorem zk252 : zeroOk Tryz.prog 252 = true := by kernel_rfl
theorem td253 : tdOf Tryz.prog 253 = .ptr := by kernel_rfl
theorem sz253 : Tryz.prog.cellsOf 253 = 1 := by kernel_rfl
theorem by253 : Tryz.prog.bytesOf 253 = 8 := by kernel_rfl
theorem zr253 : zeroOf Tryz.prog 253 = some [.undef] := by kernel_rfl
theorem zk253 : zeroOk Tryz.prog 253 = true := by kernel_rfl
theorem td254 : tdOf Tryz.prog 254 = .ptr := by kernel_rfl
theorem sz254 : Tryz.prog.cellsOf 254 = 1 := by kernel_rfl
theorem by254 : Tryz.prog.bytesOf 254 = 8 := by kernel_rfl
theorem zr254 : zeroOf Tryz.prog 254 = some [.undef] := by kernel_rfl
theorem zk254 : zeroOk Tryz.prog 254 = true := by kernel_rfl
theorem td256 : tdOf Tryz.prog 256 = .ptr := by kernel_rfl
theorem sz256 : Tryz.prog.cellsOf 256 = 1 := by kernel_rfl
theorem by256 : Tryz.prog.bytesOf 256 = 8 := by kernel_rfl
theorem zr256 : zeroOf Tryz.prog 256 = some [.undef] := by kernel_rfl
theorem zk256 : zeroOk Tryz.prog 256 = true := by kernel_rfl
theorem td257 : tdOf Tryz.prog 257 = .ptr := by kernel_rfl
theorem sz257 : Tryz.prog.cellsOf 257 = 1 := by kernel_rfl
theorem by257 : Tryz.prog.bytesOf 257 = 8 := by kernel_rfl
theorem zr257 : zeroOf Tryz.prog 257 = some [.undef] := by kernel_rfl
theorem zk257 : zeroOk Tryz.prog 257 = true := by kernel_rfl
theorem td258 : tdOf Tryz.prog 258 = .ptr := by kernel_rfl
theorem sz258 : Tryz.prog.cellsOf 258 = 1 := by kernel_rfl
theorem by258 : Tryz.prog.bytesOf 258 = 8 := by kernel_rfl
theorem zr258 : zeroOf Tryz.prog 258 = some [.undef] := by kernel_rfl
theorem zk258 : zeroOk Tryz.prog 258 = true := by kernel_rfl
theorem td259 : tdOf Tryz.prog 259 = .ptr := by kernel_rfl
theorem sz259 : Tryz.prog.cellsOf 259 = 1 := by kernel_rfl
theorem by259 : Tryz.prog.bytesOf 259 = 8 := by kernel_rfl
theorem zr259 : zeroOf Tryz.prog 259 = some [.undef] := by kernel_rfl
theorem zk259 : zeroOk Tryz.prog 259 = true := by kernel_rfl
theorem td260 : tdOf Tryz.prog 260 = .ptr := by kernel_rfl
theorem sz260 : Tryz.prog.cellsOf 260 = 1 := by kernel_rfl
theorem by260 : Tryz.prog.bytesOf 260 = 8 := by kernel_rfl
theorem zr260 : zeroOf Tryz.prog 260 = some [.undef] := by kernel_rfl
theorem zk260 : zeroOk Tryz.prog 260 = true := by kernel_rfl
theorem td261 : tdOf Tryz.prog 261 = .ptr := by kernel_rfl
theorem sz261 : Tryz.prog.cellsOf 261 = 1 := by kernel_rfl
theorem by261 : Tryz.prog.bytesOf 261 = 8 := by kernel_rfl
theorem zr261 : zeroOf Tryz.prog 261 = some [.undef] := by kernel_rfl
theorem zk261 : zeroOk Tryz.prog 261 = true := by kernel_rfl
theorem td262 : tdOf Tryz.prog 262 = .ptr := by kernel_rfl
theorem sz262 : Tryz.prog.cellsOf 262 = 1 := by kernel_rfl
theorem by262 : Tryz.prog.bytesOf 262 = 8 := by kernel_rfl
theorem zr262 : zeroOf Tryz.prog 262 = some [.undef] := by kernel_rfl
theorem zk262 : zeroOk Tryz.prog 262 = true := by kernel_rfl
theorem td263 : tdOf Tryz.prog 263 = .struct [(0, 1, 9), (1, 4, 39)] := by kernel_rfl
theorem sz263 : Tryz.prog.cellsOf 263 = 5 := by kernel_rfl
theorem by263 : Tryz.prog.bytesOf 263 = 88 := by kernel_rfl
theorem zr263 : zeroOf Tryz.prog 263 = some [.str [], .int .i64 0, .str [], .sl .nil 0 [], .sl .nil 0 []] := by kernel_rfl
theorem zk263 : zeroOk Tryz.prog 263 = true := by kernel_rfl
theorem td264 : tdOf Tryz.prog 264 = .struct [(0, 1, 9), (1, 4, 39)] := by kernel_rfl
theorem sz264 : Tryz.prog.cellsOf 264 = 5 := by kernel_rfl
theorem by264 : Tryz.prog.bytesOf 264 = 88 := by kernel_rfl
theorem zr264 : zeroOf Tryz.prog 264 = some [.str [], .int .i64 0, .str [], .sl .nil 0 [], .sl .nil 0 []] := by kernel_rfl
theorem zk264 : zeroOk Tryz.prog 264 = true := by kernel_rfl
theorem td265 : tdOf Tryz.prog 265 = .ptr := by kernel_rfl
theorem sz265 : Tryz.prog.cellsOf 265 = 1 := by kernel_rfl
theorem by265 : Tryz.prog.bytesOf 265 = 8 := by kernel_rfl
theorem zr265 : zeroOf Tryz.prog 265 = some [.undef] := by kernel_rfl
theorem zk265 : zeroOk Tryz.prog 265 = true := by kernel_rfl
theorem td266 : tdOf Tryz.prog 266 = .ptr := by kernel_rfl
theorem sz266 : Tryz.prog.cellsOf 266 = 1 := by kernel_rfl
theorem by266 : Tryz.prog.bytesOf 266 = 8 := by kernel_rfl
theorem zr266 : zeroOf Tryz.prog 266 = some [.undef] := by kernel_rfl
theorem zk266 : zeroOk Tryz.prog 266 = true := by kernel_rfl
theorem td267 : tdOf Tryz.prog 267 = .int .u64 := by kernel_rfl
theorem sz267 : Tryz.prog.cellsOf 267 = 1 := by kernel_rfl
theorem by267 : Tryz.prog.bytesOf 267 = 8 := by kernel_rfl
theorem zr267 : zeroOf Tryz.prog 267 = some [.int .u64 0] := by kernel_rfl
theorem zk267 : zeroOk Tryz.prog 267 = true := by kernel_rfl
theorem td268 : tdOf Tryz.prog 268 = .struct [(0, 1, 5), (1, 1, 5)] := by kernel_rfl
theorem sz268 : Tryz.prog.cellsOf 268 = 2 := by kernel_rfl
theorem by268 : Tryz.prog.bytesOf 268 = 2 := by kernel_rfl
theorem zr268 : zeroOf Tryz.prog 268 = some [.int .u8 0, .int .u8 0] := by kernel_rfl
theorem zk268 : zeroOk Tryz.prog 268 = true := by kernel_rfl
theorem td269 : tdOf Tryz.prog 269 = .struct [(0, 1, 5), (1, 1, 5)] := by kernel_rfl
theorem sz269 : Tryz.prog.cellsOf 269 = 2 := by kernel_rfl
theorem by269 : Tryz.prog.bytesOf 269 = 2 := by kernel_rfl
theorem zr269 : zeroOf Tryz.prog 269 = some [.int .u8 0, .int .u8 0] := by kernel_rfl
theorem zk269 : zeroOk Tryz.prog 269 = true := by kernel_rfl
theorem td271 : tdOf Tryz.prog 271 = .ptr := by kernel_rfl
theorem sz271 : Tryz.prog.cellsOf 271 = 1 := by kernel_rfl
theorem by271 : Tryz.prog.bytesOf 271 = 8 := by kernel_rfl
theorem zr271 : zeroOf Tryz.prog 271 = some [.undef] := by kernel_rfl
theorem zk271 : zeroOk Tryz.prog 271 = true := by kernel_rfl
theorem td272 : tdOf Tryz.prog 272 = .ptr := by kernel_rfl
theorem sz272 : Tryz.prog.cellsOf 272 = 1 := by kernel_rfl
theorem by272 : Tryz.prog.bytesOf 272 = 8 := by kernel_rfl
theorem td273 : tdOf Tryz.prog 273 = .ptr := by kernel_rfl
theorem sz273 : Tryz.prog.cellsOf 273 = 1 := by kernel_rfl
theorem by273 : Tryz.prog.bytesOf 273 = 8 := by kernel_rfl
theorem zr273 : zeroOf Tryz.prog 273 = some [.undef] := by kernel_rfl
theorem zk273 : zeroOk Tryz.prog 273 = true := by kernel_rfl
theorem td275 : tdOf Tryz.prog 275 = .ptr := by kernel_rfl
theorem sz275 : Tryz.prog.cellsOf 275 = 1 := by kernel_rfl
theorem by275 : Tryz.prog.bytesOf 275 = 8 := by kernel_rfl
theorem zr275 : zeroOf Tryz.prog 275 = some [.undef] := by kernel_rfl
theorem zk275 : zeroOk Tryz.prog 275 = true := by kernel_rfl
theorem td276 : tdOf Tryz.prog 276 = .slice 278 := by kernel_rfl
theorem sz276 : Tryz.prog.cellsOf 276 = 1 := by kernel_rfl
theorem by276 : Tryz.prog.bytesOf 276 = 24 := by kernel_rfl
theorem zr276 : zeroOf Tryz.prog 276 = some [.sl .nil 0 []] := by kernel_rfl
theorem zk276 : zeroOk Tryz.prog 276 = true := by kernel_rfl
theorem td277 : tdOf Tryz.prog 277 = .struct [(0, 1, 3), (1, 1, 3)] := by kernel_rfl
theorem sz277 : Tryz.prog.cellsOf 277 = 2 := by kernel_rfl
theorem by277 : Tryz.prog.bytesOf 277 = 16 := by kernel_rfl
theorem zr277 : zeroOf Tryz.prog 277 = some [.int .i64 0, .int .i64 0] := by kernel_rfl
theorem zk277 : zeroOk Tryz.prog 277 = true := by kernel_rfl
theorem td278 : tdOf Tryz.prog 278 = .struct [(0, 1, 3), (1, 1, 3)] := by kernel_rfl
theorem sz278 : Tryz.prog.cellsOf 278 = 2 := by kernel_rfl
theorem by278 : Tryz.prog.bytesOf 278 = 16 := by kernel_rfl
theorem zr278 : zeroOf Tryz.prog 278 = some [.int .i64 0, .int .i64 0] := by kernel_rfl
theorem zk278 : zeroOk Tryz.prog 278 = true := by kernel_rfl
theorem td279 : tdOf Tryz.prog 279 = .int .u32 := by kernel_rfl
theorem sz279 : Tryz.prog.cellsOf 279 = 1 := by kernel_rfl
theorem by279 : Tryz.prog.bytesOf 279 = 4 := by kernel_rfl
theorem zr279 : zeroOf Tryz.prog 279 = some [.int .u32 0] := by kernel_rfl
theorem zk279 : zeroOk Tryz.prog 279 = true := by kernel_rfl
theorem td280 : tdOf Tryz.prog 280 = .ptr := by kernel_rfl
theorem sz280 : Tryz.prog.cellsOf 280 = 1 := by kernel_rfl
theorem by280 : Tryz.prog.bytesOf 280 = 8 := by kernel_rfl
theorem zr280 : zeroOf Tryz.prog 280 = some [.undef] := by kernel_rfl
theorem zk280 : zeroOk Tryz.prog 280 = true := by kernel_rfl
theorem td281 : tdOf Tryz.prog 281 = .ptr := by kernel_rfl
theorem sz281 : Tryz.prog.cellsOf 281 = 1 := by kernel_rfl
theorem by281 : Tryz.prog.bytesOf 281 = 8 := by kernel_rfl
theorem td282 : tdOf Tryz.prog 282 = .ptr := by kernel_rfl
theorem sz282 : Tryz.prog.cellsOf 282 = 1 := by kernel_rfl
theorem by282 : Tryz.prog.bytesOf 282 = 8 := by kernel_rfl
theorem zr282 : zeroOf Tryz.prog 282 = some [.undef] := by kernel_rfl
theorem zk282 : zeroOk Tryz.prog 282 = true := by kernel_rfl
theorem td283 : tdOf Tryz.prog 283 = .ptr := by kernel_rfl
theorem sz283 : Tryz.prog.cellsOf 283 = 1 := by kernel_rfl
theorem by283 : Tryz.prog.bytesOf 283 = 8 := by kernel_rfl
theorem zr283 : zeroOf Tryz.prog 283 = some [.undef] := by kernel_rfl
theorem zk283 : zeroOk Tryz.prog 283 = true := by kernel_rfl
theorem td284 : tdOf Tryz.prog 284 = .struct [(0, 1, 9), (1, 4, 69)] := by kernel_rfl
theorem sz284 : Tryz.prog.cellsOf 284 = 5 := by kernel_rfl
theorem by284 : Tryz.prog.bytesOf 284 = 88 := by kernel_rfl
theorem zr284 : zeroOf Tryz.prog 284 = some [.str [], .int .i64 0, .str [], .sl .nil 0 [], .sl .nil 0 []] := by kernel_rfl
theorem zk284 : zeroOk Tryz.prog 284 = true := by kernel_rfl
theorem td285 : tdOf Tryz.prog 285 = .struct [(0, 1, 9), (1, 4, 69)] := by kernel_rfl
theorem sz285 : Tryz.prog.cellsOf 285 = 5 := by kernel_rfl
theorem by285 : Tryz.prog.bytesOf 285 = 88 := by kernel_rfl
theorem zr285 : zeroOf Tryz.prog 285 = some [.str [], .int .i64 0, .str [], .sl .nil 0 [], .sl .nil 0 []] := by kernel_rfl
theorem zk285 : zeroOk Tryz.prog 285 = true := by kernel_rfl
theorem td286 : tdOf Tryz.prog 286 = .ptr := by kernel_rfl
theorem sz286 : Tryz.prog.cellsOf 286 = 1 := by kernel_rfl
theorem by286 : Tryz.prog.bytesOf 286 = 8 := by kernel_rfl
theorem zr286 : zeroOf Tryz.prog 286 = some [.undef] := by kernel_rfl
theorem zk286 : zeroOk Tryz.prog 286 = true := by kernel_rfl
theorem td287 : tdOf Tryz.prog 287 = .ptr := by kernel_rfl
theorem sz287 : Tryz.prog.cellsOf 287 = 1 := by kernel_rfl
theorem by287 : Tryz.prog.bytesOf 287 = 8 := by kernel_rfl
theorem zr287 : zeroOf Tryz.prog 287 = some [.undef] := by kernel_rfl
theorem zk287 : zeroOk Tryz.prog 287 = true := by kernel_rfl
theorem td288 : tdOf Tryz.prog 288 = .ptr := by kernel_rfl
theorem sz288 : Tryz.prog.cellsOf 288 = 1 := by kernel_rfl
theorem by288 : Tryz.prog.bytesOf 288 = 8 := by kernel_rfl
theorem zr288 : zeroOf Tryz.prog 288 = some [.undef] := by kernel_rfl
theorem zk288 : zeroOk Tryz.prog 288 = true := by kernel_rfl
theorem td289 : tdOf Tryz.prog 289 = .ptr := by kernel_rfl
theorem sz289 : Tryz.prog.cellsOf 289 = 1 := by kernel_rfl
theorem by289 : Tryz.prog.bytesOf 289 = 8 := by kernel_rfl
theorem td290 : tdOf Tryz.prog 290 = .struct [(0, 1, 289), (1, 1, 190)] := by kernel_rfl
theorem sz290 : Tryz.prog.cellsOf 290 = 2 := by kernel_rfl
theorem by290 : Tryz.prog.bytesOf 290 = 32 := by kernel_rfl
theorem td291 : tdOf Tryz.prog 291 = .struct [(0, 1, 289), (1, 1, 190)] := by kernel_rfl
theorem sz291 : Tryz.prog.cellsOf 291 = 2 := by kernel_rfl
theorem by291 : Tryz.prog.bytesOf 291 = 32 := by kernel_rfl
theorem td295 : tdOf Tryz.prog 295 = .ptr := by kernel_rfl
theorem sz295 : Tryz.prog.cellsOf 295 = 1 := by kernel_rfl
theorem by295 : Tryz.prog.bytesOf 295 = 8 := by kernel_rfl
theorem zr295 : zeroOf Tryz.prog 295 = some [.undef] := by kernel_rfl
theorem zk295 : zeroOk Tryz.prog 295 = true := by kernel_rfl
theorem td296 : tdOf Tryz.prog 296 = .ptr := by kernel_rfl
theorem sz296 : Tryz.prog.cellsOf 296 = 1 := by kernel_rfl
theorem by296 : Tryz.prog.bytesOf 296 = 8 := by kernel_rfl
theorem zr296 : zeroOf Tryz.prog 296 = some [.undef] := by kernel_rfl
theorem zk296 : zeroOk Tryz.prog 296 = true := by kernel_rfl
theorem td297 : tdOf Tryz.prog 297 = .ptr := by kernel_rfl
theorem sz297 : Tryz.prog.cellsOf 297 = 1 := by kernel_rfl
theorem by297 : Tryz.prog.bytesOf 297 = 8 := by kernel_rfl
theorem zr297 : zeroOf Tryz.prog 297 = some [.undef] := by kernel_rfl
theorem zk297 : zeroOk Tryz.prog 297 = true := by kernel_rfl
theorem td299 : tdOf Tryz.prog 299 = .ptr := by kernel_rfl
theorem sz299 : Tryz.prog.cellsOf 299 = 1 := by kernel_rfl
theorem by299 : Tryz.prog.bytesOf 299 = 8 := by kernel_rfl
theorem zr299 : zeroOf Tryz.prog 299 = some [.undef] := by kernel_rfl
theorem zk299 : zeroOk Tryz.prog 299 = true := by kernel_rfl
theorem td300 : tdOf Tryz.prog 300 = .slice 306 := by kernel_rfl
theorem sz300 : Tryz.prog.cellsOf 300 = 1 := by kernel_rfl
theorem by300 : Tryz.prog.bytesOf 300 = 24 := by kernel_rfl
theorem zr300 : zeroOf Tryz.prog 300 = some [.sl .nil 0 []] := by kernel_rfl
theorem zk300 : zeroOk Tryz.prog 300 = true := by kernel_rfl
theorem td301 : tdOf Tryz.prog 301 = .slice 309 := by kernel_rfl
theorem sz301 : Tryz.prog.cellsOf 301 = 1 := by kernel_rfl
theorem by301 : Tryz.prog.bytesOf 301 = 24 := by kernel_rfl
theorem zr301 : zeroOf Tryz.prog 301 = some [.sl .nil 0 []] := by kernel_rfl
theorem zk301 : zeroOk Tryz.prog 301 = true := by kernel_rfl
theorem td302 : tdOf Tryz.prog 302 = .struct [(0, 1, 300), (1, 1, 301), (2, 1, 3)] := by kernel_rfl
theorem sz302 : Tryz.prog.cellsOf 302 = 3 := by kernel_rfl
theorem by302 : Tryz.prog.bytesOf 302 = 56 := by kernel_rfl
theorem zr302 : zeroOf Tryz.prog 302 = some [.sl .nil 0 [], .sl .nil 0 [], .int .i64 0] := by kernel_rfl
theorem zk302 : zeroOk Tryz.prog 302 = true := by kernel_rfl
theorem td303 : tdOf Tryz.prog 303 = .struct [(0, 1, 300), (1, 1, 301), (2, 1, 3)] := by kernel_rfl
theorem sz303 : Tryz.prog.cellsOf 303 = 3 := by kernel_rfl
theorem by303 : Tryz.prog.bytesOf 303 = 56 := by kernel_rfl
theorem zr303 : zeroOf Tryz.prog 303 = some [.sl .nil 0 [], .sl .nil 0 [], .int .i64 0] := by kernel_rfl
theorem zk303 : zeroOk Tryz.prog 303 = true := by kernel_rfl
theorem td304 : tdOf Tryz.prog 304 = .int .u16 := by kernel_rfl
theorem sz304 : Tryz.prog.cellsOf 304 = 1 := by kernel_rfl
theorem by304 : Tryz.prog.bytesOf 304 = 2 := by kernel_rfl
theorem zr304 : zeroOf Tryz.prog 304 = some [.int .u16 0] := by kernel_rfl
theorem zk304 : zeroOk Tryz.prog 304 = true := by kernel_rfl
theorem td305 : tdOf Tryz.prog 305 = .struct [(0, 1, 304), (1, 1, 304), (2, 1, 304)] := by kernel_rfl
theorem sz305 : Tryz.prog.cellsOf 305 = 3 := by kernel_rfl
theorem by305 : Tryz.prog.bytesOf 305 = 6 := by kernel_rfl
theorem zr305 : zeroOf Tryz.prog 305 = some [.int .u16 0, .int .u16 0, .int .u16 0] := by kernel_rfl
theorem zk305 : zeroOk Tryz.prog 305 = true := by kernel_rfl
theorem td306 : tdOf Tryz.prog 306 = .struct [(0, 1, 304), (1, 1, 304), (2, 1, 304)] := by kernel_rfl
theorem sz306 : Tryz.prog.cellsOf 306 = 3 := by kernel_rfl
theorem by306 : Tryz.prog.bytesOf 306 = 6 := by kernel_rfl
theorem zr306 : zeroOf Tryz.prog 306 = some [.int .u16 0, .int .u16 0, .int .u16 0] := by kernel_rfl
theorem zk306 : zeroOk Tryz.prog 306 = true := by kernel_rfl
theorem td307 : tdOf Tryz.prog 307 = .ptr := by kernel_rfl
theorem sz307 : Tryz.prog.cellsOf 307 = 1 := by kernel_rfl
theorem by307 : Tryz.prog.bytesOf 307 = 8 := by kernel_rfl
theorem zr307 : zeroOf Tryz.prog 307 = some [.undef] := by kernel_rfl
theorem zk307 : zeroOk Tryz.prog 307 = true := by kernel_rfl
theorem td308 : tdOf Tryz.prog 308 = .struct [(0, 1, 279), (1, 1, 279), (2, 1, 279)] := by kernel_rfl
theorem sz308 : Tryz.prog.cellsOf 308 = 3 := by kernel_rfl
theorem by308 : Tryz.prog.bytesOf 308 = 12 := by kernel_rfl
theorem zr308 : zeroOf Tryz.prog 308 = some [.int .u32 0, .int .u32 0, .int .u32 0] := by kernel_rfl
theorem zk308 : zeroOk Tryz.prog 308 = true := by kernel_rfl
theorem td309 : tdOf Tryz.prog 309 = .struct [(0, 1, 279), (1, 1, 279), (2, 1, 279)] := by kernel_rfl
theorem sz309 : Tryz.prog.cellsOf 309 = 3 := by kernel_rfl
theorem by309 : Tryz.prog.bytesOf 309 = 12 := by kernel_rfl
theorem zr309 : zeroOf Tryz.prog 309 = some [.int .u32 0, .int .u32 0, .int .u32 0] := by kernel_rfl
theorem zk309 : zeroOk Tryz.prog 309 = true := by kernel_rfl
theorem td310 : tdOf Tryz.prog 310 = .ptr := by kernel_rfl
theorem sz310 : Tryz.prog.cellsOf 310 = 1 := by kernel_rfl
theorem by310 : Tryz.prog.bytesOf 310 = 8 := by kernel_rfl
theorem zr310 : zeroOf Tryz.prog 310 = some [.undef] := by kernel_rfl
theorem zk310 : zeroOk Tryz.prog 310 = true := by kernel_rfl
theorem td311 : tdOf Tryz.prog 311 = .ptr := by kernel_rfl
theorem sz311 : Tryz.prog.cellsOf 311 = 1 := by kernel_rfl
theorem by311 : Tryz.prog.bytesOf 311 = 8 := by kernel_rfl
theorem zr311 : zeroOf Tryz.prog 311 = some [.undef] := by kernel_rfl
theorem zk311 : zeroOk Tryz.prog 311 = true := by kernel_rfl
theorem td312 : tdOf Tryz.prog 312 = .ptr := by kernel_rfl
theorem sz312 : Tryz.prog.cellsOf 312 = 1 := by kernel_rfl
theorem by312 : Tryz.prog.bytesOf 312 = 8 := by kernel_rfl
theorem zr312 : zeroOf Tryz.prog 312 = some [.undef] := by kernel_rfl
theorem zk312 : zeroOk Tryz.prog 312 = true := by kernel_rfl
theorem td313 : tdOf Tryz.prog 313 = .ptr := by kernel_rfl
theorem sz313 : Tryz.prog.cellsOf 313 = 1 := by kernel_rfl
theorem by313 : Tryz.prog.bytesOf 313 = 8 := by kernel_rfl
theorem zr313 : zeroOf Tryz.prog 313 = some [.undef] := by kernel_rfl
theorem zk313 : zeroOk Tryz.prog 313 = true := by kernel_rfl
theorem td314 : tdOf Tryz.prog 314 = .ptr := by kernel_rfl
theorem sz314 : Tryz.prog.cellsOf 314 = 1 := by kernel_rfl
theorem by314 : Tryz.prog.bytesOf 314 = 8 := by kernel_rfl
theorem zr314 : zeroOf Tryz.prog 314 = some [.undef] := by kernel_rfl
theorem zk314 : zeroOk Tryz.prog 314 = true := by kernel_rfl
theorem td315 : tdOf Tryz.prog 315 = .ptr := by kernel_rfl
theorem sz315 : Tryz.prog.cellsOf 315 = 1 := by kernel_rfl
theorem by315 : Tryz.prog.bytesOf 315 = 8 := by kernel_rfl
theorem td316 : tdOf Tryz.prog 316 = .ptr := by kernel_rfl
theorem sz316 : Tryz.prog.cellsOf 316 = 1 := by kernel_rfl
theorem by316 : Tryz.prog.bytesOf 316 = 8 := by kernel_rfl
theorem zr316 : zeroOf Tryz.prog 316 = some [.undef] := by kernel_rfl
theorem zk316 : zeroOk Tryz.prog 316 = true := by kernel_rfl
theorem td317 : tdOf Tryz.prog 317 = .ptr := by kernel_rfl
theorem sz317 : Tryz.prog.cellsOf 317 = 1 := by kernel_rfl
theorem by317 : Tryz.prog.bytesOf 317 = 8 := by kernel_rfl
theorem zr317 : zeroOf Tryz.prog 317 = some [.undef] := by kernel_rfl
theorem zk317 : zeroOk Tryz.prog 317 = true := by kernel_rfl
theorem td319 : tdOf Tryz.prog 319 = .ptr := by kernel_rfl
theorem sz319 : Tryz.prog.cellsOf 319 = 1 := by kernel_rfl
theorem by319 : Tryz.prog.bytesOf 319 = 8 := by kernel_rfl
theorem zr319 : zeroOf Tryz.prog 319 = some [.undef] := by kernel_rfl
theorem zk319 : zeroOk Tryz.prog 319 = true := by kernel_rfl
theorem td320 : tdOf Tryz.prog 320 = .ptr := by kernel_rfl
theorem sz320 : Tryz.prog.cellsOf 320 = 1 := by kernel_rfl
theorem by320 : Tryz.prog.bytesOf 320 = 8 := by kernel_rfl
theorem zr320 : zeroOf Tryz.prog 320 = some [.undef] := by kernel_rfl
theorem zk320 : zeroOk Tryz.prog 320 = true := by kernel_rfl
theorem td321 : tdOf Tryz.prog 321 = .ptr := by kernel_rfl
theorem sz321 : Tryz.prog.cellsOf 321 = 1 := by kernel_rfl
theorem by321 : Tryz.prog.bytesOf 321 = 8 := by kernel_rfl
theorem td322 : tdOf Tryz.prog 322 = .ptr := by kernel_rfl
theorem sz322 : Tryz.prog.cellsOf 322 = 1 := by kernel_rfl
theorem by322 : Tryz.prog.bytesOf 322 = 8 := by kernel_rfl
theorem td324 : tdOf Tryz.prog 324 = .ptr := by kernel_rfl
theorem sz324 : Tryz.prog.cellsOf 324 = 1 := by kernel_rfl
theorem by324 : Tryz.prog.bytesOf 324 = 8 := by kernel_rfl
theorem zr324 : zeroOf Tryz.prog 324 = some [.undef] := by kernel_rfl
theorem zk324 : zeroOk Tryz.prog 324 = true := by kernel_rfl
theorem td325 : tdOf Tryz.prog 325 = .ptr := by kernel_rfl
theorem sz325 : Tryz.prog.cellsOf 325 = 1 := by kernel_rfl
theorem by325 : Tryz.prog.bytesOf 325 = 8 := by kernel_rfl
theorem zr325 : zeroOf Tryz.prog 325 = some [.undef] := by kernel_rfl
theorem zk325 : zeroOk Tryz.prog 325 = true := by kernel_rfl
theorem td326 : tdOf Tryz.prog 326 = .int .u64 := by kernel_rfl
theorem sz326 : Tryz.prog.cellsOf 326 = 1 := by kernel_rfl
theorem by326 : Tryz.prog.bytesOf 326 = 8 := by kernel_rfl
theorem zr326 : zeroOf Tryz.prog 326 = some [.int .u64 0] := by kernel_rfl
theorem zk326 : zeroOk Tryz.prog 326 = true := by kernel_rfl
theorem td327 : tdOf Tryz.prog 327 = .ptr := by kernel_rfl
theorem sz327 : Tryz.prog.cellsOf 327 = 1 := by kernel_rfl
theorem by327 : Tryz.prog.bytesOf 327 = 8 := by kernel_rfl
theorem zr327 : zeroOf Tryz.prog 327 = some [.undef] := by kernel_rfl
theorem zk327 : zeroOk Tryz.prog 327 = true := by kernel_rfl
theorem td328 : tdOf Tryz.prog 328 = .ptr := by kernel_rfl
theorem sz328 : Tryz.prog.cellsOf 328 = 1 := by kernel_rfl
theorem by328 : Tryz.prog.bytesOf 328 = 8 := by kernel_rfl
theorem zr328 : zeroOf Tryz.prog 328 = some [.undef] := by kernel_rfl
theorem zk328 : zeroOk Tryz.prog 328 = true := by kernel_rfl
theorem td329 : tdOf Tryz.prog 329 = .ptr := by kernel_rfl
theorem sz329 : Tryz.prog.cellsOf 329 = 1 := by kernel_rfl
theorem by329 : Tryz.prog.bytesOf 329 = 8 := by kernel_rfl
theorem zr329 : zeroOf Tryz.prog 329 = some [.undef] := by kernel_rfl
theorem zk329 : zeroOk Tryz.prog 329 = true := by kernel_rfl
theorem td331 : tdOf Tryz.prog 331 = .ptr := by kernel_rfl
theorem sz331 : Tryz.prog.cellsOf 331 = 1 := by kernel_rfl
theorem by331 : Tryz.prog.bytesOf 331 = 8 := by kernel_rfl
theorem zr331 : zeroOf Tryz.prog 331 = some [.undef] := by kernel_rfl
theorem zk331 : zeroOk Tryz.prog 331 = true := by kernel_rfl
theorem td332 : tdOf Tryz.prog 332 = .ptr := by kernel_rfl
theorem sz332 : Tryz.prog.cellsOf 332 = 1 := by kernel_rfl
theorem by332 : Tryz.prog.bytesOf 332 = 8 := by kernel_rfl
theorem zr332 : zeroOf Tryz.prog 332 = some [.undef] := by kernel_rfl
theorem zk332 : zeroOk Tryz.prog 332 = true := by kernel_rfl
theorem td333 : tdOf Tryz.prog 333 = .ptr := by kernel_rfl
theorem sz333 : Tryz.prog.cellsOf 333 = 1 := by kernel_rfl
theorem by333 : Tryz.prog.bytesOf 333 = 8 := by kernel_rfl
theorem zr333 : zeroOf Tryz.prog 333 = some [.undef] := by kernel_rfl
theorem zk333 : zeroOk Tryz.prog 333 = true := by kernel_rfl
theorem td334 : tdOf Tryz.prog 334 = .struct [(0, 1, 17), (1, 1, 17), (2, 1, 17), (3, 1, 9)] := by kernel_rfl
theorem sz334 : Tryz.prog.cellsOf 334 = 4 := by kernel_rfl
theorem by334 : Tryz.prog.bytesOf 334 = 40 := by kernel_rfl
theorem td335 : tdOf Tryz.prog 335 = .struct [(0, 1, 17), (1, 1, 17), (2, 1, 17), (3, 1, 9)] := by kernel_rfl
theorem sz335 : Tryz.prog.cellsOf 335 = 4 := by kernel_rfl
theorem by335 : Tryz.prog.bytesOf 335 = 40 := by kernel_rfl
theorem td337 : tdOf Tryz.prog 337 = .struct [(0, 0, 336)] := by kernel_rfl
theorem sz337 : Tryz.prog.cellsOf 337 = 0 := by kernel_rfl
theorem by337 : Tryz.prog.bytesOf 337 = 0 := by kernel_rfl
theorem zr337 : zeroOf Tryz.prog 337 = some [] := by kernel_rfl
theorem zk337 : zeroOk Tryz.prog 337 = true := by kernel_rfl
theorem td338 : tdOf Tryz.prog 338 = .struct [(0, 0, 336)] := by kernel_rfl
theorem sz338 : Tryz.prog.cellsOf 338 = 0 := by kernel_rfl
theorem by338 : Tryz.prog.bytesOf 338 = 0 := by kernel_rfl
theorem zr338 : zeroOf Tryz.prog 338 = some [] := by kernel_rfl
theorem zk338 : zeroOk Tryz.prog 338 = true := by kernel_rfl
theorem td339 : tdOf Tryz.prog 339 = .ptr := by kernel_rfl
theorem sz339 : Tryz.prog.cellsOf 339 = 1 := by kernel_rfl
theorem by339 : Tryz.prog.bytesOf 339 = 8 := by kernel_rfl
theorem zr339 : zeroOf Tryz.prog 339 = some [.undef] := by kernel_rfl
theorem zk339 : zeroOk Tryz.prog 339 = true := by kernel_rfl
theorem td340 : tdOf Tryz.prog 340 = .int .u8 := by kernel_rfl
theorem sz340 : Tryz.prog.cellsOf 340 = 1 := by kernel_rfl
theorem by340 : Tryz.prog.bytesOf 340 = 1 := by kernel_rfl
theorem zr340 : zeroOf Tryz.prog 340 = some [.int .u8 0] := by kernel_rfl
theorem zk340 : zeroOk Tryz.prog 340 = true := by kernel_rfl
theorem td341 : tdOf Tryz.prog 341 = .int .u8 := by kernel_rfl
theorem sz341 : Tryz.prog.cellsOf 341 = 1 := by kernel_rfl
theorem by341 : Tryz.prog.bytesOf 341 = 1 := by kernel_rfl
theorem zr341 : zeroOf Tryz.prog 341 = some [.int .u8 0] := by kernel_rfl
theorem zk341 : zeroOk Tryz.prog 341 = true := by kernel_rfl
theorem td342 : tdOf Tryz.prog 342 = .ptr := by kernel_rfl
theorem sz342 : Tryz.prog.cellsOf 342 = 1 := by kernel_rfl
theorem by342 : Tryz.prog.bytesOf 342 = 8 := by kernel_rfl
theorem zr342 : zeroOf Tryz.prog 342 = some [.undef] := by kernel_rfl
theorem zk342 : zeroOk Tryz.prog 342 = true := by kernel_rfl
theorem td343 : tdOf Tryz.prog 343 = .int .i32 := by kernel_rfl
theorem sz343 : Tryz.prog.cellsOf 343 = 1 := by kernel_rfl
theorem by343 : Tryz.prog.bytesOf 343 = 4 := by kernel_rfl
theorem zr343 : zeroOf Tryz.prog 343 = some [.int .i32 0] := by kernel_rfl
theorem zk343 : zeroOk Tryz.prog 343 = true := by kernel_rfl
theorem td344 : tdOf Tryz.prog 344 = .int .i32 := by kernel_rfl
theorem sz344 : Tryz.prog.cellsOf 344 = 1 := by kernel_rfl
theorem by344 : Tryz.prog.bytesOf 344 = 4 := by kernel_rfl
theorem zr344 : zeroOf Tryz.prog 344 = some [.int .i32 0] := by kernel_rfl
theorem zk344 : zeroOk Tryz.prog 344 = true := by kernel_rfl
theorem td345 : tdOf Tryz.prog 345 = .struct [(0, 1, 12), (1, 1, 12), (2, 1, 279), (3, 1, 340), (4, 1, 5), (5, 1, 5), (6, 1, 341), (7, 1, 342), (8, 1, 315), (9, 1, 343), (10, 1, 344)] := by kernel_rfl
theorem sz345 : Tryz.prog.cellsOf 345 = 11 := by kernel_rfl
theorem by345 : Tryz.prog.bytesOf 345 = 48 := by kernel_rfl
theorem td346 : tdOf Tryz.prog 346 = .struct [(0, 1, 12), (1, 1, 12), (2, 1, 279), (3, 1, 340), (4, 1, 5), (5, 1, 5), (6, 1, 341), (7, 1, 342), (8, 1, 315), (9, 1, 343), (10, 1, 344)] := by kernel_rfl
theorem sz346 : Tryz.prog.cellsOf 346 = 11 := by kernel_rfl
theorem by346 : Tryz.prog.bytesOf 346 = 48 := by kernel_rfl
attribute [simp] td1 sz1 by1 zr1 zk1 td2 sz2 by2 zr2 zk2 td3 sz3 by3 zr3 zk3 td4 sz4 by4 zr4 zk4 td5 sz5 by5 zr5 zk5 td6 sz6 by6 zr6 zk6 td7 sz7 by7 zr7 zk7 td8 sz8 by8 zr8 zk8 td9 sz9 by9 zr9 zk9 td10 sz10 by10 zr10 zk10 td11 sz11 by11 zr11 zk11 td12 sz12 by12 zr12 zk12 td13 sz13 by13 zr13 zk13 td14 sz14 by14 zr14 zk14 td15 sz15 by15 td16 sz16 by16 td17 sz17 by17 td18 sz18 by18 td19 sz19 by19 td21 sz21 by21 zr21 zk21 td22 sz22 by22 zr22 zk22 td23 sz23 by23 zr23 zk23 td24 sz24 by24 zr24 zk24 td26 sz26 by26 zr26 zk26 td27 sz27 by27 zr27 zk27 td28 sz28 by28 zr28 zk28 td29 sz29 by29 zr29 zk29 td30 sz30 by30 zr30 zk30 td31 sz31 by31 zr31 zk31 td32 sz32 by32 zr32 zk32 td34 sz34 by34 zr34 zk34 td35 sz35 by35 zr35 zk35 td36 sz36 by36 zr36 zk36 td37 sz37 by37 zr37 zk37 td38 sz38 by38 zr38 zk38 td39 sz39 by39 zr39 zk39 td41 sz41 by41 zr41 zk41 td42 sz42 by42 zr42 zk42 td43 sz43 by43 zr43 zk43 td44 sz44 by44 zr44 zk44 td45 sz45 by45 zr45 zk45 td46 sz46 by46 zr46 zk46 td47 sz47 by47 zr47 zk47 td48 sz48 by48 zr48 zk48 td49 sz49 by49 zr49 zk49 td50 sz50 by50 zr50 zk50 td51 sz51 by51 zr51 zk51 td52 sz52 by52 zr52 zk52 td53 sz53 by53 zr53 zk53 td54 sz54 by54 zr54 zk54 td55 sz55 by55 zr55 zk55 td56 sz56 by56 zr56 zk56 td57 sz57 by57 zr57 zk57 td58 sz58 by58 zr58 zk58 td59 sz59 by59 zr59 zk59 td60 sz60 by60 zr60 zk60 td61 sz61 by61 zr61 zk61 td62 sz62 by62 zr62 zk62 td63 sz63 by63 zr63 zk63 td64 sz64 by64 zr64 zk64 td65 sz65 by65 zr65 zk65 td66 sz66 by66 zr66 zk66 td67 sz67 by67 zr67 zk67 td68 sz68 by68 zr68 zk68 td69 sz69 by69 zr69 zk69 td70 sz70 by70 zr70 zk70 td71 sz71 by71 zr71 zk71 td72 sz72 by72 zr72 zk72 td73 sz73 by73 zr73 zk73 td74 sz74 by74 zr74 zk74 td75 sz75 by75 zr75 zk75 td76 sz76 by76 zr76 zk76 td77 sz77 by77 zr77 zk77 td78 sz78 by78 zr78 zk78 td79 sz79 by79 zr79 zk79 td80 sz80 by80 zr80 zk80 td81 sz81 by81 zr81 zk81 td83 sz83 by83 zr83 zk83 td84 sz84 by84 zr84 zk84 td85 sz85 by85 zr85 zk85 td86 sz86 by86 zr86 zk86 td87 sz87 by87 zr87 zk87 td88 sz88 by88 zr88 zk88 td89 sz89 by89 zr89 zk89 td90 sz90 by90 zr90 zk90 td91 sz91 by91 zr91 zk91 td92 sz92 by92 zr92 zk92 td93 sz93 by93 zr93 zk93 td94 sz94 by94 zr94 zk94 td95 sz95 by95 zr95 zk95 td96 sz96 by96 zr96 zk96 td97 sz97 by97 zr97 zk97 td98 sz98 by98 zr98 zk98 td99 sz99 by99 zr99 zk99 td101 sz101 by101 zr101 zk101 td102 sz102 by102 zr102 zk102 td103 sz103 by103 zr103 zk103 td104 sz104 by104 zr104 zk104 td106 sz106 by106 zr106 zk106 td107 sz107 by107 zr107 zk107 td108 sz108 by108 zr108 zk108 td109 sz109 by109 td110 sz110 by110 zr110 zk110 td111 sz111 by111 zr111 zk111 td112 sz112 by112 zr112 zk112 td113 sz113 by113 zr113 zk113 td114 sz114 by114 zr114 zk114 td115 sz115 by115 td116 sz116 by116 zr116 zk116 td117 sz117 by117 zr117 zk117 td118 sz118 by118 zr118 zk118 td119 sz119 by119 zr119 zk119 td120 sz120 by120 zr120 zk120 td121 sz121 by121 zr121 zk121 td122 sz122 by122 zr122 zk122 td123 sz123 by123 zr123 zk123 td124 sz124 by124 zr124 zk124 td125 sz125 by125 zr125 zk125 td126 sz126 by126 zr126 zk126 td127 sz127 by127 zr127 zk127 td128 sz128 by128 zr128 zk128 td129 sz129 by129 zr129 zk129 td130 sz130 by130 zr130 zk130 td131 sz131 by131 zr131 zk131 td132 sz132 by132 zr132 zk132 td133 sz133 by133 zr133 zk133 td134 sz134 by134 zr134 zk134 td136 sz136 by136 zr136 zk136 td137 sz137 by137 zr137 zk137 td138 sz138 by138 zr138 zk138 td139 sz139 by139 zr139 zk139 td140 sz140 by140 zr140 zk140 td141 sz141 by141 zr141 zk141 td142 sz142 by142 zr142 zk142 td143 sz143 by143 zr143 zk143 td144 sz144 by144 zr144 zk144 td145 sz145 by145 zr145 zk145 td146 sz146 by146 zr146 zk146 td147 sz147 by147 zr147 zk147 td148 sz148 by148 zr148 zk148 td149 sz149 by149 zr149 zk149 td150 sz150 by150 zr150 zk150 td151 sz151 by151 zr151 zk151 td152 sz152 by152 zr152 zk152 td153 sz153 by153 zr153 zk153 td154 sz154 by154 zr154 zk154 td155 sz155 by155 zr155 zk155 td156 sz156 by156 zr156 zk156 td157 sz157 by157 zr157 zk157 td158 sz158 by158 zr158 zk158 td159 sz159 by159 zr159 zk159 td160 sz160 by160 zr160 zk160 td161 sz161 by161 zr161 zk161 td162 sz162 by162 zr162 zk162 td163 sz163 by163 zr163 zk163 td164 sz164 by164 zr164 zk164 td165 sz165 by165 zr165 zk165 td166 sz166 by166 zr166 zk166 td168 sz168 by168 zr168 zk168 td169 sz169 by169 zr169 zk169 td170 sz170 by170 zr170 zk170 td171 sz171 by171 zr171 zk171 td172 sz172 by172 zr172 zk172 td173 sz173 by173 zr173 zk173 td174 sz174 by174 zr174 zk174 td175 sz175 by175 zr175 zk175 td176 sz176 by176 zr176 zk176 td177 sz177 by177 zr177 zk177 td178 sz178 by178 zr178 zk178 td179 sz179 by179 zr179 zk179 td180 sz180 by180 zr180 zk180 td181 sz181 by181 zr181 zk181 td183 sz183 by183 zr183 zk183 td184 sz184 by184 zr184 zk184 td186 sz186 by186 zr186 zk186 td187 sz187 by187 zr187 zk187 td188 sz188 by188 zr188 zk188 td189 sz189 by189 zr189 zk189 td190 sz190 by190 zr190 zk190 td191 sz191 by191 zr191 zk191 td192 sz192 by192 zr192 zk192 td193 sz193 by193 zr193 zk193 td194 sz194 by194 zr194 zk194 td195 sz195 by195 zr195 zk195 td196 sz196 by196 zr196 zk196 td197 sz197 by197 zr197 zk197 td198 sz198 by198 zr198 zk198 td199 sz199 by199 zr199 zk199 td200 sz200 by200 zr200 zk200 td201 sz201 by201 zr201 zk201 td202 sz202 by202 zr202 zk202 td203 sz203 by203 zr203 zk203 td204 sz204 by204 zr204 zk204 td205 sz205 by205 zr205 zk205 td207 sz207 by207 zr207 zk207 td208 sz208 by208 zr208 zk208 td209 sz209 by209 zr209 zk209 td210 sz210 by210 zr210 zk210 td211 sz211 by211 zr211 zk211 td212 sz212 by212 zr212 zk212 td213 sz213 by213 zr213 zk213 td214 sz214 by214 zr214 zk214 td215 sz215 by215 zr215 zk215 td216 sz216 by216 zr216 zk216 td217 sz217 by217 zr217 zk217 td218 sz218 by218 zr218 zk218 td219 sz219 by219 zr219 zk219 td220 sz220 by220 zr220 zk220 td221 sz221 by221 zr221 zk221 td222 sz222 by222 zr222 zk222 td223 sz223 by223 zr223 zk223 td224 sz224 by224 zr224 zk224 td225 sz225 by225 zr225 zk225 td226 sz226 by226 zr226 zk226 td227 sz227 by227 zr227 zk227 td228 sz228 by228 zr228 zk228 td229 sz229 by229 zr229 zk229 td230 sz230 by230 zr230 zk230 td231 sz231 by231 zr231 zk231 td232 sz232 by232 zr232 zk232 td233 sz233 by233 zr233 zk233 td234 sz234 by234 zr234 zk234 td235 sz235 by235 zr235 zk235 td236 sz236 by236 zr236 zk236 td237 sz237 by237 zr237 zk237 td238 sz238 by238 zr238 zk238 td239 sz239 by239 zr239 zk239 td240 sz240 by240 zr240 zk240 td241 sz241 by241 zr241 zk241 td242 sz242 by242 zr242 zk242 td243 sz243 by243 zr243 zk243 td244 sz244 by244 zr244 zk244 td248 sz248 by248 zr248 zk248 td250 sz250 by250 zr250 zk250 td251 sz251 by251 zr251 zk251 td252 sz252 by252 zr252 zk252 td253 sz253 by253 zr253 zk253 td254 sz254 by254 zr254 zk254 td256 sz256 by256 zr256 zk256 td257 sz257 by257 zr257 zk257 td258 sz258 by258 zr258 zk258 td259 sz259 by259 zr259 zk259 td260 sz260 by260 zr260 zk260 td261 sz261 by261 zr261 zk261 td262 sz262 by262 zr262 zk262 td263 sz263 by263 zr263 zk263 td264 sz264 by264 zr264 zk264 td265 sz265 by265 zr265 zk265 td266 sz266 by266 zr266 zk266 td267 sz267 by267 zr267 zk267 td268 sz268 by268 zr268 zk268 td269 sz269 by269 zr269 zk269 td271 sz271 by271 zr271 zk271 td272 sz272 by272 td273 sz273 by273 zr273 zk273 td275 sz275 by275 zr275 zk275 td276 sz276 by276 zr276 zk276 td277 sz277 by277 zr277 zk277 td278 sz278 by278 zr278 zk278 td279 sz279 by279 zr279 zk279 td280 sz280 by280 zr280 zk280 td281 sz281 by281 td282 sz282 by282 zr282 zk282 td283 sz283 by283 zr283 zk283 td284 sz284 by284 zr284 zk284 td285 sz285 by285 zr285 zk285 td286 sz286 by286 zr286 zk286 td287 sz287 by287 zr287 zk287 td288 sz288 by288 zr288 zk288 td289 sz289 by289 td290 sz290 by290 td291 sz291 by291 td295 sz295 by295 zr295 zk295 td296 sz296 by296 zr296 zk296 td297 sz297 by297 zr297 zk297 td299 sz299 by299 zr299 zk299 td300 sz300 by300 zr300 zk300 td301 sz301 by301 zr301 zk301 td302 sz302 by302 zr302 zk302 td303 sz303 by303 zr303 zk303 td304 sz304 by304 zr304 zk304 td305 sz305 by305 zr305 zk305 td306 sz306 by306 zr306 zk306 td307 sz307 by307 zr307 zk307 td308 sz308 by308 zr308 zk308 td309 sz309 by309 zr309 zk309 td310 sz310 by310 zr310 zk310 td311 sz311 by311 zr311 zk311 td312 sz312 by312 zr312 zk312 td313 sz313 by313 zr313 zk313 td314 sz314 by314 zr314 zk314 td315 sz315 by315 td316 sz316 by316 zr316 zk316 td317 sz317 by317 zr317 zk317 td319 sz319 by319 zr319 zk319 td320 sz320 by320 zr320 zk320 td321 sz321 by321 td322 sz322 by322 td324 sz324 by324 zr324 zk324 td325 sz325 by325 zr325 zk325 td326 sz326 by326 zr326 zk326 td327 sz327 by327 zr327 zk327 td328 sz328 by328 zr328 zk328 td329 sz329 by329 zr329 zk329 td331 sz331 by331 zr331 zk331 td332 sz332 by332 zr332 zk332 td333 sz333 by333 zr333 zk333 td334 sz334 by334 td335 sz335 by335 td337 sz337 by337 zr337 zk337 td338 sz338 by338 zr338 zk338 td339 sz339 by339 zr339 zk339 td340 sz340 by340 zr340 zk340 td341 sz341 by341 zr341 zk341 td342 sz342 by342 zr342 zk342 td343 sz343 by343 zr343 zk343 td344 sz344 by344 zr344 zk344 td345 sz345 by345 td346 sz346 by346
end Go.Proofs.YtkefgpmnimpcdaaGreatDoor.Abs
