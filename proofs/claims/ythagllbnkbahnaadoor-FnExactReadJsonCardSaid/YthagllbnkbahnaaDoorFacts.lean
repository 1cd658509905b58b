/- PRINTED by gen.py: the seat's types. No condition. -/
import Derived.Test.YthagllbnkbahnaaDoorAbsL
import Derived.Test.YthagllbnkbahnaaDoorProg
import Derived.KernelRfl
namespace Go.Proofs.YthagllbnkbahnaaDoor.Abs
open Go
theorem td1 : tdOf Tryd.prog 1 = .ptr := by kernel_rfl
theorem sz1 : Tryd.prog.cellsOf 1 = 1 := by kernel_rfl
theorem by1 : Tryd.prog.bytesOf 1 = 8 := by kernel_rfl
theorem zr1 : zeroOf Tryd.prog 1 = some [.undef] := by kernel_rfl
theorem zk1 : zeroOk Tryd.prog 1 = true := by kernel_rfl
theorem td2 : tdOf Tryd.prog 2 = .int .i64 := by kernel_rfl
theorem sz2 : Tryd.prog.cellsOf 2 = 1 := by kernel_rfl
theorem by2 : Tryd.prog.bytesOf 2 = 8 := by kernel_rfl
theorem zr2 : zeroOf Tryd.prog 2 = some [.int .i64 0] := by kernel_rfl
theorem zk2 : zeroOk Tryd.prog 2 = true := by kernel_rfl
theorem td3 : tdOf Tryd.prog 3 = .int .i64 := by kernel_rfl
theorem sz3 : Tryd.prog.cellsOf 3 = 1 := by kernel_rfl
theorem by3 : Tryd.prog.bytesOf 3 = 8 := by kernel_rfl
theorem zr3 : zeroOf Tryd.prog 3 = some [.int .i64 0] := by kernel_rfl
theorem zk3 : zeroOk Tryd.prog 3 = true := by kernel_rfl
theorem td4 : tdOf Tryd.prog 4 = .bool := by kernel_rfl
theorem sz4 : Tryd.prog.cellsOf 4 = 1 := by kernel_rfl
theorem by4 : Tryd.prog.bytesOf 4 = 1 := by kernel_rfl
theorem zr4 : zeroOf Tryd.prog 4 = some [.bool false] := by kernel_rfl
theorem zk4 : zeroOk Tryd.prog 4 = true := by kernel_rfl
theorem td5 : tdOf Tryd.prog 5 = .int .u8 := by kernel_rfl
theorem sz5 : Tryd.prog.cellsOf 5 = 1 := by kernel_rfl
theorem by5 : Tryd.prog.bytesOf 5 = 1 := by kernel_rfl
theorem zr5 : zeroOf Tryd.prog 5 = some [.int .u8 0] := by kernel_rfl
theorem zk5 : zeroOk Tryd.prog 5 = true := by kernel_rfl
theorem td6 : tdOf Tryd.prog 6 = .int .u8 := by kernel_rfl
theorem sz6 : Tryd.prog.cellsOf 6 = 1 := by kernel_rfl
theorem by6 : Tryd.prog.bytesOf 6 = 1 := by kernel_rfl
theorem zr6 : zeroOf Tryd.prog 6 = some [.int .u8 0] := by kernel_rfl
theorem zk6 : zeroOk Tryd.prog 6 = true := by kernel_rfl
theorem td7 : tdOf Tryd.prog 7 = .struct [(0, 1, 2), (1, 1, 3), (2, 1, 4), (3, 1, 6)] := by kernel_rfl
theorem sz7 : Tryd.prog.cellsOf 7 = 4 := by kernel_rfl
theorem by7 : Tryd.prog.bytesOf 7 = 24 := by kernel_rfl
theorem zr7 : zeroOf Tryd.prog 7 = some [.int .i64 0, .int .i64 0, .bool false, .int .u8 0] := by kernel_rfl
theorem zk7 : zeroOk Tryd.prog 7 = true := by kernel_rfl
theorem td8 : tdOf Tryd.prog 8 = .struct [(0, 1, 2), (1, 1, 3), (2, 1, 4), (3, 1, 6)] := by kernel_rfl
theorem sz8 : Tryd.prog.cellsOf 8 = 4 := by kernel_rfl
theorem by8 : Tryd.prog.bytesOf 8 = 24 := by kernel_rfl
theorem zr8 : zeroOf Tryd.prog 8 = some [.int .i64 0, .int .i64 0, .bool false, .int .u8 0] := by kernel_rfl
theorem zk8 : zeroOk Tryd.prog 8 = true := by kernel_rfl
theorem td9 : tdOf Tryd.prog 9 = .str := by kernel_rfl
theorem sz9 : Tryd.prog.cellsOf 9 = 1 := by kernel_rfl
theorem by9 : Tryd.prog.bytesOf 9 = 16 := by kernel_rfl
theorem zr9 : zeroOf Tryd.prog 9 = some [.str []] := by kernel_rfl
theorem zk9 : zeroOk Tryd.prog 9 = true := by kernel_rfl
theorem td10 : tdOf Tryd.prog 10 = .str := by kernel_rfl
theorem sz10 : Tryd.prog.cellsOf 10 = 1 := by kernel_rfl
theorem by10 : Tryd.prog.bytesOf 10 = 16 := by kernel_rfl
theorem zr10 : zeroOf Tryd.prog 10 = some [.str []] := by kernel_rfl
theorem zk10 : zeroOk Tryd.prog 10 = true := by kernel_rfl
theorem td11 : tdOf Tryd.prog 11 = .str := by kernel_rfl
theorem sz11 : Tryd.prog.cellsOf 11 = 1 := by kernel_rfl
theorem by11 : Tryd.prog.bytesOf 11 = 16 := by kernel_rfl
theorem zr11 : zeroOf Tryd.prog 11 = some [.str []] := by kernel_rfl
theorem zk11 : zeroOk Tryd.prog 11 = true := by kernel_rfl
theorem td12 : tdOf Tryd.prog 12 = .int .u64 := by kernel_rfl
theorem sz12 : Tryd.prog.cellsOf 12 = 1 := by kernel_rfl
theorem by12 : Tryd.prog.bytesOf 12 = 8 := by kernel_rfl
theorem zr12 : zeroOf Tryd.prog 12 = some [.int .u64 0] := by kernel_rfl
theorem zk12 : zeroOk Tryd.prog 12 = true := by kernel_rfl
theorem td13 : tdOf Tryd.prog 13 = .struct [(0, 1, 9), (1, 1, 12)] := by kernel_rfl
theorem sz13 : Tryd.prog.cellsOf 13 = 2 := by kernel_rfl
theorem by13 : Tryd.prog.bytesOf 13 = 24 := by kernel_rfl
theorem zr13 : zeroOf Tryd.prog 13 = some [.str [], .int .u64 0] := by kernel_rfl
theorem zk13 : zeroOk Tryd.prog 13 = true := by kernel_rfl
theorem td14 : tdOf Tryd.prog 14 = .struct [(0, 1, 9), (1, 1, 12)] := by kernel_rfl
theorem sz14 : Tryd.prog.cellsOf 14 = 2 := by kernel_rfl
theorem by14 : Tryd.prog.bytesOf 14 = 24 := by kernel_rfl
theorem zr14 : zeroOf Tryd.prog 14 = some [.str [], .int .u64 0] := by kernel_rfl
theorem zk14 : zeroOk Tryd.prog 14 = true := by kernel_rfl
theorem td15 : tdOf Tryd.prog 15 = .ptr := by kernel_rfl
theorem sz15 : Tryd.prog.cellsOf 15 = 1 := by kernel_rfl
theorem by15 : Tryd.prog.bytesOf 15 = 8 := by kernel_rfl
theorem td16 : tdOf Tryd.prog 16 = .ptr := by kernel_rfl
theorem sz16 : Tryd.prog.cellsOf 16 = 1 := by kernel_rfl
theorem by16 : Tryd.prog.bytesOf 16 = 8 := by kernel_rfl
theorem td17 : tdOf Tryd.prog 17 = .ptr := by kernel_rfl
theorem sz17 : Tryd.prog.cellsOf 17 = 1 := by kernel_rfl
theorem by17 : Tryd.prog.bytesOf 17 = 8 := by kernel_rfl
theorem td18 : tdOf Tryd.prog 18 = .struct [(0, 1, 17)] := by kernel_rfl
theorem sz18 : Tryd.prog.cellsOf 18 = 1 := by kernel_rfl
theorem by18 : Tryd.prog.bytesOf 18 = 8 := by kernel_rfl
theorem td19 : tdOf Tryd.prog 19 = .struct [(0, 1, 17)] := by kernel_rfl
theorem sz19 : Tryd.prog.cellsOf 19 = 1 := by kernel_rfl
theorem by19 : Tryd.prog.bytesOf 19 = 8 := by kernel_rfl
theorem td21 : tdOf Tryd.prog 21 = .int .i32 := by kernel_rfl
theorem sz21 : Tryd.prog.cellsOf 21 = 1 := by kernel_rfl
theorem by21 : Tryd.prog.bytesOf 21 = 4 := by kernel_rfl
theorem zr21 : zeroOf Tryd.prog 21 = some [.int .i32 0] := by kernel_rfl
theorem zk21 : zeroOk Tryd.prog 21 = true := by kernel_rfl
theorem td22 : tdOf Tryd.prog 22 = .slice 25 := by kernel_rfl
theorem sz22 : Tryd.prog.cellsOf 22 = 1 := by kernel_rfl
theorem by22 : Tryd.prog.bytesOf 22 = 24 := by kernel_rfl
theorem zr22 : zeroOf Tryd.prog 22 = some [.sl .nil 0 []] := by kernel_rfl
theorem zk22 : zeroOk Tryd.prog 22 = true := by kernel_rfl
theorem td23 : tdOf Tryd.prog 23 = .slice 9 := by kernel_rfl
theorem sz23 : Tryd.prog.cellsOf 23 = 1 := by kernel_rfl
theorem by23 : Tryd.prog.bytesOf 23 = 24 := by kernel_rfl
theorem zr23 : zeroOf Tryd.prog 23 = some [.sl .nil 0 []] := by kernel_rfl
theorem zk23 : zeroOk Tryd.prog 23 = true := by kernel_rfl
theorem td24 : tdOf Tryd.prog 24 = .struct [(0, 1, 3), (1, 1, 9), (2, 1, 22), (3, 1, 23)] := by kernel_rfl
theorem sz24 : Tryd.prog.cellsOf 24 = 4 := by kernel_rfl
theorem by24 : Tryd.prog.bytesOf 24 = 72 := by kernel_rfl
theorem zr24 : zeroOf Tryd.prog 24 = some [.int .i64 0, .str [], .sl .nil 0 [], .sl .nil 0 []] := by kernel_rfl
theorem zk24 : zeroOk Tryd.prog 24 = true := by kernel_rfl
theorem td25 : tdOf Tryd.prog 25 = .struct [(0, 1, 3), (1, 1, 9), (2, 1, 22), (3, 1, 23)] := by kernel_rfl
theorem sz25 : Tryd.prog.cellsOf 25 = 4 := by kernel_rfl
theorem by25 : Tryd.prog.bytesOf 25 = 72 := by kernel_rfl
theorem zr25 : zeroOf Tryd.prog 25 = some [.int .i64 0, .str [], .sl .nil 0 [], .sl .nil 0 []] := by kernel_rfl
theorem zk25 : zeroOk Tryd.prog 25 = true := by kernel_rfl
theorem td27 : tdOf Tryd.prog 27 = .ptr := by kernel_rfl
theorem sz27 : Tryd.prog.cellsOf 27 = 1 := by kernel_rfl
theorem by27 : Tryd.prog.bytesOf 27 = 8 := by kernel_rfl
theorem zr27 : zeroOf Tryd.prog 27 = some [.undef] := by kernel_rfl
theorem zk27 : zeroOk Tryd.prog 27 = true := by kernel_rfl
theorem td28 : tdOf Tryd.prog 28 = .ptr := by kernel_rfl
theorem sz28 : Tryd.prog.cellsOf 28 = 1 := by kernel_rfl
theorem by28 : Tryd.prog.bytesOf 28 = 8 := by kernel_rfl
theorem zr28 : zeroOf Tryd.prog 28 = some [.undef] := by kernel_rfl
theorem zk28 : zeroOk Tryd.prog 28 = true := by kernel_rfl
theorem td29 : tdOf Tryd.prog 29 = .ptr := by kernel_rfl
theorem sz29 : Tryd.prog.cellsOf 29 = 1 := by kernel_rfl
theorem by29 : Tryd.prog.bytesOf 29 = 8 := by kernel_rfl
theorem zr29 : zeroOf Tryd.prog 29 = some [.undef] := by kernel_rfl
theorem zk29 : zeroOk Tryd.prog 29 = true := by kernel_rfl
theorem td30 : tdOf Tryd.prog 30 = .ptr := by kernel_rfl
theorem sz30 : Tryd.prog.cellsOf 30 = 1 := by kernel_rfl
theorem by30 : Tryd.prog.bytesOf 30 = 8 := by kernel_rfl
theorem zr30 : zeroOf Tryd.prog 30 = some [.undef] := by kernel_rfl
theorem zk30 : zeroOk Tryd.prog 30 = true := by kernel_rfl
theorem td32 : tdOf Tryd.prog 32 = .ptr := by kernel_rfl
theorem sz32 : Tryd.prog.cellsOf 32 = 1 := by kernel_rfl
theorem by32 : Tryd.prog.bytesOf 32 = 8 := by kernel_rfl
theorem zr32 : zeroOf Tryd.prog 32 = some [.undef] := by kernel_rfl
theorem zk32 : zeroOk Tryd.prog 32 = true := by kernel_rfl
theorem td33 : tdOf Tryd.prog 33 = .ptr := by kernel_rfl
theorem sz33 : Tryd.prog.cellsOf 33 = 1 := by kernel_rfl
theorem by33 : Tryd.prog.bytesOf 33 = 8 := by kernel_rfl
theorem zr33 : zeroOf Tryd.prog 33 = some [.undef] := by kernel_rfl
theorem zk33 : zeroOk Tryd.prog 33 = true := by kernel_rfl
theorem td34 : tdOf Tryd.prog 34 = .ptr := by kernel_rfl
theorem sz34 : Tryd.prog.cellsOf 34 = 1 := by kernel_rfl
theorem by34 : Tryd.prog.bytesOf 34 = 8 := by kernel_rfl
theorem td35 : tdOf Tryd.prog 35 = .struct [(0, 1, 9), (1, 1, 3), (2, 1, 4)] := by kernel_rfl
theorem sz35 : Tryd.prog.cellsOf 35 = 3 := by kernel_rfl
theorem by35 : Tryd.prog.bytesOf 35 = 32 := by kernel_rfl
theorem zr35 : zeroOf Tryd.prog 35 = some [.str [], .int .i64 0, .bool false] := by kernel_rfl
theorem zk35 : zeroOk Tryd.prog 35 = true := by kernel_rfl
theorem td36 : tdOf Tryd.prog 36 = .struct [(0, 1, 9), (1, 1, 3), (2, 1, 4)] := by kernel_rfl
theorem sz36 : Tryd.prog.cellsOf 36 = 3 := by kernel_rfl
theorem by36 : Tryd.prog.bytesOf 36 = 32 := by kernel_rfl
theorem zr36 : zeroOf Tryd.prog 36 = some [.str [], .int .i64 0, .bool false] := by kernel_rfl
theorem zk36 : zeroOk Tryd.prog 36 = true := by kernel_rfl
theorem td37 : tdOf Tryd.prog 37 = .ptr := by kernel_rfl
theorem sz37 : Tryd.prog.cellsOf 37 = 1 := by kernel_rfl
theorem by37 : Tryd.prog.bytesOf 37 = 8 := by kernel_rfl
theorem zr37 : zeroOf Tryd.prog 37 = some [.undef] := by kernel_rfl
theorem zk37 : zeroOk Tryd.prog 37 = true := by kernel_rfl
theorem td38 : tdOf Tryd.prog 38 = .ptr := by kernel_rfl
theorem sz38 : Tryd.prog.cellsOf 38 = 1 := by kernel_rfl
theorem by38 : Tryd.prog.bytesOf 38 = 8 := by kernel_rfl
theorem zr38 : zeroOf Tryd.prog 38 = some [.undef] := by kernel_rfl
theorem zk38 : zeroOk Tryd.prog 38 = true := by kernel_rfl
theorem td39 : tdOf Tryd.prog 39 = .ptr := by kernel_rfl
theorem sz39 : Tryd.prog.cellsOf 39 = 1 := by kernel_rfl
theorem by39 : Tryd.prog.bytesOf 39 = 8 := by kernel_rfl
theorem zr39 : zeroOf Tryd.prog 39 = some [.undef] := by kernel_rfl
theorem zk39 : zeroOk Tryd.prog 39 = true := by kernel_rfl
theorem td40 : tdOf Tryd.prog 40 = .ptr := by kernel_rfl
theorem sz40 : Tryd.prog.cellsOf 40 = 1 := by kernel_rfl
theorem by40 : Tryd.prog.bytesOf 40 = 8 := by kernel_rfl
theorem zr40 : zeroOf Tryd.prog 40 = some [.undef] := by kernel_rfl
theorem zk40 : zeroOk Tryd.prog 40 = true := by kernel_rfl
theorem td41 : tdOf Tryd.prog 41 = .ptr := by kernel_rfl
theorem sz41 : Tryd.prog.cellsOf 41 = 1 := by kernel_rfl
theorem by41 : Tryd.prog.bytesOf 41 = 8 := by kernel_rfl
theorem zr41 : zeroOf Tryd.prog 41 = some [.undef] := by kernel_rfl
theorem zk41 : zeroOk Tryd.prog 41 = true := by kernel_rfl
theorem td42 : tdOf Tryd.prog 42 = .ptr := by kernel_rfl
theorem sz42 : Tryd.prog.cellsOf 42 = 1 := by kernel_rfl
theorem by42 : Tryd.prog.bytesOf 42 = 8 := by kernel_rfl
theorem zr42 : zeroOf Tryd.prog 42 = some [.undef] := by kernel_rfl
theorem zk42 : zeroOk Tryd.prog 42 = true := by kernel_rfl
theorem td44 : tdOf Tryd.prog 44 = .ptr := by kernel_rfl
theorem sz44 : Tryd.prog.cellsOf 44 = 1 := by kernel_rfl
theorem by44 : Tryd.prog.bytesOf 44 = 8 := by kernel_rfl
theorem zr44 : zeroOf Tryd.prog 44 = some [.undef] := by kernel_rfl
theorem zk44 : zeroOk Tryd.prog 44 = true := by kernel_rfl
theorem td45 : tdOf Tryd.prog 45 = .ptr := by kernel_rfl
theorem sz45 : Tryd.prog.cellsOf 45 = 1 := by kernel_rfl
theorem by45 : Tryd.prog.bytesOf 45 = 8 := by kernel_rfl
theorem zr45 : zeroOf Tryd.prog 45 = some [.undef] := by kernel_rfl
theorem zk45 : zeroOk Tryd.prog 45 = true := by kernel_rfl
theorem td46 : tdOf Tryd.prog 46 = .ptr := by kernel_rfl
theorem sz46 : Tryd.prog.cellsOf 46 = 1 := by kernel_rfl
theorem by46 : Tryd.prog.bytesOf 46 = 8 := by kernel_rfl
theorem zr46 : zeroOf Tryd.prog 46 = some [.undef] := by kernel_rfl
theorem zk46 : zeroOk Tryd.prog 46 = true := by kernel_rfl
theorem td47 : tdOf Tryd.prog 47 = .ptr := by kernel_rfl
theorem sz47 : Tryd.prog.cellsOf 47 = 1 := by kernel_rfl
theorem by47 : Tryd.prog.bytesOf 47 = 8 := by kernel_rfl
theorem zr47 : zeroOf Tryd.prog 47 = some [.undef] := by kernel_rfl
theorem zk47 : zeroOk Tryd.prog 47 = true := by kernel_rfl
theorem td48 : tdOf Tryd.prog 48 = .ptr := by kernel_rfl
theorem sz48 : Tryd.prog.cellsOf 48 = 1 := by kernel_rfl
theorem by48 : Tryd.prog.bytesOf 48 = 8 := by kernel_rfl
theorem zr48 : zeroOf Tryd.prog 48 = some [.undef] := by kernel_rfl
theorem zk48 : zeroOk Tryd.prog 48 = true := by kernel_rfl
theorem td49 : tdOf Tryd.prog 49 = .ptr := by kernel_rfl
theorem sz49 : Tryd.prog.cellsOf 49 = 1 := by kernel_rfl
theorem by49 : Tryd.prog.bytesOf 49 = 8 := by kernel_rfl
theorem zr49 : zeroOf Tryd.prog 49 = some [.undef] := by kernel_rfl
theorem zk49 : zeroOk Tryd.prog 49 = true := by kernel_rfl
theorem td50 : tdOf Tryd.prog 50 = .ptr := by kernel_rfl
theorem sz50 : Tryd.prog.cellsOf 50 = 1 := by kernel_rfl
theorem by50 : Tryd.prog.bytesOf 50 = 8 := by kernel_rfl
theorem zr50 : zeroOf Tryd.prog 50 = some [.undef] := by kernel_rfl
theorem zk50 : zeroOk Tryd.prog 50 = true := by kernel_rfl
theorem td52 : tdOf Tryd.prog 52 = .ptr := by kernel_rfl
theorem sz52 : Tryd.prog.cellsOf 52 = 1 := by kernel_rfl
theorem by52 : Tryd.prog.bytesOf 52 = 8 := by kernel_rfl
theorem zr52 : zeroOf Tryd.prog 52 = some [.undef] := by kernel_rfl
theorem zk52 : zeroOk Tryd.prog 52 = true := by kernel_rfl
theorem td53 : tdOf Tryd.prog 53 = .ptr := by kernel_rfl
theorem sz53 : Tryd.prog.cellsOf 53 = 1 := by kernel_rfl
theorem by53 : Tryd.prog.bytesOf 53 = 8 := by kernel_rfl
theorem zr53 : zeroOf Tryd.prog 53 = some [.undef] := by kernel_rfl
theorem zk53 : zeroOk Tryd.prog 53 = true := by kernel_rfl
theorem td54 : tdOf Tryd.prog 54 = .ptr := by kernel_rfl
theorem sz54 : Tryd.prog.cellsOf 54 = 1 := by kernel_rfl
theorem by54 : Tryd.prog.bytesOf 54 = 8 := by kernel_rfl
theorem zr54 : zeroOf Tryd.prog 54 = some [.undef] := by kernel_rfl
theorem zk54 : zeroOk Tryd.prog 54 = true := by kernel_rfl
theorem td55 : tdOf Tryd.prog 55 = .ptr := by kernel_rfl
theorem sz55 : Tryd.prog.cellsOf 55 = 1 := by kernel_rfl
theorem by55 : Tryd.prog.bytesOf 55 = 8 := by kernel_rfl
theorem zr55 : zeroOf Tryd.prog 55 = some [.undef] := by kernel_rfl
theorem zk55 : zeroOk Tryd.prog 55 = true := by kernel_rfl
theorem td56 : tdOf Tryd.prog 56 = .ptr := by kernel_rfl
theorem sz56 : Tryd.prog.cellsOf 56 = 1 := by kernel_rfl
theorem by56 : Tryd.prog.bytesOf 56 = 8 := by kernel_rfl
theorem zr56 : zeroOf Tryd.prog 56 = some [.undef] := by kernel_rfl
theorem zk56 : zeroOk Tryd.prog 56 = true := by kernel_rfl
theorem td57 : tdOf Tryd.prog 57 = .ptr := by kernel_rfl
theorem sz57 : Tryd.prog.cellsOf 57 = 1 := by kernel_rfl
theorem by57 : Tryd.prog.bytesOf 57 = 8 := by kernel_rfl
theorem zr57 : zeroOf Tryd.prog 57 = some [.undef] := by kernel_rfl
theorem zk57 : zeroOk Tryd.prog 57 = true := by kernel_rfl
theorem td58 : tdOf Tryd.prog 58 = .slice 5 := by kernel_rfl
theorem sz58 : Tryd.prog.cellsOf 58 = 1 := by kernel_rfl
theorem by58 : Tryd.prog.bytesOf 58 = 24 := by kernel_rfl
theorem zr58 : zeroOf Tryd.prog 58 = some [.sl .nil 0 []] := by kernel_rfl
theorem zk58 : zeroOk Tryd.prog 58 = true := by kernel_rfl
theorem td60 : tdOf Tryd.prog 60 = .ptr := by kernel_rfl
theorem sz60 : Tryd.prog.cellsOf 60 = 1 := by kernel_rfl
theorem by60 : Tryd.prog.bytesOf 60 = 8 := by kernel_rfl
theorem zr60 : zeroOf Tryd.prog 60 = some [.undef] := by kernel_rfl
theorem zk60 : zeroOk Tryd.prog 60 = true := by kernel_rfl
theorem td61 : tdOf Tryd.prog 61 = .ptr := by kernel_rfl
theorem sz61 : Tryd.prog.cellsOf 61 = 1 := by kernel_rfl
theorem by61 : Tryd.prog.bytesOf 61 = 8 := by kernel_rfl
theorem zr61 : zeroOf Tryd.prog 61 = some [.undef] := by kernel_rfl
theorem zk61 : zeroOk Tryd.prog 61 = true := by kernel_rfl
theorem td63 : tdOf Tryd.prog 63 = .ptr := by kernel_rfl
theorem sz63 : Tryd.prog.cellsOf 63 = 1 := by kernel_rfl
theorem by63 : Tryd.prog.bytesOf 63 = 8 := by kernel_rfl
theorem zr63 : zeroOf Tryd.prog 63 = some [.undef] := by kernel_rfl
theorem zk63 : zeroOk Tryd.prog 63 = true := by kernel_rfl
theorem td64 : tdOf Tryd.prog 64 = .ptr := by kernel_rfl
theorem sz64 : Tryd.prog.cellsOf 64 = 1 := by kernel_rfl
theorem by64 : Tryd.prog.bytesOf 64 = 8 := by kernel_rfl
theorem zr64 : zeroOf Tryd.prog 64 = some [.undef] := by kernel_rfl
theorem zk64 : zeroOk Tryd.prog 64 = true := by kernel_rfl
theorem td65 : tdOf Tryd.prog 65 = .ptr := by kernel_rfl
theorem sz65 : Tryd.prog.cellsOf 65 = 1 := by kernel_rfl
theorem by65 : Tryd.prog.bytesOf 65 = 8 := by kernel_rfl
theorem zr65 : zeroOf Tryd.prog 65 = some [.undef] := by kernel_rfl
theorem zk65 : zeroOk Tryd.prog 65 = true := by kernel_rfl
theorem td67 : tdOf Tryd.prog 67 = .ptr := by kernel_rfl
theorem sz67 : Tryd.prog.cellsOf 67 = 1 := by kernel_rfl
theorem by67 : Tryd.prog.bytesOf 67 = 8 := by kernel_rfl
theorem zr67 : zeroOf Tryd.prog 67 = some [.undef] := by kernel_rfl
theorem zk67 : zeroOk Tryd.prog 67 = true := by kernel_rfl
theorem td68 : tdOf Tryd.prog 68 = .int .u64 := by kernel_rfl
theorem sz68 : Tryd.prog.cellsOf 68 = 1 := by kernel_rfl
theorem by68 : Tryd.prog.bytesOf 68 = 8 := by kernel_rfl
theorem zr68 : zeroOf Tryd.prog 68 = some [.int .u64 0] := by kernel_rfl
theorem zk68 : zeroOk Tryd.prog 68 = true := by kernel_rfl
theorem td69 : tdOf Tryd.prog 69 = .ptr := by kernel_rfl
theorem sz69 : Tryd.prog.cellsOf 69 = 1 := by kernel_rfl
theorem by69 : Tryd.prog.bytesOf 69 = 8 := by kernel_rfl
theorem zr69 : zeroOf Tryd.prog 69 = some [.undef] := by kernel_rfl
theorem zk69 : zeroOk Tryd.prog 69 = true := by kernel_rfl
theorem td70 : tdOf Tryd.prog 70 = .ptr := by kernel_rfl
theorem sz70 : Tryd.prog.cellsOf 70 = 1 := by kernel_rfl
theorem by70 : Tryd.prog.bytesOf 70 = 8 := by kernel_rfl
theorem zr70 : zeroOf Tryd.prog 70 = some [.undef] := by kernel_rfl
theorem zk70 : zeroOk Tryd.prog 70 = true := by kernel_rfl
theorem td71 : tdOf Tryd.prog 71 = .ptr := by kernel_rfl
theorem sz71 : Tryd.prog.cellsOf 71 = 1 := by kernel_rfl
theorem by71 : Tryd.prog.bytesOf 71 = 8 := by kernel_rfl
theorem zr71 : zeroOf Tryd.prog 71 = some [.undef] := by kernel_rfl
theorem zk71 : zeroOk Tryd.prog 71 = true := by kernel_rfl
theorem td72 : tdOf Tryd.prog 72 = .ptr := by kernel_rfl
theorem sz72 : Tryd.prog.cellsOf 72 = 1 := by kernel_rfl
theorem by72 : Tryd.prog.bytesOf 72 = 8 := by kernel_rfl
theorem zr72 : zeroOf Tryd.prog 72 = some [.undef] := by kernel_rfl
theorem zk72 : zeroOk Tryd.prog 72 = true := by kernel_rfl
theorem td73 : tdOf Tryd.prog 73 = .ptr := by kernel_rfl
theorem sz73 : Tryd.prog.cellsOf 73 = 1 := by kernel_rfl
theorem by73 : Tryd.prog.bytesOf 73 = 8 := by kernel_rfl
theorem zr73 : zeroOf Tryd.prog 73 = some [.undef] := by kernel_rfl
theorem zk73 : zeroOk Tryd.prog 73 = true := by kernel_rfl
theorem td75 : tdOf Tryd.prog 75 = .ptr := by kernel_rfl
theorem sz75 : Tryd.prog.cellsOf 75 = 1 := by kernel_rfl
theorem by75 : Tryd.prog.bytesOf 75 = 8 := by kernel_rfl
theorem zr75 : zeroOf Tryd.prog 75 = some [.undef] := by kernel_rfl
theorem zk75 : zeroOk Tryd.prog 75 = true := by kernel_rfl
theorem td76 : tdOf Tryd.prog 76 = .ptr := by kernel_rfl
theorem sz76 : Tryd.prog.cellsOf 76 = 1 := by kernel_rfl
theorem by76 : Tryd.prog.bytesOf 76 = 8 := by kernel_rfl
theorem zr76 : zeroOf Tryd.prog 76 = some [.undef] := by kernel_rfl
theorem zk76 : zeroOk Tryd.prog 76 = true := by kernel_rfl
theorem td80 : tdOf Tryd.prog 80 = .ptr := by kernel_rfl
theorem sz80 : Tryd.prog.cellsOf 80 = 1 := by kernel_rfl
theorem by80 : Tryd.prog.bytesOf 80 = 8 := by kernel_rfl
theorem zr80 : zeroOf Tryd.prog 80 = some [.undef] := by kernel_rfl
theorem zk80 : zeroOk Tryd.prog 80 = true := by kernel_rfl
theorem td81 : tdOf Tryd.prog 81 = .ptr := by kernel_rfl
theorem sz81 : Tryd.prog.cellsOf 81 = 1 := by kernel_rfl
theorem by81 : Tryd.prog.bytesOf 81 = 8 := by kernel_rfl
theorem zr81 : zeroOf Tryd.prog 81 = some [.undef] := by kernel_rfl
theorem zk81 : zeroOk Tryd.prog 81 = true := by kernel_rfl
theorem td83 : tdOf Tryd.prog 83 = .struct [(0, 1, 5), (1, 1, 5)] := by kernel_rfl
theorem sz83 : Tryd.prog.cellsOf 83 = 2 := by kernel_rfl
theorem by83 : Tryd.prog.bytesOf 83 = 2 := by kernel_rfl
theorem zr83 : zeroOf Tryd.prog 83 = some [.int .u8 0, .int .u8 0] := by kernel_rfl
theorem zk83 : zeroOk Tryd.prog 83 = true := by kernel_rfl
theorem td84 : tdOf Tryd.prog 84 = .struct [(0, 1, 5), (1, 1, 5)] := by kernel_rfl
theorem sz84 : Tryd.prog.cellsOf 84 = 2 := by kernel_rfl
theorem by84 : Tryd.prog.bytesOf 84 = 2 := by kernel_rfl
theorem zr84 : zeroOf Tryd.prog 84 = some [.int .u8 0, .int .u8 0] := by kernel_rfl
theorem zk84 : zeroOk Tryd.prog 84 = true := by kernel_rfl
theorem td87 : tdOf Tryd.prog 87 = .ptr := by kernel_rfl
theorem sz87 : Tryd.prog.cellsOf 87 = 1 := by kernel_rfl
theorem by87 : Tryd.prog.bytesOf 87 = 8 := by kernel_rfl
theorem zr87 : zeroOf Tryd.prog 87 = some [.undef] := by kernel_rfl
theorem zk87 : zeroOk Tryd.prog 87 = true := by kernel_rfl
theorem td88 : tdOf Tryd.prog 88 = .ptr := by kernel_rfl
theorem sz88 : Tryd.prog.cellsOf 88 = 1 := by kernel_rfl
theorem by88 : Tryd.prog.bytesOf 88 = 8 := by kernel_rfl
theorem zr88 : zeroOf Tryd.prog 88 = some [.undef] := by kernel_rfl
theorem zk88 : zeroOk Tryd.prog 88 = true := by kernel_rfl
theorem td89 : tdOf Tryd.prog 89 = .ptr := by kernel_rfl
theorem sz89 : Tryd.prog.cellsOf 89 = 1 := by kernel_rfl
theorem by89 : Tryd.prog.bytesOf 89 = 8 := by kernel_rfl
theorem zr89 : zeroOf Tryd.prog 89 = some [.undef] := by kernel_rfl
theorem zk89 : zeroOk Tryd.prog 89 = true := by kernel_rfl
theorem td90 : tdOf Tryd.prog 90 = .ptr := by kernel_rfl
theorem sz90 : Tryd.prog.cellsOf 90 = 1 := by kernel_rfl
theorem by90 : Tryd.prog.bytesOf 90 = 8 := by kernel_rfl
theorem zr90 : zeroOf Tryd.prog 90 = some [.undef] := by kernel_rfl
theorem zk90 : zeroOk Tryd.prog 90 = true := by kernel_rfl
theorem td91 : tdOf Tryd.prog 91 = .ptr := by kernel_rfl
theorem sz91 : Tryd.prog.cellsOf 91 = 1 := by kernel_rfl
theorem by91 : Tryd.prog.bytesOf 91 = 8 := by kernel_rfl
theorem td92 : tdOf Tryd.prog 92 = .int .u64 := by kernel_rfl
theorem sz92 : Tryd.prog.cellsOf 92 = 1 := by kernel_rfl
theorem by92 : Tryd.prog.bytesOf 92 = 8 := by kernel_rfl
theorem zr92 : zeroOf Tryd.prog 92 = some [.int .u64 0] := by kernel_rfl
theorem zk92 : zeroOk Tryd.prog 92 = true := by kernel_rfl
theorem td93 : tdOf Tryd.prog 93 = .int .u32 := by kernel_rfl
theorem sz93 : Tryd.prog.cellsOf 93 = 1 := by kernel_rfl
theorem by93 : Tryd.prog.bytesOf 93 = 4 := by kernel_rfl
theorem zr93 : zeroOf Tryd.prog 93 = some [.int .u32 0] := by kernel_rfl
theorem zk93 : zeroOk Tryd.prog 93 = true := by kernel_rfl
theorem td95 : tdOf Tryd.prog 95 = .ptr := by kernel_rfl
theorem sz95 : Tryd.prog.cellsOf 95 = 1 := by kernel_rfl
theorem by95 : Tryd.prog.bytesOf 95 = 8 := by kernel_rfl
theorem zr95 : zeroOf Tryd.prog 95 = some [.undef] := by kernel_rfl
theorem zk95 : zeroOk Tryd.prog 95 = true := by kernel_rfl
theorem td96 : tdOf Tryd.prog 96 = .struct [(0, 1, 17), (1, 1, 17), (2, 1, 17), (3, 1, 9)] := by kernel_rfl
theorem sz96 : Tryd.prog.cellsOf 96 = 4 := by kernel_rfl
theorem by96 : Tryd.prog.bytesOf 96 = 40 := by kernel_rfl
theorem td97 : tdOf Tryd.prog 97 = .struct [(0, 1, 17), (1, 1, 17), (2, 1, 17), (3, 1, 9)] := by kernel_rfl
theorem sz97 : Tryd.prog.cellsOf 97 = 4 := by kernel_rfl
theorem by97 : Tryd.prog.bytesOf 97 = 40 := by kernel_rfl
theorem td99 : tdOf Tryd.prog 99 = .struct [(0, 0, 98)] := by kernel_rfl
theorem sz99 : Tryd.prog.cellsOf 99 = 0 := by kernel_rfl
theorem by99 : Tryd.prog.bytesOf 99 = 0 := by kernel_rfl
theorem zr99 : zeroOf Tryd.prog 99 = some [] := by kernel_rfl
theorem zk99 : zeroOk Tryd.prog 99 = true := by kernel_rfl
theorem td100 : tdOf Tryd.prog 100 = .struct [(0, 0, 98)] := by kernel_rfl
theorem sz100 : Tryd.prog.cellsOf 100 = 0 := by kernel_rfl
theorem by100 : Tryd.prog.bytesOf 100 = 0 := by kernel_rfl
theorem zr100 : zeroOf Tryd.prog 100 = some [] := by kernel_rfl
theorem zk100 : zeroOk Tryd.prog 100 = true := by kernel_rfl
theorem td101 : tdOf Tryd.prog 101 = .ptr := by kernel_rfl
theorem sz101 : Tryd.prog.cellsOf 101 = 1 := by kernel_rfl
theorem by101 : Tryd.prog.bytesOf 101 = 8 := by kernel_rfl
theorem zr101 : zeroOf Tryd.prog 101 = some [.undef] := by kernel_rfl
theorem zk101 : zeroOk Tryd.prog 101 = true := by kernel_rfl
theorem td102 : tdOf Tryd.prog 102 = .int .u8 := by kernel_rfl
theorem sz102 : Tryd.prog.cellsOf 102 = 1 := by kernel_rfl
theorem by102 : Tryd.prog.bytesOf 102 = 1 := by kernel_rfl
theorem zr102 : zeroOf Tryd.prog 102 = some [.int .u8 0] := by kernel_rfl
theorem zk102 : zeroOk Tryd.prog 102 = true := by kernel_rfl
theorem td103 : tdOf Tryd.prog 103 = .int .u8 := by kernel_rfl
theorem sz103 : Tryd.prog.cellsOf 103 = 1 := by kernel_rfl
theorem by103 : Tryd.prog.bytesOf 103 = 1 := by kernel_rfl
theorem zr103 : zeroOf Tryd.prog 103 = some [.int .u8 0] := by kernel_rfl
theorem zk103 : zeroOk Tryd.prog 103 = true := by kernel_rfl
theorem td104 : tdOf Tryd.prog 104 = .ptr := by kernel_rfl
theorem sz104 : Tryd.prog.cellsOf 104 = 1 := by kernel_rfl
theorem by104 : Tryd.prog.bytesOf 104 = 8 := by kernel_rfl
theorem zr104 : zeroOf Tryd.prog 104 = some [.undef] := by kernel_rfl
theorem zk104 : zeroOk Tryd.prog 104 = true := by kernel_rfl
theorem td105 : tdOf Tryd.prog 105 = .ptr := by kernel_rfl
theorem sz105 : Tryd.prog.cellsOf 105 = 1 := by kernel_rfl
theorem by105 : Tryd.prog.bytesOf 105 = 8 := by kernel_rfl
theorem td106 : tdOf Tryd.prog 106 = .int .i32 := by kernel_rfl
theorem sz106 : Tryd.prog.cellsOf 106 = 1 := by kernel_rfl
theorem by106 : Tryd.prog.bytesOf 106 = 4 := by kernel_rfl
theorem zr106 : zeroOf Tryd.prog 106 = some [.int .i32 0] := by kernel_rfl
theorem zk106 : zeroOk Tryd.prog 106 = true := by kernel_rfl
theorem td107 : tdOf Tryd.prog 107 = .int .i32 := by kernel_rfl
theorem sz107 : Tryd.prog.cellsOf 107 = 1 := by kernel_rfl
theorem by107 : Tryd.prog.bytesOf 107 = 4 := by kernel_rfl
theorem zr107 : zeroOf Tryd.prog 107 = some [.int .i32 0] := by kernel_rfl
theorem zk107 : zeroOk Tryd.prog 107 = true := by kernel_rfl
theorem td108 : tdOf Tryd.prog 108 = .struct [(0, 1, 12), (1, 1, 12), (2, 1, 93), (3, 1, 102), (4, 1, 5), (5, 1, 5), (6, 1, 103), (7, 1, 104), (8, 1, 105), (9, 1, 106), (10, 1, 107)] := by kernel_rfl
theorem sz108 : Tryd.prog.cellsOf 108 = 11 := by kernel_rfl
theorem by108 : Tryd.prog.bytesOf 108 = 48 := by kernel_rfl
theorem td109 : tdOf Tryd.prog 109 = .struct [(0, 1, 12), (1, 1, 12), (2, 1, 93), (3, 1, 102), (4, 1, 5), (5, 1, 5), (6, 1, 103), (7, 1, 104), (8, 1, 105), (9, 1, 106), (10, 1, 107)] := by kernel_rfl
theorem sz109 : Tryd.prog.cellsOf 109 = 11 := by kernel_rfl
theorem by109 : Tryd.prog.bytesOf 109 = 48 := by kernel_rfl
attribute [simp] td1 sz1 by1 zr1 zk1 td2 sz2 by2 zr2 zk2 td3 sz3 by3 zr3 zk3 td4 sz4 by4 zr4 zk4 td5 sz5 by5 zr5 zk5 td6 sz6 by6 zr6 zk6 td7 sz7 by7 zr7 zk7 td8 sz8 by8 zr8 zk8 td9 sz9 by9 zr9 zk9 td10 sz10 by10 zr10 zk10 td11 sz11 by11 zr11 zk11 td12 sz12 by12 zr12 zk12 td13 sz13 by13 zr13 zk13 td14 sz14 by14 zr14 zk14 td15 sz15 by15 td16 sz16 by16 td17 sz17 by17 td18 sz18 by18 td19 sz19 by19 td21 sz21 by21 zr21 zk21 td22 sz22 by22 zr22 zk22 td23 sz23 by23 zr23 zk23 td24 sz24 by24 zr24 zk24 td25 sz25 by25 zr25 zk25 td27 sz27 by27 zr27 zk27 td28 sz28 by28 zr28 zk28 td29 sz29 by29 zr29 zk29 td30 sz30 by30 zr30 zk30 td32 sz32 by32 zr32 zk32 td33 sz33 by33 zr33 zk33 td34 sz34 by34 td35 sz35 by35 zr35 zk35 td36 sz36 by36 zr36 zk36 td37 sz37 by37 zr37 zk37 td38 sz38 by38 zr38 zk38 td39 sz39 by39 zr39 zk39 td40 sz40 by40 zr40 zk40 td41 sz41 by41 zr41 zk41 td42 sz42 by42 zr42 zk42 td44 sz44 by44 zr44 zk44 td45 sz45 by45 zr45 zk45 td46 sz46 by46 zr46 zk46 td47 sz47 by47 zr47 zk47 td48 sz48 by48 zr48 zk48 td49 sz49 by49 zr49 zk49 td50 sz50 by50 zr50 zk50 td52 sz52 by52 zr52 zk52 td53 sz53 by53 zr53 zk53 td54 sz54 by54 zr54 zk54 td55 sz55 by55 zr55 zk55 td56 sz56 by56 zr56 zk56 td57 sz57 by57 zr57 zk57 td58 sz58 by58 zr58 zk58 td60 sz60 by60 zr60 zk60 td61 sz61 by61 zr61 zk61 td63 sz63 by63 zr63 zk63 td64 sz64 by64 zr64 zk64 td65 sz65 by65 zr65 zk65 td67 sz67 by67 zr67 zk67 td68 sz68 by68 zr68 zk68 td69 sz69 by69 zr69 zk69 td70 sz70 by70 zr70 zk70 td71 sz71 by71 zr71 zk71 td72 sz72 by72 zr72 zk72 td73 sz73 by73 zr73 zk73 td75 sz75 by75 zr75 zk75 td76 sz76 by76 zr76 zk76 td80 sz80 by80 zr80 zk80 td81 sz81 by81 zr81 zk81 td83 sz83 by83 zr83 zk83 td84 sz84 by84 zr84 zk84 td87 sz87 by87 zr87 zk87 td88 sz88 by88 zr88 zk88 td89 sz89 by89 zr89 zk89 td90 sz90 by90 zr90 zk90 td91 sz91 by91 td92 sz92 by92 zr92 zk92 td93 sz93 by93 zr93 zk93 td95 sz95 by95 zr95 zk95 td96 sz96 by96 td97 sz97 by97 td99 sz99 by99 zr99 zk99 td100 sz100 by100 zr100 zk100 td101 sz101 by101 zr101 zk101 td102 sz102 by102 zr102 zk102 td103 sz103 by103 zr103 zk103 td104 sz104 by104 zr104 zk104 td105 sz105 by105 td106 sz106 by106 zr106 zk106 td107 sz107 by107 zr107 zk107 td108 sz108 by108 td109 sz109 by109
end Go.Proofs.YthagllbnkbahnaaDoor.Abs
