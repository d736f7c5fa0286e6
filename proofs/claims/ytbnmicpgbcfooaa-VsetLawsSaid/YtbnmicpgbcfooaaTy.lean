/- Facts on the program's types, by program. -/
import Derived.Test.YtbnmicpgbcfooaaAbsC
import Derived.Test.YtbnmicpgbcfooaaProg
namespace Go.Proofs.Ytbnmicpgbcfooaa
open Go.Abs
theorem mixed : Try.prog.follows .mixedOrders = true := by kernel_rfl
@[go_sem] theorem tyStr0 : tyStr Try.prog 0 = false := by kernel_rfl
@[go_sem] theorem tyBool0 : tyBool Try.prog 0 = false := by kernel_rfl
@[go_sem] theorem tyPtr0 : tyPtr Try.prog 0 = false := by kernel_rfl
@[go_sem] theorem tyElem0 : tyElem Try.prog 0 = none := by kernel_rfl
@[go_sem] theorem tyArr0 : tyArr Try.prog 0 = none := by kernel_rfl
@[go_sem] theorem tySize0 : tySize Try.prog 0 = some 1 := by kernel_rfl
@[go_sem] theorem tyAgg0 : tyAgg Try.prog 0 = some false := by kernel_rfl
@[go_sem] theorem tyInt0 : tyInt Try.prog 0 = none := by kernel_rfl
@[go_sem] theorem tyBytes0 : tyBytes Try.prog 0 = 0 := by kernel_rfl
@[go_sem] theorem allSized0 : allSized Try.prog 0 = false := by kernel_rfl
@[go_sem] theorem zeroA0 : zeroA Try.prog 0 = some (.tup []) := by kernel_rfl
@[go_sem] theorem eqTy0 : eqTy Try.prog 0 = none := by kernel_rfl
@[go_sem] theorem tyStr1 : tyStr Try.prog 1 = false := by kernel_rfl
@[go_sem] theorem tyBool1 : tyBool Try.prog 1 = false := by kernel_rfl
@[go_sem] theorem tyPtr1 : tyPtr Try.prog 1 = false := by kernel_rfl
@[go_sem] theorem tyElem1 : tyElem Try.prog 1 = none := by kernel_rfl
@[go_sem] theorem tyArr1 : tyArr Try.prog 1 = none := by kernel_rfl
@[go_sem] theorem tySize1 : tySize Try.prog 1 = some 1 := by kernel_rfl
@[go_sem] theorem tyAgg1 : tyAgg Try.prog 1 = some false := by kernel_rfl
@[go_sem] theorem tyInt1 : tyInt Try.prog 1 = none := by kernel_rfl
@[go_sem] theorem tyBytes1 : tyBytes Try.prog 1 = 8 := by kernel_rfl
@[go_sem] theorem allSized1 : allSized Try.prog 1 = false := by kernel_rfl
@[go_sem] theorem zeroA1 : zeroA Try.prog 1 = some .any := by kernel_rfl
@[go_sem] theorem eqTy1 : eqTy Try.prog 1 = none := by kernel_rfl
@[go_sem] theorem tyStr2 : tyStr Try.prog 2 = false := by kernel_rfl
@[go_sem] theorem tyBool2 : tyBool Try.prog 2 = false := by kernel_rfl
@[go_sem] theorem tyPtr2 : tyPtr Try.prog 2 = false := by kernel_rfl
@[go_sem] theorem tyElem2 : tyElem Try.prog 2 = none := by kernel_rfl
@[go_sem] theorem tyArr2 : tyArr Try.prog 2 = none := by kernel_rfl
@[go_sem] theorem tySize2 : tySize Try.prog 2 = some 1 := by kernel_rfl
@[go_sem] theorem tyAgg2 : tyAgg Try.prog 2 = some false := by kernel_rfl
@[go_sem] theorem tyInt2 : tyInt Try.prog 2 = some .i64 := by kernel_rfl
@[go_sem] theorem tyBytes2 : tyBytes Try.prog 2 = 8 := by kernel_rfl
@[go_sem] theorem allSized2 : allSized Try.prog 2 = false := by kernel_rfl
@[go_sem] theorem zeroA2 : zeroA Try.prog 2 = some (.int .i64 0) := by kernel_rfl
@[go_sem] theorem eqTy2 : eqTy Try.prog 2 = none := by kernel_rfl
@[go_sem] theorem tyStr3 : tyStr Try.prog 3 = false := by kernel_rfl
@[go_sem] theorem tyBool3 : tyBool Try.prog 3 = false := by kernel_rfl
@[go_sem] theorem tyPtr3 : tyPtr Try.prog 3 = false := by kernel_rfl
@[go_sem] theorem tyElem3 : tyElem Try.prog 3 = none := by kernel_rfl
@[go_sem] theorem tyArr3 : tyArr Try.prog 3 = none := by kernel_rfl
@[go_sem] theorem tySize3 : tySize Try.prog 3 = some 1 := by kernel_rfl
@[go_sem] theorem tyAgg3 : tyAgg Try.prog 3 = some false := by kernel_rfl
@[go_sem] theorem tyInt3 : tyInt Try.prog 3 = some .i64 := by kernel_rfl
@[go_sem] theorem tyBytes3 : tyBytes Try.prog 3 = 8 := by kernel_rfl
@[go_sem] theorem allSized3 : allSized Try.prog 3 = false := by kernel_rfl
@[go_sem] theorem zeroA3 : zeroA Try.prog 3 = some (.int .i64 0) := by kernel_rfl
@[go_sem] theorem eqTy3 : eqTy Try.prog 3 = none := by kernel_rfl
@[go_sem] theorem tyStr4 : tyStr Try.prog 4 = false := by kernel_rfl
@[go_sem] theorem tyBool4 : tyBool Try.prog 4 = true := by kernel_rfl
@[go_sem] theorem tyPtr4 : tyPtr Try.prog 4 = false := by kernel_rfl
@[go_sem] theorem tyElem4 : tyElem Try.prog 4 = none := by kernel_rfl
@[go_sem] theorem tyArr4 : tyArr Try.prog 4 = none := by kernel_rfl
@[go_sem] theorem tySize4 : tySize Try.prog 4 = some 1 := by kernel_rfl
@[go_sem] theorem tyAgg4 : tyAgg Try.prog 4 = some false := by kernel_rfl
@[go_sem] theorem tyInt4 : tyInt Try.prog 4 = none := by kernel_rfl
@[go_sem] theorem tyBytes4 : tyBytes Try.prog 4 = 1 := by kernel_rfl
@[go_sem] theorem allSized4 : allSized Try.prog 4 = false := by kernel_rfl
@[go_sem] theorem zeroA4 : zeroA Try.prog 4 = some (.bool false) := by kernel_rfl
@[go_sem] theorem eqTy4 : eqTy Try.prog 4 = none := by kernel_rfl
@[go_sem] theorem tyStr5 : tyStr Try.prog 5 = false := by kernel_rfl
@[go_sem] theorem tyBool5 : tyBool Try.prog 5 = false := by kernel_rfl
@[go_sem] theorem tyPtr5 : tyPtr Try.prog 5 = false := by kernel_rfl
@[go_sem] theorem tyElem5 : tyElem Try.prog 5 = none := by kernel_rfl
@[go_sem] theorem tyArr5 : tyArr Try.prog 5 = none := by kernel_rfl
@[go_sem] theorem tySize5 : tySize Try.prog 5 = some 1 := by kernel_rfl
@[go_sem] theorem tyAgg5 : tyAgg Try.prog 5 = some false := by kernel_rfl
@[go_sem] theorem tyInt5 : tyInt Try.prog 5 = some .u8 := by kernel_rfl
@[go_sem] theorem tyBytes5 : tyBytes Try.prog 5 = 1 := by kernel_rfl
@[go_sem] theorem allSized5 : allSized Try.prog 5 = false := by kernel_rfl
@[go_sem] theorem zeroA5 : zeroA Try.prog 5 = some (.int .u8 0) := by kernel_rfl
@[go_sem] theorem eqTy5 : eqTy Try.prog 5 = none := by kernel_rfl
@[go_sem] theorem tyStr6 : tyStr Try.prog 6 = false := by kernel_rfl
@[go_sem] theorem tyBool6 : tyBool Try.prog 6 = false := by kernel_rfl
@[go_sem] theorem tyPtr6 : tyPtr Try.prog 6 = false := by kernel_rfl
@[go_sem] theorem tyElem6 : tyElem Try.prog 6 = none := by kernel_rfl
@[go_sem] theorem tyArr6 : tyArr Try.prog 6 = none := by kernel_rfl
@[go_sem] theorem tySize6 : tySize Try.prog 6 = some 1 := by kernel_rfl
@[go_sem] theorem tyAgg6 : tyAgg Try.prog 6 = some false := by kernel_rfl
@[go_sem] theorem tyInt6 : tyInt Try.prog 6 = some .u8 := by kernel_rfl
@[go_sem] theorem tyBytes6 : tyBytes Try.prog 6 = 1 := by kernel_rfl
@[go_sem] theorem allSized6 : allSized Try.prog 6 = false := by kernel_rfl
@[go_sem] theorem zeroA6 : zeroA Try.prog 6 = some (.int .u8 0) := by kernel_rfl
@[go_sem] theorem eqTy6 : eqTy Try.prog 6 = none := by kernel_rfl
@[go_sem] theorem tyStr7 : tyStr Try.prog 7 = false := by kernel_rfl
@[go_sem] theorem tyBool7 : tyBool Try.prog 7 = false := by kernel_rfl
@[go_sem] theorem tyPtr7 : tyPtr Try.prog 7 = false := by kernel_rfl
@[go_sem] theorem tyElem7 : tyElem Try.prog 7 = none := by kernel_rfl
@[go_sem] theorem tyArr7 : tyArr Try.prog 7 = none := by kernel_rfl
@[go_sem] theorem tySize7 : tySize Try.prog 7 = some 4 := by kernel_rfl
@[go_sem] theorem tyAgg7 : tyAgg Try.prog 7 = some true := by kernel_rfl
@[go_sem] theorem tyInt7 : tyInt Try.prog 7 = none := by kernel_rfl
@[go_sem] theorem tyBytes7 : tyBytes Try.prog 7 = 24 := by kernel_rfl
@[go_sem] theorem allSized7 : allSized Try.prog 7 = true := by kernel_rfl
@[go_sem] theorem zeroA7 : zeroA Try.prog 7 = some (.agg [.int .i64 0, .int .i64 0, .bool false, .int .u8 0]) := by kernel_rfl
@[go_sem] theorem eqTy7 : eqTy Try.prog 7 = some [.int .i64, .int .i64, .bool, .int .u8] := by kernel_rfl
@[go_sem] theorem fi7_0 : fieldInfo Try.prog 7 0 = some (0, 2) := by kernel_rfl
@[go_sem] theorem fi7_1 : fieldInfo Try.prog 7 1 = some (1, 3) := by kernel_rfl
@[go_sem] theorem fi7_2 : fieldInfo Try.prog 7 2 = some (2, 4) := by kernel_rfl
@[go_sem] theorem fi7_3 : fieldInfo Try.prog 7 3 = some (3, 6) := by kernel_rfl
@[go_sem] theorem tyStr8 : tyStr Try.prog 8 = false := by kernel_rfl
@[go_sem] theorem tyBool8 : tyBool Try.prog 8 = false := by kernel_rfl
@[go_sem] theorem tyPtr8 : tyPtr Try.prog 8 = false := by kernel_rfl
@[go_sem] theorem tyElem8 : tyElem Try.prog 8 = none := by kernel_rfl
@[go_sem] theorem tyArr8 : tyArr Try.prog 8 = none := by kernel_rfl
@[go_sem] theorem tySize8 : tySize Try.prog 8 = some 4 := by kernel_rfl
@[go_sem] theorem tyAgg8 : tyAgg Try.prog 8 = some true := by kernel_rfl
@[go_sem] theorem tyInt8 : tyInt Try.prog 8 = none := by kernel_rfl
@[go_sem] theorem tyBytes8 : tyBytes Try.prog 8 = 24 := by kernel_rfl
@[go_sem] theorem allSized8 : allSized Try.prog 8 = true := by kernel_rfl
@[go_sem] theorem zeroA8 : zeroA Try.prog 8 = some (.agg [.int .i64 0, .int .i64 0, .bool false, .int .u8 0]) := by kernel_rfl
@[go_sem] theorem eqTy8 : eqTy Try.prog 8 = some [.int .i64, .int .i64, .bool, .int .u8] := by kernel_rfl
@[go_sem] theorem fi8_0 : fieldInfo Try.prog 8 0 = some (0, 2) := by kernel_rfl
@[go_sem] theorem fi8_1 : fieldInfo Try.prog 8 1 = some (1, 3) := by kernel_rfl
@[go_sem] theorem fi8_2 : fieldInfo Try.prog 8 2 = some (2, 4) := by kernel_rfl
@[go_sem] theorem fi8_3 : fieldInfo Try.prog 8 3 = some (3, 6) := by kernel_rfl
@[go_sem] theorem tyStr9 : tyStr Try.prog 9 = true := by kernel_rfl
@[go_sem] theorem tyBool9 : tyBool Try.prog 9 = false := by kernel_rfl
@[go_sem] theorem tyPtr9 : tyPtr Try.prog 9 = false := by kernel_rfl
@[go_sem] theorem tyElem9 : tyElem Try.prog 9 = none := by kernel_rfl
@[go_sem] theorem tyArr9 : tyArr Try.prog 9 = none := by kernel_rfl
@[go_sem] theorem tySize9 : tySize Try.prog 9 = some 1 := by kernel_rfl
@[go_sem] theorem tyAgg9 : tyAgg Try.prog 9 = some false := by kernel_rfl
@[go_sem] theorem tyInt9 : tyInt Try.prog 9 = none := by kernel_rfl
@[go_sem] theorem tyBytes9 : tyBytes Try.prog 9 = 16 := by kernel_rfl
@[go_sem] theorem allSized9 : allSized Try.prog 9 = false := by kernel_rfl
@[go_sem] theorem zeroA9 : zeroA Try.prog 9 = some (.str []) := by kernel_rfl
@[go_sem] theorem eqTy9 : eqTy Try.prog 9 = none := by kernel_rfl
@[go_sem] theorem tyStr10 : tyStr Try.prog 10 = true := by kernel_rfl
@[go_sem] theorem tyBool10 : tyBool Try.prog 10 = false := by kernel_rfl
@[go_sem] theorem tyPtr10 : tyPtr Try.prog 10 = false := by kernel_rfl
@[go_sem] theorem tyElem10 : tyElem Try.prog 10 = none := by kernel_rfl
@[go_sem] theorem tyArr10 : tyArr Try.prog 10 = none := by kernel_rfl
@[go_sem] theorem tySize10 : tySize Try.prog 10 = some 1 := by kernel_rfl
@[go_sem] theorem tyAgg10 : tyAgg Try.prog 10 = some false := by kernel_rfl
@[go_sem] theorem tyInt10 : tyInt Try.prog 10 = none := by kernel_rfl
@[go_sem] theorem tyBytes10 : tyBytes Try.prog 10 = 16 := by kernel_rfl
@[go_sem] theorem allSized10 : allSized Try.prog 10 = false := by kernel_rfl
@[go_sem] theorem zeroA10 : zeroA Try.prog 10 = some (.str []) := by kernel_rfl
@[go_sem] theorem eqTy10 : eqTy Try.prog 10 = none := by kernel_rfl
@[go_sem] theorem tyStr11 : tyStr Try.prog 11 = true := by kernel_rfl
@[go_sem] theorem tyBool11 : tyBool Try.prog 11 = false := by kernel_rfl
@[go_sem] theorem tyPtr11 : tyPtr Try.prog 11 = false := by kernel_rfl
@[go_sem] theorem tyElem11 : tyElem Try.prog 11 = none := by kernel_rfl
@[go_sem] theorem tyArr11 : tyArr Try.prog 11 = none := by kernel_rfl
@[go_sem] theorem tySize11 : tySize Try.prog 11 = some 1 := by kernel_rfl
@[go_sem] theorem tyAgg11 : tyAgg Try.prog 11 = some false := by kernel_rfl
@[go_sem] theorem tyInt11 : tyInt Try.prog 11 = none := by kernel_rfl
@[go_sem] theorem tyBytes11 : tyBytes Try.prog 11 = 16 := by kernel_rfl
@[go_sem] theorem allSized11 : allSized Try.prog 11 = false := by kernel_rfl
@[go_sem] theorem zeroA11 : zeroA Try.prog 11 = some (.str []) := by kernel_rfl
@[go_sem] theorem eqTy11 : eqTy Try.prog 11 = none := by kernel_rfl
@[go_sem] theorem tyStr12 : tyStr Try.prog 12 = false := by kernel_rfl
@[go_sem] theorem tyBool12 : tyBool Try.prog 12 = false := by kernel_rfl
@[go_sem] theorem tyPtr12 : tyPtr Try.prog 12 = false := by kernel_rfl
@[go_sem] theorem tyElem12 : tyElem Try.prog 12 = none := by kernel_rfl
@[go_sem] theorem tyArr12 : tyArr Try.prog 12 = none := by kernel_rfl
@[go_sem] theorem tySize12 : tySize Try.prog 12 = some 1 := by kernel_rfl
@[go_sem] theorem tyAgg12 : tyAgg Try.prog 12 = some false := by kernel_rfl
@[go_sem] theorem tyInt12 : tyInt Try.prog 12 = some .u64 := by kernel_rfl
@[go_sem] theorem tyBytes12 : tyBytes Try.prog 12 = 8 := by kernel_rfl
@[go_sem] theorem allSized12 : allSized Try.prog 12 = false := by kernel_rfl
@[go_sem] theorem zeroA12 : zeroA Try.prog 12 = some (.int .u64 0) := by kernel_rfl
@[go_sem] theorem eqTy12 : eqTy Try.prog 12 = none := by kernel_rfl
@[go_sem] theorem tyStr13 : tyStr Try.prog 13 = false := by kernel_rfl
@[go_sem] theorem tyBool13 : tyBool Try.prog 13 = false := by kernel_rfl
@[go_sem] theorem tyPtr13 : tyPtr Try.prog 13 = false := by kernel_rfl
@[go_sem] theorem tyElem13 : tyElem Try.prog 13 = none := by kernel_rfl
@[go_sem] theorem tyArr13 : tyArr Try.prog 13 = none := by kernel_rfl
@[go_sem] theorem tySize13 : tySize Try.prog 13 = some 2 := by kernel_rfl
@[go_sem] theorem tyAgg13 : tyAgg Try.prog 13 = some true := by kernel_rfl
@[go_sem] theorem tyInt13 : tyInt Try.prog 13 = none := by kernel_rfl
@[go_sem] theorem tyBytes13 : tyBytes Try.prog 13 = 24 := by kernel_rfl
@[go_sem] theorem allSized13 : allSized Try.prog 13 = true := by kernel_rfl
@[go_sem] theorem zeroA13 : zeroA Try.prog 13 = some (.agg [.str [], .int .u64 0]) := by kernel_rfl
@[go_sem] theorem eqTy13 : eqTy Try.prog 13 = none := by kernel_rfl
@[go_sem] theorem fi13_0 : fieldInfo Try.prog 13 0 = some (0, 9) := by kernel_rfl
@[go_sem] theorem fi13_1 : fieldInfo Try.prog 13 1 = some (1, 12) := by kernel_rfl
@[go_sem] theorem tyStr14 : tyStr Try.prog 14 = false := by kernel_rfl
@[go_sem] theorem tyBool14 : tyBool Try.prog 14 = false := by kernel_rfl
@[go_sem] theorem tyPtr14 : tyPtr Try.prog 14 = false := by kernel_rfl
@[go_sem] theorem tyElem14 : tyElem Try.prog 14 = none := by kernel_rfl
@[go_sem] theorem tyArr14 : tyArr Try.prog 14 = none := by kernel_rfl
@[go_sem] theorem tySize14 : tySize Try.prog 14 = some 2 := by kernel_rfl
@[go_sem] theorem tyAgg14 : tyAgg Try.prog 14 = some true := by kernel_rfl
@[go_sem] theorem tyInt14 : tyInt Try.prog 14 = none := by kernel_rfl
@[go_sem] theorem tyBytes14 : tyBytes Try.prog 14 = 24 := by kernel_rfl
@[go_sem] theorem allSized14 : allSized Try.prog 14 = true := by kernel_rfl
@[go_sem] theorem zeroA14 : zeroA Try.prog 14 = some (.agg [.str [], .int .u64 0]) := by kernel_rfl
@[go_sem] theorem eqTy14 : eqTy Try.prog 14 = none := by kernel_rfl
@[go_sem] theorem fi14_0 : fieldInfo Try.prog 14 0 = some (0, 9) := by kernel_rfl
@[go_sem] theorem fi14_1 : fieldInfo Try.prog 14 1 = some (1, 12) := by kernel_rfl
@[go_sem] theorem tyStr15 : tyStr Try.prog 15 = false := by kernel_rfl
@[go_sem] theorem tyBool15 : tyBool Try.prog 15 = false := by kernel_rfl
@[go_sem] theorem tyPtr15 : tyPtr Try.prog 15 = true := by kernel_rfl
@[go_sem] theorem tyElem15 : tyElem Try.prog 15 = none := by kernel_rfl
@[go_sem] theorem tyArr15 : tyArr Try.prog 15 = none := by kernel_rfl
@[go_sem] theorem tySize15 : tySize Try.prog 15 = some 1 := by kernel_rfl
@[go_sem] theorem tyAgg15 : tyAgg Try.prog 15 = some false := by kernel_rfl
@[go_sem] theorem tyInt15 : tyInt Try.prog 15 = none := by kernel_rfl
@[go_sem] theorem tyBytes15 : tyBytes Try.prog 15 = 8 := by kernel_rfl
@[go_sem] theorem allSized15 : allSized Try.prog 15 = false := by kernel_rfl
@[go_sem] theorem zeroA15 : zeroA Try.prog 15 = some .nilp := by kernel_rfl
@[go_sem] theorem eqTy15 : eqTy Try.prog 15 = none := by kernel_rfl
@[go_sem] theorem tyStr16 : tyStr Try.prog 16 = false := by kernel_rfl
@[go_sem] theorem tyBool16 : tyBool Try.prog 16 = false := by kernel_rfl
@[go_sem] theorem tyPtr16 : tyPtr Try.prog 16 = true := by kernel_rfl
@[go_sem] theorem tyElem16 : tyElem Try.prog 16 = none := by kernel_rfl
@[go_sem] theorem tyArr16 : tyArr Try.prog 16 = none := by kernel_rfl
@[go_sem] theorem tySize16 : tySize Try.prog 16 = some 1 := by kernel_rfl
@[go_sem] theorem tyAgg16 : tyAgg Try.prog 16 = some false := by kernel_rfl
@[go_sem] theorem tyInt16 : tyInt Try.prog 16 = none := by kernel_rfl
@[go_sem] theorem tyBytes16 : tyBytes Try.prog 16 = 8 := by kernel_rfl
@[go_sem] theorem allSized16 : allSized Try.prog 16 = false := by kernel_rfl
@[go_sem] theorem zeroA16 : zeroA Try.prog 16 = some .nilp := by kernel_rfl
@[go_sem] theorem eqTy16 : eqTy Try.prog 16 = none := by kernel_rfl
@[go_sem] theorem tyStr17 : tyStr Try.prog 17 = false := by kernel_rfl
@[go_sem] theorem tyBool17 : tyBool Try.prog 17 = false := by kernel_rfl
@[go_sem] theorem tyPtr17 : tyPtr Try.prog 17 = true := by kernel_rfl
@[go_sem] theorem tyElem17 : tyElem Try.prog 17 = none := by kernel_rfl
@[go_sem] theorem tyArr17 : tyArr Try.prog 17 = none := by kernel_rfl
@[go_sem] theorem tySize17 : tySize Try.prog 17 = some 1 := by kernel_rfl
@[go_sem] theorem tyAgg17 : tyAgg Try.prog 17 = some false := by kernel_rfl
@[go_sem] theorem tyInt17 : tyInt Try.prog 17 = none := by kernel_rfl
@[go_sem] theorem tyBytes17 : tyBytes Try.prog 17 = 8 := by kernel_rfl
@[go_sem] theorem allSized17 : allSized Try.prog 17 = false := by kernel_rfl
@[go_sem] theorem zeroA17 : zeroA Try.prog 17 = some .nilp := by kernel_rfl
@[go_sem] theorem eqTy17 : eqTy Try.prog 17 = none := by kernel_rfl
@[go_sem] theorem tyStr18 : tyStr Try.prog 18 = false := by kernel_rfl
@[go_sem] theorem tyBool18 : tyBool Try.prog 18 = false := by kernel_rfl
@[go_sem] theorem tyPtr18 : tyPtr Try.prog 18 = false := by kernel_rfl
@[go_sem] theorem tyElem18 : tyElem Try.prog 18 = none := by kernel_rfl
@[go_sem] theorem tyArr18 : tyArr Try.prog 18 = none := by kernel_rfl
@[go_sem] theorem tySize18 : tySize Try.prog 18 = some 1 := by kernel_rfl
@[go_sem] theorem tyAgg18 : tyAgg Try.prog 18 = some true := by kernel_rfl
@[go_sem] theorem tyInt18 : tyInt Try.prog 18 = none := by kernel_rfl
@[go_sem] theorem tyBytes18 : tyBytes Try.prog 18 = 8 := by kernel_rfl
@[go_sem] theorem allSized18 : allSized Try.prog 18 = true := by kernel_rfl
@[go_sem] theorem zeroA18 : zeroA Try.prog 18 = some (.agg [.nilp]) := by kernel_rfl
@[go_sem] theorem eqTy18 : eqTy Try.prog 18 = none := by kernel_rfl
@[go_sem] theorem fi18_0 : fieldInfo Try.prog 18 0 = some (0, 17) := by kernel_rfl
@[go_sem] theorem tyStr19 : tyStr Try.prog 19 = false := by kernel_rfl
@[go_sem] theorem tyBool19 : tyBool Try.prog 19 = false := by kernel_rfl
@[go_sem] theorem tyPtr19 : tyPtr Try.prog 19 = false := by kernel_rfl
@[go_sem] theorem tyElem19 : tyElem Try.prog 19 = none := by kernel_rfl
@[go_sem] theorem tyArr19 : tyArr Try.prog 19 = none := by kernel_rfl
@[go_sem] theorem tySize19 : tySize Try.prog 19 = some 1 := by kernel_rfl
@[go_sem] theorem tyAgg19 : tyAgg Try.prog 19 = some true := by kernel_rfl
@[go_sem] theorem tyInt19 : tyInt Try.prog 19 = none := by kernel_rfl
@[go_sem] theorem tyBytes19 : tyBytes Try.prog 19 = 8 := by kernel_rfl
@[go_sem] theorem allSized19 : allSized Try.prog 19 = true := by kernel_rfl
@[go_sem] theorem zeroA19 : zeroA Try.prog 19 = some (.agg [.nilp]) := by kernel_rfl
@[go_sem] theorem eqTy19 : eqTy Try.prog 19 = none := by kernel_rfl
@[go_sem] theorem fi19_0 : fieldInfo Try.prog 19 0 = some (0, 17) := by kernel_rfl
@[go_sem] theorem tyStr20 : tyStr Try.prog 20 = false := by kernel_rfl
@[go_sem] theorem tyBool20 : tyBool Try.prog 20 = false := by kernel_rfl
@[go_sem] theorem tyPtr20 : tyPtr Try.prog 20 = false := by kernel_rfl
@[go_sem] theorem tyElem20 : tyElem Try.prog 20 = none := by kernel_rfl
@[go_sem] theorem tyArr20 : tyArr Try.prog 20 = none := by kernel_rfl
@[go_sem] theorem tySize20 : tySize Try.prog 20 = some 1 := by kernel_rfl
@[go_sem] theorem tyAgg20 : tyAgg Try.prog 20 = some false := by kernel_rfl
@[go_sem] theorem tyInt20 : tyInt Try.prog 20 = none := by kernel_rfl
@[go_sem] theorem tyBytes20 : tyBytes Try.prog 20 = 16 := by kernel_rfl
@[go_sem] theorem allSized20 : allSized Try.prog 20 = false := by kernel_rfl
@[go_sem] theorem zeroA20 : zeroA Try.prog 20 = some .any := by kernel_rfl
@[go_sem] theorem eqTy20 : eqTy Try.prog 20 = none := by kernel_rfl
@[go_sem] theorem tyStr21 : tyStr Try.prog 21 = false := by kernel_rfl
@[go_sem] theorem tyBool21 : tyBool Try.prog 21 = false := by kernel_rfl
@[go_sem] theorem tyPtr21 : tyPtr Try.prog 21 = false := by kernel_rfl
@[go_sem] theorem tyElem21 : tyElem Try.prog 21 = none := by kernel_rfl
@[go_sem] theorem tyArr21 : tyArr Try.prog 21 = none := by kernel_rfl
@[go_sem] theorem tySize21 : tySize Try.prog 21 = some 1 := by kernel_rfl
@[go_sem] theorem tyAgg21 : tyAgg Try.prog 21 = some false := by kernel_rfl
@[go_sem] theorem tyInt21 : tyInt Try.prog 21 = some .i32 := by kernel_rfl
@[go_sem] theorem tyBytes21 : tyBytes Try.prog 21 = 4 := by kernel_rfl
@[go_sem] theorem allSized21 : allSized Try.prog 21 = false := by kernel_rfl
@[go_sem] theorem zeroA21 : zeroA Try.prog 21 = some (.int .i32 0) := by kernel_rfl
@[go_sem] theorem eqTy21 : eqTy Try.prog 21 = none := by kernel_rfl
@[go_sem] theorem tyStr22 : tyStr Try.prog 22 = false := by kernel_rfl
@[go_sem] theorem tyBool22 : tyBool Try.prog 22 = false := by kernel_rfl
@[go_sem] theorem tyPtr22 : tyPtr Try.prog 22 = false := by kernel_rfl
@[go_sem] theorem tyElem22 : tyElem Try.prog 22 = some 48 := by kernel_rfl
@[go_sem] theorem tyArr22 : tyArr Try.prog 22 = none := by kernel_rfl
@[go_sem] theorem tySize22 : tySize Try.prog 22 = some 1 := by kernel_rfl
@[go_sem] theorem tyAgg22 : tyAgg Try.prog 22 = some false := by kernel_rfl
@[go_sem] theorem tyInt22 : tyInt Try.prog 22 = none := by kernel_rfl
@[go_sem] theorem tyBytes22 : tyBytes Try.prog 22 = 24 := by kernel_rfl
@[go_sem] theorem allSized22 : allSized Try.prog 22 = false := by kernel_rfl
@[go_sem] theorem zeroA22 : zeroA Try.prog 22 = some .nils := by kernel_rfl
@[go_sem] theorem eqTy22 : eqTy Try.prog 22 = none := by kernel_rfl
@[go_sem] theorem tyStr23 : tyStr Try.prog 23 = false := by kernel_rfl
@[go_sem] theorem tyBool23 : tyBool Try.prog 23 = false := by kernel_rfl
@[go_sem] theorem tyPtr23 : tyPtr Try.prog 23 = false := by kernel_rfl
@[go_sem] theorem tyElem23 : tyElem Try.prog 23 = none := by kernel_rfl
@[go_sem] theorem tyArr23 : tyArr Try.prog 23 = none := by kernel_rfl
@[go_sem] theorem tySize23 : tySize Try.prog 23 = some 1 := by kernel_rfl
@[go_sem] theorem tyAgg23 : tyAgg Try.prog 23 = some false := by kernel_rfl
@[go_sem] theorem tyInt23 : tyInt Try.prog 23 = none := by kernel_rfl
@[go_sem] theorem tyBytes23 : tyBytes Try.prog 23 = 8 := by kernel_rfl
@[go_sem] theorem allSized23 : allSized Try.prog 23 = false := by kernel_rfl
@[go_sem] theorem zeroA23 : zeroA Try.prog 23 = some .any := by kernel_rfl
@[go_sem] theorem eqTy23 : eqTy Try.prog 23 = none := by kernel_rfl
@[go_sem] theorem tyStr24 : tyStr Try.prog 24 = false := by kernel_rfl
@[go_sem] theorem tyBool24 : tyBool Try.prog 24 = false := by kernel_rfl
@[go_sem] theorem tyPtr24 : tyPtr Try.prog 24 = false := by kernel_rfl
@[go_sem] theorem tyElem24 : tyElem Try.prog 24 = none := by kernel_rfl
@[go_sem] theorem tyArr24 : tyArr Try.prog 24 = none := by kernel_rfl
@[go_sem] theorem tySize24 : tySize Try.prog 24 = some 1 := by kernel_rfl
@[go_sem] theorem tyAgg24 : tyAgg Try.prog 24 = some false := by kernel_rfl
@[go_sem] theorem tyInt24 : tyInt Try.prog 24 = none := by kernel_rfl
@[go_sem] theorem tyBytes24 : tyBytes Try.prog 24 = 8 := by kernel_rfl
@[go_sem] theorem allSized24 : allSized Try.prog 24 = false := by kernel_rfl
@[go_sem] theorem zeroA24 : zeroA Try.prog 24 = some .any := by kernel_rfl
@[go_sem] theorem eqTy24 : eqTy Try.prog 24 = none := by kernel_rfl
@[go_sem] theorem tyStr25 : tyStr Try.prog 25 = false := by kernel_rfl
@[go_sem] theorem tyBool25 : tyBool Try.prog 25 = false := by kernel_rfl
@[go_sem] theorem tyPtr25 : tyPtr Try.prog 25 = false := by kernel_rfl
@[go_sem] theorem tyElem25 : tyElem Try.prog 25 = none := by kernel_rfl
@[go_sem] theorem tyArr25 : tyArr Try.prog 25 = some (16, 3) := by kernel_rfl
@[go_sem] theorem tySize25 : tySize Try.prog 25 = some 16 := by kernel_rfl
@[go_sem] theorem tyAgg25 : tyAgg Try.prog 25 = some true := by kernel_rfl
@[go_sem] theorem tyInt25 : tyInt Try.prog 25 = none := by kernel_rfl
@[go_sem] theorem tyBytes25 : tyBytes Try.prog 25 = 128 := by kernel_rfl
@[go_sem] theorem allSized25 : allSized Try.prog 25 = false := by kernel_rfl
@[go_sem] theorem zeroA25 : zeroA Try.prog 25 = some (.agg [.int .i64 0, .int .i64 0, .int .i64 0, .int .i64 0, .int .i64 0, .int .i64 0, .int .i64 0, .int .i64 0, .int .i64 0, .int .i64 0, .int .i64 0, .int .i64 0, .int .i64 0, .int .i64 0, .int .i64 0, .int .i64 0]) := by kernel_rfl
@[go_sem] theorem eqTy25 : eqTy Try.prog 25 = none := by kernel_rfl
@[go_sem] theorem tyStr26 : tyStr Try.prog 26 = false := by kernel_rfl
@[go_sem] theorem tyBool26 : tyBool Try.prog 26 = false := by kernel_rfl
@[go_sem] theorem tyPtr26 : tyPtr Try.prog 26 = false := by kernel_rfl
@[go_sem] theorem tyElem26 : tyElem Try.prog 26 = none := by kernel_rfl
@[go_sem] theorem tyArr26 : tyArr Try.prog 26 = none := by kernel_rfl
@[go_sem] theorem tySize26 : tySize Try.prog 26 = some 1 := by kernel_rfl
@[go_sem] theorem tyAgg26 : tyAgg Try.prog 26 = some false := by kernel_rfl
@[go_sem] theorem tyInt26 : tyInt Try.prog 26 = none := by kernel_rfl
@[go_sem] theorem tyBytes26 : tyBytes Try.prog 26 = 8 := by kernel_rfl
@[go_sem] theorem allSized26 : allSized Try.prog 26 = false := by kernel_rfl
@[go_sem] theorem zeroA26 : zeroA Try.prog 26 = some .any := by kernel_rfl
@[go_sem] theorem eqTy26 : eqTy Try.prog 26 = none := by kernel_rfl
@[go_sem] theorem tyStr27 : tyStr Try.prog 27 = false := by kernel_rfl
@[go_sem] theorem tyBool27 : tyBool Try.prog 27 = false := by kernel_rfl
@[go_sem] theorem tyPtr27 : tyPtr Try.prog 27 = false := by kernel_rfl
@[go_sem] theorem tyElem27 : tyElem Try.prog 27 = some 31 := by kernel_rfl
@[go_sem] theorem tyArr27 : tyArr Try.prog 27 = none := by kernel_rfl
@[go_sem] theorem tySize27 : tySize Try.prog 27 = some 1 := by kernel_rfl
@[go_sem] theorem tyAgg27 : tyAgg Try.prog 27 = some false := by kernel_rfl
@[go_sem] theorem tyInt27 : tyInt Try.prog 27 = none := by kernel_rfl
@[go_sem] theorem tyBytes27 : tyBytes Try.prog 27 = 24 := by kernel_rfl
@[go_sem] theorem allSized27 : allSized Try.prog 27 = false := by kernel_rfl
@[go_sem] theorem zeroA27 : zeroA Try.prog 27 = some .nils := by kernel_rfl
@[go_sem] theorem eqTy27 : eqTy Try.prog 27 = none := by kernel_rfl
@[go_sem] theorem tyStr28 : tyStr Try.prog 28 = false := by kernel_rfl
@[go_sem] theorem tyBool28 : tyBool Try.prog 28 = false := by kernel_rfl
@[go_sem] theorem tyPtr28 : tyPtr Try.prog 28 = false := by kernel_rfl
@[go_sem] theorem tyElem28 : tyElem Try.prog 28 = none := by kernel_rfl
@[go_sem] theorem tyArr28 : tyArr Try.prog 28 = none := by kernel_rfl
@[go_sem] theorem tySize28 : tySize Try.prog 28 = some 1 := by kernel_rfl
@[go_sem] theorem tyAgg28 : tyAgg Try.prog 28 = some false := by kernel_rfl
@[go_sem] theorem tyInt28 : tyInt Try.prog 28 = none := by kernel_rfl
@[go_sem] theorem tyBytes28 : tyBytes Try.prog 28 = 8 := by kernel_rfl
@[go_sem] theorem allSized28 : allSized Try.prog 28 = false := by kernel_rfl
@[go_sem] theorem zeroA28 : zeroA Try.prog 28 = some .any := by kernel_rfl
@[go_sem] theorem eqTy28 : eqTy Try.prog 28 = none := by kernel_rfl
@[go_sem] theorem tyStr29 : tyStr Try.prog 29 = false := by kernel_rfl
@[go_sem] theorem tyBool29 : tyBool Try.prog 29 = false := by kernel_rfl
@[go_sem] theorem tyPtr29 : tyPtr Try.prog 29 = false := by kernel_rfl
@[go_sem] theorem tyElem29 : tyElem Try.prog 29 = none := by kernel_rfl
@[go_sem] theorem tyArr29 : tyArr Try.prog 29 = none := by kernel_rfl
@[go_sem] theorem tySize29 : tySize Try.prog 29 = some 1 := by kernel_rfl
@[go_sem] theorem tyAgg29 : tyAgg Try.prog 29 = some false := by kernel_rfl
@[go_sem] theorem tyInt29 : tyInt Try.prog 29 = none := by kernel_rfl
@[go_sem] theorem tyBytes29 : tyBytes Try.prog 29 = 8 := by kernel_rfl
@[go_sem] theorem allSized29 : allSized Try.prog 29 = false := by kernel_rfl
@[go_sem] theorem zeroA29 : zeroA Try.prog 29 = some .any := by kernel_rfl
@[go_sem] theorem eqTy29 : eqTy Try.prog 29 = none := by kernel_rfl
@[go_sem] theorem tyStr30 : tyStr Try.prog 30 = false := by kernel_rfl
@[go_sem] theorem tyBool30 : tyBool Try.prog 30 = false := by kernel_rfl
@[go_sem] theorem tyPtr30 : tyPtr Try.prog 30 = false := by kernel_rfl
@[go_sem] theorem tyElem30 : tyElem Try.prog 30 = none := by kernel_rfl
@[go_sem] theorem tyArr30 : tyArr Try.prog 30 = none := by kernel_rfl
@[go_sem] theorem tySize30 : tySize Try.prog 30 = some 2 := by kernel_rfl
@[go_sem] theorem tyAgg30 : tyAgg Try.prog 30 = some true := by kernel_rfl
@[go_sem] theorem tyInt30 : tyInt Try.prog 30 = none := by kernel_rfl
@[go_sem] theorem tyBytes30 : tyBytes Try.prog 30 = 16 := by kernel_rfl
@[go_sem] theorem allSized30 : allSized Try.prog 30 = true := by kernel_rfl
@[go_sem] theorem zeroA30 : zeroA Try.prog 30 = some (.agg [.int .i64 0, .int .i64 0]) := by kernel_rfl
@[go_sem] theorem eqTy30 : eqTy Try.prog 30 = some [.int .i64, .int .i64] := by kernel_rfl
@[go_sem] theorem fi30_0 : fieldInfo Try.prog 30 0 = some (0, 3) := by kernel_rfl
@[go_sem] theorem fi30_1 : fieldInfo Try.prog 30 1 = some (1, 3) := by kernel_rfl
@[go_sem] theorem tyStr31 : tyStr Try.prog 31 = false := by kernel_rfl
@[go_sem] theorem tyBool31 : tyBool Try.prog 31 = false := by kernel_rfl
@[go_sem] theorem tyPtr31 : tyPtr Try.prog 31 = false := by kernel_rfl
@[go_sem] theorem tyElem31 : tyElem Try.prog 31 = none := by kernel_rfl
@[go_sem] theorem tyArr31 : tyArr Try.prog 31 = none := by kernel_rfl
@[go_sem] theorem tySize31 : tySize Try.prog 31 = some 2 := by kernel_rfl
@[go_sem] theorem tyAgg31 : tyAgg Try.prog 31 = some true := by kernel_rfl
@[go_sem] theorem tyInt31 : tyInt Try.prog 31 = none := by kernel_rfl
@[go_sem] theorem tyBytes31 : tyBytes Try.prog 31 = 16 := by kernel_rfl
@[go_sem] theorem allSized31 : allSized Try.prog 31 = true := by kernel_rfl
@[go_sem] theorem zeroA31 : zeroA Try.prog 31 = some (.agg [.int .i64 0, .int .i64 0]) := by kernel_rfl
@[go_sem] theorem eqTy31 : eqTy Try.prog 31 = some [.int .i64, .int .i64] := by kernel_rfl
@[go_sem] theorem fi31_0 : fieldInfo Try.prog 31 0 = some (0, 3) := by kernel_rfl
@[go_sem] theorem fi31_1 : fieldInfo Try.prog 31 1 = some (1, 3) := by kernel_rfl
@[go_sem] theorem tyStr32 : tyStr Try.prog 32 = false := by kernel_rfl
@[go_sem] theorem tyBool32 : tyBool Try.prog 32 = false := by kernel_rfl
@[go_sem] theorem tyPtr32 : tyPtr Try.prog 32 = false := by kernel_rfl
@[go_sem] theorem tyElem32 : tyElem Try.prog 32 = none := by kernel_rfl
@[go_sem] theorem tyArr32 : tyArr Try.prog 32 = none := by kernel_rfl
@[go_sem] theorem tySize32 : tySize Try.prog 32 = some 1 := by kernel_rfl
@[go_sem] theorem tyAgg32 : tyAgg Try.prog 32 = some false := by kernel_rfl
@[go_sem] theorem tyInt32 : tyInt Try.prog 32 = none := by kernel_rfl
@[go_sem] theorem tyBytes32 : tyBytes Try.prog 32 = 8 := by kernel_rfl
@[go_sem] theorem allSized32 : allSized Try.prog 32 = false := by kernel_rfl
@[go_sem] theorem zeroA32 : zeroA Try.prog 32 = some .any := by kernel_rfl
@[go_sem] theorem eqTy32 : eqTy Try.prog 32 = none := by kernel_rfl
@[go_sem] theorem tyStr33 : tyStr Try.prog 33 = false := by kernel_rfl
@[go_sem] theorem tyBool33 : tyBool Try.prog 33 = false := by kernel_rfl
@[go_sem] theorem tyPtr33 : tyPtr Try.prog 33 = false := by kernel_rfl
@[go_sem] theorem tyElem33 : tyElem Try.prog 33 = some 35 := by kernel_rfl
@[go_sem] theorem tyArr33 : tyArr Try.prog 33 = none := by kernel_rfl
@[go_sem] theorem tySize33 : tySize Try.prog 33 = some 1 := by kernel_rfl
@[go_sem] theorem tyAgg33 : tyAgg Try.prog 33 = some false := by kernel_rfl
@[go_sem] theorem tyInt33 : tyInt Try.prog 33 = none := by kernel_rfl
@[go_sem] theorem tyBytes33 : tyBytes Try.prog 33 = 24 := by kernel_rfl
@[go_sem] theorem allSized33 : allSized Try.prog 33 = false := by kernel_rfl
@[go_sem] theorem zeroA33 : zeroA Try.prog 33 = some .nils := by kernel_rfl
@[go_sem] theorem eqTy33 : eqTy Try.prog 33 = none := by kernel_rfl
@[go_sem] theorem tyStr34 : tyStr Try.prog 34 = false := by kernel_rfl
@[go_sem] theorem tyBool34 : tyBool Try.prog 34 = false := by kernel_rfl
@[go_sem] theorem tyPtr34 : tyPtr Try.prog 34 = false := by kernel_rfl
@[go_sem] theorem tyElem34 : tyElem Try.prog 34 = none := by kernel_rfl
@[go_sem] theorem tyArr34 : tyArr Try.prog 34 = none := by kernel_rfl
@[go_sem] theorem tySize34 : tySize Try.prog 34 = some 2 := by kernel_rfl
@[go_sem] theorem tyAgg34 : tyAgg Try.prog 34 = some true := by kernel_rfl
@[go_sem] theorem tyInt34 : tyInt Try.prog 34 = none := by kernel_rfl
@[go_sem] theorem tyBytes34 : tyBytes Try.prog 34 = 16 := by kernel_rfl
@[go_sem] theorem allSized34 : allSized Try.prog 34 = true := by kernel_rfl
@[go_sem] theorem zeroA34 : zeroA Try.prog 34 = some (.agg [.int .i64 0, .int .i64 0]) := by kernel_rfl
@[go_sem] theorem eqTy34 : eqTy Try.prog 34 = some [.int .i64, .int .i64] := by kernel_rfl
@[go_sem] theorem fi34_0 : fieldInfo Try.prog 34 0 = some (0, 3) := by kernel_rfl
@[go_sem] theorem fi34_1 : fieldInfo Try.prog 34 1 = some (1, 3) := by kernel_rfl
@[go_sem] theorem tyStr35 : tyStr Try.prog 35 = false := by kernel_rfl
@[go_sem] theorem tyBool35 : tyBool Try.prog 35 = false := by kernel_rfl
@[go_sem] theorem tyPtr35 : tyPtr Try.prog 35 = false := by kernel_rfl
@[go_sem] theorem tyElem35 : tyElem Try.prog 35 = none := by kernel_rfl
@[go_sem] theorem tyArr35 : tyArr Try.prog 35 = none := by kernel_rfl
@[go_sem] theorem tySize35 : tySize Try.prog 35 = some 2 := by kernel_rfl
@[go_sem] theorem tyAgg35 : tyAgg Try.prog 35 = some true := by kernel_rfl
@[go_sem] theorem tyInt35 : tyInt Try.prog 35 = none := by kernel_rfl
@[go_sem] theorem tyBytes35 : tyBytes Try.prog 35 = 16 := by kernel_rfl
@[go_sem] theorem allSized35 : allSized Try.prog 35 = true := by kernel_rfl
@[go_sem] theorem zeroA35 : zeroA Try.prog 35 = some (.agg [.int .i64 0, .int .i64 0]) := by kernel_rfl
@[go_sem] theorem eqTy35 : eqTy Try.prog 35 = some [.int .i64, .int .i64] := by kernel_rfl
@[go_sem] theorem fi35_0 : fieldInfo Try.prog 35 0 = some (0, 3) := by kernel_rfl
@[go_sem] theorem fi35_1 : fieldInfo Try.prog 35 1 = some (1, 3) := by kernel_rfl
@[go_sem] theorem tyStr36 : tyStr Try.prog 36 = false := by kernel_rfl
@[go_sem] theorem tyBool36 : tyBool Try.prog 36 = false := by kernel_rfl
@[go_sem] theorem tyPtr36 : tyPtr Try.prog 36 = false := by kernel_rfl
@[go_sem] theorem tyElem36 : tyElem Try.prog 36 = none := by kernel_rfl
@[go_sem] theorem tyArr36 : tyArr Try.prog 36 = none := by kernel_rfl
@[go_sem] theorem tySize36 : tySize Try.prog 36 = some 1 := by kernel_rfl
@[go_sem] theorem tyAgg36 : tyAgg Try.prog 36 = some false := by kernel_rfl
@[go_sem] theorem tyInt36 : tyInt Try.prog 36 = none := by kernel_rfl
@[go_sem] theorem tyBytes36 : tyBytes Try.prog 36 = 8 := by kernel_rfl
@[go_sem] theorem allSized36 : allSized Try.prog 36 = false := by kernel_rfl
@[go_sem] theorem zeroA36 : zeroA Try.prog 36 = some .any := by kernel_rfl
@[go_sem] theorem eqTy36 : eqTy Try.prog 36 = none := by kernel_rfl
@[go_sem] theorem tyStr37 : tyStr Try.prog 37 = false := by kernel_rfl
@[go_sem] theorem tyBool37 : tyBool Try.prog 37 = false := by kernel_rfl
@[go_sem] theorem tyPtr37 : tyPtr Try.prog 37 = false := by kernel_rfl
@[go_sem] theorem tyElem37 : tyElem Try.prog 37 = none := by kernel_rfl
@[go_sem] theorem tyArr37 : tyArr Try.prog 37 = none := by kernel_rfl
@[go_sem] theorem tySize37 : tySize Try.prog 37 = some 1 := by kernel_rfl
@[go_sem] theorem tyAgg37 : tyAgg Try.prog 37 = some false := by kernel_rfl
@[go_sem] theorem tyInt37 : tyInt Try.prog 37 = none := by kernel_rfl
@[go_sem] theorem tyBytes37 : tyBytes Try.prog 37 = 8 := by kernel_rfl
@[go_sem] theorem allSized37 : allSized Try.prog 37 = false := by kernel_rfl
@[go_sem] theorem zeroA37 : zeroA Try.prog 37 = some .any := by kernel_rfl
@[go_sem] theorem eqTy37 : eqTy Try.prog 37 = none := by kernel_rfl
@[go_sem] theorem tyStr38 : tyStr Try.prog 38 = false := by kernel_rfl
@[go_sem] theorem tyBool38 : tyBool Try.prog 38 = false := by kernel_rfl
@[go_sem] theorem tyPtr38 : tyPtr Try.prog 38 = false := by kernel_rfl
@[go_sem] theorem tyElem38 : tyElem Try.prog 38 = none := by kernel_rfl
@[go_sem] theorem tyArr38 : tyArr Try.prog 38 = none := by kernel_rfl
@[go_sem] theorem tySize38 : tySize Try.prog 38 = some 1 := by kernel_rfl
@[go_sem] theorem tyAgg38 : tyAgg Try.prog 38 = some false := by kernel_rfl
@[go_sem] theorem tyInt38 : tyInt Try.prog 38 = none := by kernel_rfl
@[go_sem] theorem tyBytes38 : tyBytes Try.prog 38 = 8 := by kernel_rfl
@[go_sem] theorem allSized38 : allSized Try.prog 38 = false := by kernel_rfl
@[go_sem] theorem zeroA38 : zeroA Try.prog 38 = some .any := by kernel_rfl
@[go_sem] theorem eqTy38 : eqTy Try.prog 38 = none := by kernel_rfl
@[go_sem] theorem tyStr39 : tyStr Try.prog 39 = false := by kernel_rfl
@[go_sem] theorem tyBool39 : tyBool Try.prog 39 = false := by kernel_rfl
@[go_sem] theorem tyPtr39 : tyPtr Try.prog 39 = false := by kernel_rfl
@[go_sem] theorem tyElem39 : tyElem Try.prog 39 = none := by kernel_rfl
@[go_sem] theorem tyArr39 : tyArr Try.prog 39 = none := by kernel_rfl
@[go_sem] theorem tySize39 : tySize Try.prog 39 = some 1 := by kernel_rfl
@[go_sem] theorem tyAgg39 : tyAgg Try.prog 39 = some false := by kernel_rfl
@[go_sem] theorem tyInt39 : tyInt Try.prog 39 = none := by kernel_rfl
@[go_sem] theorem tyBytes39 : tyBytes Try.prog 39 = 8 := by kernel_rfl
@[go_sem] theorem allSized39 : allSized Try.prog 39 = false := by kernel_rfl
@[go_sem] theorem zeroA39 : zeroA Try.prog 39 = some .any := by kernel_rfl
@[go_sem] theorem eqTy39 : eqTy Try.prog 39 = none := by kernel_rfl
@[go_sem] theorem tyStr40 : tyStr Try.prog 40 = false := by kernel_rfl
@[go_sem] theorem tyBool40 : tyBool Try.prog 40 = false := by kernel_rfl
@[go_sem] theorem tyPtr40 : tyPtr Try.prog 40 = false := by kernel_rfl
@[go_sem] theorem tyElem40 : tyElem Try.prog 40 = none := by kernel_rfl
@[go_sem] theorem tyArr40 : tyArr Try.prog 40 = none := by kernel_rfl
@[go_sem] theorem tySize40 : tySize Try.prog 40 = some 1 := by kernel_rfl
@[go_sem] theorem tyAgg40 : tyAgg Try.prog 40 = some false := by kernel_rfl
@[go_sem] theorem tyInt40 : tyInt Try.prog 40 = none := by kernel_rfl
@[go_sem] theorem tyBytes40 : tyBytes Try.prog 40 = 8 := by kernel_rfl
@[go_sem] theorem allSized40 : allSized Try.prog 40 = false := by kernel_rfl
@[go_sem] theorem zeroA40 : zeroA Try.prog 40 = some .any := by kernel_rfl
@[go_sem] theorem eqTy40 : eqTy Try.prog 40 = none := by kernel_rfl
@[go_sem] theorem tyStr41 : tyStr Try.prog 41 = false := by kernel_rfl
@[go_sem] theorem tyBool41 : tyBool Try.prog 41 = false := by kernel_rfl
@[go_sem] theorem tyPtr41 : tyPtr Try.prog 41 = false := by kernel_rfl
@[go_sem] theorem tyElem41 : tyElem Try.prog 41 = none := by kernel_rfl
@[go_sem] theorem tyArr41 : tyArr Try.prog 41 = none := by kernel_rfl
@[go_sem] theorem tySize41 : tySize Try.prog 41 = some 1 := by kernel_rfl
@[go_sem] theorem tyAgg41 : tyAgg Try.prog 41 = some false := by kernel_rfl
@[go_sem] theorem tyInt41 : tyInt Try.prog 41 = none := by kernel_rfl
@[go_sem] theorem tyBytes41 : tyBytes Try.prog 41 = 8 := by kernel_rfl
@[go_sem] theorem allSized41 : allSized Try.prog 41 = false := by kernel_rfl
@[go_sem] theorem zeroA41 : zeroA Try.prog 41 = some .any := by kernel_rfl
@[go_sem] theorem eqTy41 : eqTy Try.prog 41 = none := by kernel_rfl
@[go_sem] theorem tyStr42 : tyStr Try.prog 42 = false := by kernel_rfl
@[go_sem] theorem tyBool42 : tyBool Try.prog 42 = false := by kernel_rfl
@[go_sem] theorem tyPtr42 : tyPtr Try.prog 42 = false := by kernel_rfl
@[go_sem] theorem tyElem42 : tyElem Try.prog 42 = none := by kernel_rfl
@[go_sem] theorem tyArr42 : tyArr Try.prog 42 = none := by kernel_rfl
@[go_sem] theorem tySize42 : tySize Try.prog 42 = some 1 := by kernel_rfl
@[go_sem] theorem tyAgg42 : tyAgg Try.prog 42 = some false := by kernel_rfl
@[go_sem] theorem tyInt42 : tyInt Try.prog 42 = none := by kernel_rfl
@[go_sem] theorem tyBytes42 : tyBytes Try.prog 42 = 8 := by kernel_rfl
@[go_sem] theorem allSized42 : allSized Try.prog 42 = false := by kernel_rfl
@[go_sem] theorem zeroA42 : zeroA Try.prog 42 = some .any := by kernel_rfl
@[go_sem] theorem eqTy42 : eqTy Try.prog 42 = none := by kernel_rfl
@[go_sem] theorem tyStr43 : tyStr Try.prog 43 = false := by kernel_rfl
@[go_sem] theorem tyBool43 : tyBool Try.prog 43 = false := by kernel_rfl
@[go_sem] theorem tyPtr43 : tyPtr Try.prog 43 = false := by kernel_rfl
@[go_sem] theorem tyElem43 : tyElem Try.prog 43 = none := by kernel_rfl
@[go_sem] theorem tyArr43 : tyArr Try.prog 43 = none := by kernel_rfl
@[go_sem] theorem tySize43 : tySize Try.prog 43 = some 1 := by kernel_rfl
@[go_sem] theorem tyAgg43 : tyAgg Try.prog 43 = some false := by kernel_rfl
@[go_sem] theorem tyInt43 : tyInt Try.prog 43 = none := by kernel_rfl
@[go_sem] theorem tyBytes43 : tyBytes Try.prog 43 = 8 := by kernel_rfl
@[go_sem] theorem allSized43 : allSized Try.prog 43 = false := by kernel_rfl
@[go_sem] theorem zeroA43 : zeroA Try.prog 43 = some .any := by kernel_rfl
@[go_sem] theorem eqTy43 : eqTy Try.prog 43 = none := by kernel_rfl
@[go_sem] theorem tyStr44 : tyStr Try.prog 44 = false := by kernel_rfl
@[go_sem] theorem tyBool44 : tyBool Try.prog 44 = false := by kernel_rfl
@[go_sem] theorem tyPtr44 : tyPtr Try.prog 44 = false := by kernel_rfl
@[go_sem] theorem tyElem44 : tyElem Try.prog 44 = none := by kernel_rfl
@[go_sem] theorem tyArr44 : tyArr Try.prog 44 = none := by kernel_rfl
@[go_sem] theorem tySize44 : tySize Try.prog 44 = some 1 := by kernel_rfl
@[go_sem] theorem tyAgg44 : tyAgg Try.prog 44 = some false := by kernel_rfl
@[go_sem] theorem tyInt44 : tyInt Try.prog 44 = none := by kernel_rfl
@[go_sem] theorem tyBytes44 : tyBytes Try.prog 44 = 8 := by kernel_rfl
@[go_sem] theorem allSized44 : allSized Try.prog 44 = false := by kernel_rfl
@[go_sem] theorem zeroA44 : zeroA Try.prog 44 = some .any := by kernel_rfl
@[go_sem] theorem eqTy44 : eqTy Try.prog 44 = none := by kernel_rfl
@[go_sem] theorem tyStr45 : tyStr Try.prog 45 = false := by kernel_rfl
@[go_sem] theorem tyBool45 : tyBool Try.prog 45 = false := by kernel_rfl
@[go_sem] theorem tyPtr45 : tyPtr Try.prog 45 = false := by kernel_rfl
@[go_sem] theorem tyElem45 : tyElem Try.prog 45 = none := by kernel_rfl
@[go_sem] theorem tyArr45 : tyArr Try.prog 45 = none := by kernel_rfl
@[go_sem] theorem tySize45 : tySize Try.prog 45 = some 1 := by kernel_rfl
@[go_sem] theorem tyAgg45 : tyAgg Try.prog 45 = some false := by kernel_rfl
@[go_sem] theorem tyInt45 : tyInt Try.prog 45 = none := by kernel_rfl
@[go_sem] theorem tyBytes45 : tyBytes Try.prog 45 = 8 := by kernel_rfl
@[go_sem] theorem allSized45 : allSized Try.prog 45 = false := by kernel_rfl
@[go_sem] theorem zeroA45 : zeroA Try.prog 45 = some .any := by kernel_rfl
@[go_sem] theorem eqTy45 : eqTy Try.prog 45 = none := by kernel_rfl
@[go_sem] theorem tyStr46 : tyStr Try.prog 46 = false := by kernel_rfl
@[go_sem] theorem tyBool46 : tyBool Try.prog 46 = false := by kernel_rfl
@[go_sem] theorem tyPtr46 : tyPtr Try.prog 46 = false := by kernel_rfl
@[go_sem] theorem tyElem46 : tyElem Try.prog 46 = none := by kernel_rfl
@[go_sem] theorem tyArr46 : tyArr Try.prog 46 = none := by kernel_rfl
@[go_sem] theorem tySize46 : tySize Try.prog 46 = some 1 := by kernel_rfl
@[go_sem] theorem tyAgg46 : tyAgg Try.prog 46 = some false := by kernel_rfl
@[go_sem] theorem tyInt46 : tyInt Try.prog 46 = none := by kernel_rfl
@[go_sem] theorem tyBytes46 : tyBytes Try.prog 46 = 8 := by kernel_rfl
@[go_sem] theorem allSized46 : allSized Try.prog 46 = false := by kernel_rfl
@[go_sem] theorem zeroA46 : zeroA Try.prog 46 = some .any := by kernel_rfl
@[go_sem] theorem eqTy46 : eqTy Try.prog 46 = none := by kernel_rfl
@[go_sem] theorem tyStr47 : tyStr Try.prog 47 = false := by kernel_rfl
@[go_sem] theorem tyBool47 : tyBool Try.prog 47 = false := by kernel_rfl
@[go_sem] theorem tyPtr47 : tyPtr Try.prog 47 = false := by kernel_rfl
@[go_sem] theorem tyElem47 : tyElem Try.prog 47 = none := by kernel_rfl
@[go_sem] theorem tyArr47 : tyArr Try.prog 47 = none := by kernel_rfl
@[go_sem] theorem tySize47 : tySize Try.prog 47 = some 2 := by kernel_rfl
@[go_sem] theorem tyAgg47 : tyAgg Try.prog 47 = some true := by kernel_rfl
@[go_sem] theorem tyInt47 : tyInt Try.prog 47 = none := by kernel_rfl
@[go_sem] theorem tyBytes47 : tyBytes Try.prog 47 = 32 := by kernel_rfl
@[go_sem] theorem allSized47 : allSized Try.prog 47 = true := by kernel_rfl
@[go_sem] theorem zeroA47 : zeroA Try.prog 47 = some (.agg [.int .i64 0, .nils]) := by kernel_rfl
@[go_sem] theorem eqTy47 : eqTy Try.prog 47 = none := by kernel_rfl
@[go_sem] theorem fi47_0 : fieldInfo Try.prog 47 0 = some (0, 3) := by kernel_rfl
@[go_sem] theorem fi47_1 : fieldInfo Try.prog 47 1 = some (1, 27) := by kernel_rfl
@[go_sem] theorem tyStr48 : tyStr Try.prog 48 = false := by kernel_rfl
@[go_sem] theorem tyBool48 : tyBool Try.prog 48 = false := by kernel_rfl
@[go_sem] theorem tyPtr48 : tyPtr Try.prog 48 = false := by kernel_rfl
@[go_sem] theorem tyElem48 : tyElem Try.prog 48 = none := by kernel_rfl
@[go_sem] theorem tyArr48 : tyArr Try.prog 48 = none := by kernel_rfl
@[go_sem] theorem tySize48 : tySize Try.prog 48 = some 2 := by kernel_rfl
@[go_sem] theorem tyAgg48 : tyAgg Try.prog 48 = some true := by kernel_rfl
@[go_sem] theorem tyInt48 : tyInt Try.prog 48 = none := by kernel_rfl
@[go_sem] theorem tyBytes48 : tyBytes Try.prog 48 = 32 := by kernel_rfl
@[go_sem] theorem allSized48 : allSized Try.prog 48 = true := by kernel_rfl
@[go_sem] theorem zeroA48 : zeroA Try.prog 48 = some (.agg [.int .i64 0, .nils]) := by kernel_rfl
@[go_sem] theorem eqTy48 : eqTy Try.prog 48 = none := by kernel_rfl
@[go_sem] theorem fi48_0 : fieldInfo Try.prog 48 0 = some (0, 3) := by kernel_rfl
@[go_sem] theorem fi48_1 : fieldInfo Try.prog 48 1 = some (1, 27) := by kernel_rfl
@[go_sem] theorem tyStr49 : tyStr Try.prog 49 = false := by kernel_rfl
@[go_sem] theorem tyBool49 : tyBool Try.prog 49 = false := by kernel_rfl
@[go_sem] theorem tyPtr49 : tyPtr Try.prog 49 = false := by kernel_rfl
@[go_sem] theorem tyElem49 : tyElem Try.prog 49 = none := by kernel_rfl
@[go_sem] theorem tyArr49 : tyArr Try.prog 49 = some (16, 27) := by kernel_rfl
@[go_sem] theorem tySize49 : tySize Try.prog 49 = some 16 := by kernel_rfl
@[go_sem] theorem tyAgg49 : tyAgg Try.prog 49 = some true := by kernel_rfl
@[go_sem] theorem tyInt49 : tyInt Try.prog 49 = none := by kernel_rfl
@[go_sem] theorem tyBytes49 : tyBytes Try.prog 49 = 384 := by kernel_rfl
@[go_sem] theorem allSized49 : allSized Try.prog 49 = false := by kernel_rfl
@[go_sem] theorem zeroA49 : zeroA Try.prog 49 = some (.agg [.nils, .nils, .nils, .nils, .nils, .nils, .nils, .nils, .nils, .nils, .nils, .nils, .nils, .nils, .nils, .nils]) := by kernel_rfl
@[go_sem] theorem eqTy49 : eqTy Try.prog 49 = none := by kernel_rfl
@[go_sem] theorem tyStr50 : tyStr Try.prog 50 = false := by kernel_rfl
@[go_sem] theorem tyBool50 : tyBool Try.prog 50 = false := by kernel_rfl
@[go_sem] theorem tyPtr50 : tyPtr Try.prog 50 = false := by kernel_rfl
@[go_sem] theorem tyElem50 : tyElem Try.prog 50 = none := by kernel_rfl
@[go_sem] theorem tyArr50 : tyArr Try.prog 50 = some (16, 27) := by kernel_rfl
@[go_sem] theorem tySize50 : tySize Try.prog 50 = some 16 := by kernel_rfl
@[go_sem] theorem tyAgg50 : tyAgg Try.prog 50 = some true := by kernel_rfl
@[go_sem] theorem tyInt50 : tyInt Try.prog 50 = none := by kernel_rfl
@[go_sem] theorem tyBytes50 : tyBytes Try.prog 50 = 384 := by kernel_rfl
@[go_sem] theorem allSized50 : allSized Try.prog 50 = false := by kernel_rfl
@[go_sem] theorem zeroA50 : zeroA Try.prog 50 = some (.agg [.nils, .nils, .nils, .nils, .nils, .nils, .nils, .nils, .nils, .nils, .nils, .nils, .nils, .nils, .nils, .nils]) := by kernel_rfl
@[go_sem] theorem eqTy50 : eqTy Try.prog 50 = none := by kernel_rfl
@[go_sem] theorem tyStr51 : tyStr Try.prog 51 = false := by kernel_rfl
@[go_sem] theorem tyBool51 : tyBool Try.prog 51 = false := by kernel_rfl
@[go_sem] theorem tyPtr51 : tyPtr Try.prog 51 = false := by kernel_rfl
@[go_sem] theorem tyElem51 : tyElem Try.prog 51 = none := by kernel_rfl
@[go_sem] theorem tyArr51 : tyArr Try.prog 51 = none := by kernel_rfl
@[go_sem] theorem tySize51 : tySize Try.prog 51 = some 1 := by kernel_rfl
@[go_sem] theorem tyAgg51 : tyAgg Try.prog 51 = some false := by kernel_rfl
@[go_sem] theorem tyInt51 : tyInt Try.prog 51 = none := by kernel_rfl
@[go_sem] theorem tyBytes51 : tyBytes Try.prog 51 = 8 := by kernel_rfl
@[go_sem] theorem allSized51 : allSized Try.prog 51 = false := by kernel_rfl
@[go_sem] theorem zeroA51 : zeroA Try.prog 51 = some .any := by kernel_rfl
@[go_sem] theorem eqTy51 : eqTy Try.prog 51 = none := by kernel_rfl
@[go_sem] theorem tyStr52 : tyStr Try.prog 52 = false := by kernel_rfl
@[go_sem] theorem tyBool52 : tyBool Try.prog 52 = false := by kernel_rfl
@[go_sem] theorem tyPtr52 : tyPtr Try.prog 52 = false := by kernel_rfl
@[go_sem] theorem tyElem52 : tyElem Try.prog 52 = none := by kernel_rfl
@[go_sem] theorem tyArr52 : tyArr Try.prog 52 = none := by kernel_rfl
@[go_sem] theorem tySize52 : tySize Try.prog 52 = some 1 := by kernel_rfl
@[go_sem] theorem tyAgg52 : tyAgg Try.prog 52 = some false := by kernel_rfl
@[go_sem] theorem tyInt52 : tyInt Try.prog 52 = none := by kernel_rfl
@[go_sem] theorem tyBytes52 : tyBytes Try.prog 52 = 8 := by kernel_rfl
@[go_sem] theorem allSized52 : allSized Try.prog 52 = false := by kernel_rfl
@[go_sem] theorem zeroA52 : zeroA Try.prog 52 = some .any := by kernel_rfl
@[go_sem] theorem eqTy52 : eqTy Try.prog 52 = none := by kernel_rfl
@[go_sem] theorem tyStr53 : tyStr Try.prog 53 = false := by kernel_rfl
@[go_sem] theorem tyBool53 : tyBool Try.prog 53 = false := by kernel_rfl
@[go_sem] theorem tyPtr53 : tyPtr Try.prog 53 = false := by kernel_rfl
@[go_sem] theorem tyElem53 : tyElem Try.prog 53 = none := by kernel_rfl
@[go_sem] theorem tyArr53 : tyArr Try.prog 53 = none := by kernel_rfl
@[go_sem] theorem tySize53 : tySize Try.prog 53 = some 1 := by kernel_rfl
@[go_sem] theorem tyAgg53 : tyAgg Try.prog 53 = some false := by kernel_rfl
@[go_sem] theorem tyInt53 : tyInt Try.prog 53 = none := by kernel_rfl
@[go_sem] theorem tyBytes53 : tyBytes Try.prog 53 = 8 := by kernel_rfl
@[go_sem] theorem allSized53 : allSized Try.prog 53 = false := by kernel_rfl
@[go_sem] theorem zeroA53 : zeroA Try.prog 53 = some .any := by kernel_rfl
@[go_sem] theorem eqTy53 : eqTy Try.prog 53 = none := by kernel_rfl
@[go_sem] theorem tyStr54 : tyStr Try.prog 54 = false := by kernel_rfl
@[go_sem] theorem tyBool54 : tyBool Try.prog 54 = false := by kernel_rfl
@[go_sem] theorem tyPtr54 : tyPtr Try.prog 54 = false := by kernel_rfl
@[go_sem] theorem tyElem54 : tyElem Try.prog 54 = none := by kernel_rfl
@[go_sem] theorem tyArr54 : tyArr Try.prog 54 = none := by kernel_rfl
@[go_sem] theorem tySize54 : tySize Try.prog 54 = some 1 := by kernel_rfl
@[go_sem] theorem tyAgg54 : tyAgg Try.prog 54 = some false := by kernel_rfl
@[go_sem] theorem tyInt54 : tyInt Try.prog 54 = none := by kernel_rfl
@[go_sem] theorem tyBytes54 : tyBytes Try.prog 54 = 8 := by kernel_rfl
@[go_sem] theorem allSized54 : allSized Try.prog 54 = false := by kernel_rfl
@[go_sem] theorem zeroA54 : zeroA Try.prog 54 = some .any := by kernel_rfl
@[go_sem] theorem eqTy54 : eqTy Try.prog 54 = none := by kernel_rfl
@[go_sem] theorem tyStr55 : tyStr Try.prog 55 = false := by kernel_rfl
@[go_sem] theorem tyBool55 : tyBool Try.prog 55 = false := by kernel_rfl
@[go_sem] theorem tyPtr55 : tyPtr Try.prog 55 = false := by kernel_rfl
@[go_sem] theorem tyElem55 : tyElem Try.prog 55 = none := by kernel_rfl
@[go_sem] theorem tyArr55 : tyArr Try.prog 55 = none := by kernel_rfl
@[go_sem] theorem tySize55 : tySize Try.prog 55 = some 1 := by kernel_rfl
@[go_sem] theorem tyAgg55 : tyAgg Try.prog 55 = some false := by kernel_rfl
@[go_sem] theorem tyInt55 : tyInt Try.prog 55 = none := by kernel_rfl
@[go_sem] theorem tyBytes55 : tyBytes Try.prog 55 = 8 := by kernel_rfl
@[go_sem] theorem allSized55 : allSized Try.prog 55 = false := by kernel_rfl
@[go_sem] theorem zeroA55 : zeroA Try.prog 55 = some .any := by kernel_rfl
@[go_sem] theorem eqTy55 : eqTy Try.prog 55 = none := by kernel_rfl
@[go_sem] theorem tyStr56 : tyStr Try.prog 56 = false := by kernel_rfl
@[go_sem] theorem tyBool56 : tyBool Try.prog 56 = false := by kernel_rfl
@[go_sem] theorem tyPtr56 : tyPtr Try.prog 56 = false := by kernel_rfl
@[go_sem] theorem tyElem56 : tyElem Try.prog 56 = none := by kernel_rfl
@[go_sem] theorem tyArr56 : tyArr Try.prog 56 = none := by kernel_rfl
@[go_sem] theorem tySize56 : tySize Try.prog 56 = some 1 := by kernel_rfl
@[go_sem] theorem tyAgg56 : tyAgg Try.prog 56 = some false := by kernel_rfl
@[go_sem] theorem tyInt56 : tyInt Try.prog 56 = none := by kernel_rfl
@[go_sem] theorem tyBytes56 : tyBytes Try.prog 56 = 8 := by kernel_rfl
@[go_sem] theorem allSized56 : allSized Try.prog 56 = false := by kernel_rfl
@[go_sem] theorem zeroA56 : zeroA Try.prog 56 = some .any := by kernel_rfl
@[go_sem] theorem eqTy56 : eqTy Try.prog 56 = none := by kernel_rfl
@[go_sem] theorem tyStr57 : tyStr Try.prog 57 = false := by kernel_rfl
@[go_sem] theorem tyBool57 : tyBool Try.prog 57 = false := by kernel_rfl
@[go_sem] theorem tyPtr57 : tyPtr Try.prog 57 = false := by kernel_rfl
@[go_sem] theorem tyElem57 : tyElem Try.prog 57 = none := by kernel_rfl
@[go_sem] theorem tyArr57 : tyArr Try.prog 57 = none := by kernel_rfl
@[go_sem] theorem tySize57 : tySize Try.prog 57 = some 1 := by kernel_rfl
@[go_sem] theorem tyAgg57 : tyAgg Try.prog 57 = some false := by kernel_rfl
@[go_sem] theorem tyInt57 : tyInt Try.prog 57 = none := by kernel_rfl
@[go_sem] theorem tyBytes57 : tyBytes Try.prog 57 = 8 := by kernel_rfl
@[go_sem] theorem allSized57 : allSized Try.prog 57 = false := by kernel_rfl
@[go_sem] theorem zeroA57 : zeroA Try.prog 57 = some .any := by kernel_rfl
@[go_sem] theorem eqTy57 : eqTy Try.prog 57 = none := by kernel_rfl
@[go_sem] theorem tyStr58 : tyStr Try.prog 58 = false := by kernel_rfl
@[go_sem] theorem tyBool58 : tyBool Try.prog 58 = false := by kernel_rfl
@[go_sem] theorem tyPtr58 : tyPtr Try.prog 58 = false := by kernel_rfl
@[go_sem] theorem tyElem58 : tyElem Try.prog 58 = none := by kernel_rfl
@[go_sem] theorem tyArr58 : tyArr Try.prog 58 = none := by kernel_rfl
@[go_sem] theorem tySize58 : tySize Try.prog 58 = some 1 := by kernel_rfl
@[go_sem] theorem tyAgg58 : tyAgg Try.prog 58 = some false := by kernel_rfl
@[go_sem] theorem tyInt58 : tyInt Try.prog 58 = none := by kernel_rfl
@[go_sem] theorem tyBytes58 : tyBytes Try.prog 58 = 8 := by kernel_rfl
@[go_sem] theorem allSized58 : allSized Try.prog 58 = false := by kernel_rfl
@[go_sem] theorem zeroA58 : zeroA Try.prog 58 = some .any := by kernel_rfl
@[go_sem] theorem eqTy58 : eqTy Try.prog 58 = none := by kernel_rfl
@[go_sem] theorem tyStr59 : tyStr Try.prog 59 = false := by kernel_rfl
@[go_sem] theorem tyBool59 : tyBool Try.prog 59 = false := by kernel_rfl
@[go_sem] theorem tyPtr59 : tyPtr Try.prog 59 = false := by kernel_rfl
@[go_sem] theorem tyElem59 : tyElem Try.prog 59 = none := by kernel_rfl
@[go_sem] theorem tyArr59 : tyArr Try.prog 59 = none := by kernel_rfl
@[go_sem] theorem tySize59 : tySize Try.prog 59 = some 1 := by kernel_rfl
@[go_sem] theorem tyAgg59 : tyAgg Try.prog 59 = some false := by kernel_rfl
@[go_sem] theorem tyInt59 : tyInt Try.prog 59 = none := by kernel_rfl
@[go_sem] theorem tyBytes59 : tyBytes Try.prog 59 = 8 := by kernel_rfl
@[go_sem] theorem allSized59 : allSized Try.prog 59 = false := by kernel_rfl
@[go_sem] theorem zeroA59 : zeroA Try.prog 59 = some .any := by kernel_rfl
@[go_sem] theorem eqTy59 : eqTy Try.prog 59 = none := by kernel_rfl
@[go_sem] theorem tyStr60 : tyStr Try.prog 60 = false := by kernel_rfl
@[go_sem] theorem tyBool60 : tyBool Try.prog 60 = false := by kernel_rfl
@[go_sem] theorem tyPtr60 : tyPtr Try.prog 60 = false := by kernel_rfl
@[go_sem] theorem tyElem60 : tyElem Try.prog 60 = none := by kernel_rfl
@[go_sem] theorem tyArr60 : tyArr Try.prog 60 = none := by kernel_rfl
@[go_sem] theorem tySize60 : tySize Try.prog 60 = some 1 := by kernel_rfl
@[go_sem] theorem tyAgg60 : tyAgg Try.prog 60 = some false := by kernel_rfl
@[go_sem] theorem tyInt60 : tyInt Try.prog 60 = none := by kernel_rfl
@[go_sem] theorem tyBytes60 : tyBytes Try.prog 60 = 8 := by kernel_rfl
@[go_sem] theorem allSized60 : allSized Try.prog 60 = false := by kernel_rfl
@[go_sem] theorem zeroA60 : zeroA Try.prog 60 = some .any := by kernel_rfl
@[go_sem] theorem eqTy60 : eqTy Try.prog 60 = none := by kernel_rfl
@[go_sem] theorem tyStr61 : tyStr Try.prog 61 = false := by kernel_rfl
@[go_sem] theorem tyBool61 : tyBool Try.prog 61 = false := by kernel_rfl
@[go_sem] theorem tyPtr61 : tyPtr Try.prog 61 = false := by kernel_rfl
@[go_sem] theorem tyElem61 : tyElem Try.prog 61 = none := by kernel_rfl
@[go_sem] theorem tyArr61 : tyArr Try.prog 61 = none := by kernel_rfl
@[go_sem] theorem tySize61 : tySize Try.prog 61 = some 1 := by kernel_rfl
@[go_sem] theorem tyAgg61 : tyAgg Try.prog 61 = some false := by kernel_rfl
@[go_sem] theorem tyInt61 : tyInt Try.prog 61 = none := by kernel_rfl
@[go_sem] theorem tyBytes61 : tyBytes Try.prog 61 = 8 := by kernel_rfl
@[go_sem] theorem allSized61 : allSized Try.prog 61 = false := by kernel_rfl
@[go_sem] theorem zeroA61 : zeroA Try.prog 61 = some .any := by kernel_rfl
@[go_sem] theorem eqTy61 : eqTy Try.prog 61 = none := by kernel_rfl
@[go_sem] theorem tyStr62 : tyStr Try.prog 62 = false := by kernel_rfl
@[go_sem] theorem tyBool62 : tyBool Try.prog 62 = false := by kernel_rfl
@[go_sem] theorem tyPtr62 : tyPtr Try.prog 62 = false := by kernel_rfl
@[go_sem] theorem tyElem62 : tyElem Try.prog 62 = none := by kernel_rfl
@[go_sem] theorem tyArr62 : tyArr Try.prog 62 = none := by kernel_rfl
@[go_sem] theorem tySize62 : tySize Try.prog 62 = some 1 := by kernel_rfl
@[go_sem] theorem tyAgg62 : tyAgg Try.prog 62 = some false := by kernel_rfl
@[go_sem] theorem tyInt62 : tyInt Try.prog 62 = none := by kernel_rfl
@[go_sem] theorem tyBytes62 : tyBytes Try.prog 62 = 8 := by kernel_rfl
@[go_sem] theorem allSized62 : allSized Try.prog 62 = false := by kernel_rfl
@[go_sem] theorem zeroA62 : zeroA Try.prog 62 = some .any := by kernel_rfl
@[go_sem] theorem eqTy62 : eqTy Try.prog 62 = none := by kernel_rfl
@[go_sem] theorem tyStr63 : tyStr Try.prog 63 = false := by kernel_rfl
@[go_sem] theorem tyBool63 : tyBool Try.prog 63 = false := by kernel_rfl
@[go_sem] theorem tyPtr63 : tyPtr Try.prog 63 = false := by kernel_rfl
@[go_sem] theorem tyElem63 : tyElem Try.prog 63 = none := by kernel_rfl
@[go_sem] theorem tyArr63 : tyArr Try.prog 63 = none := by kernel_rfl
@[go_sem] theorem tySize63 : tySize Try.prog 63 = some 1 := by kernel_rfl
@[go_sem] theorem tyAgg63 : tyAgg Try.prog 63 = some false := by kernel_rfl
@[go_sem] theorem tyInt63 : tyInt Try.prog 63 = none := by kernel_rfl
@[go_sem] theorem tyBytes63 : tyBytes Try.prog 63 = 8 := by kernel_rfl
@[go_sem] theorem allSized63 : allSized Try.prog 63 = false := by kernel_rfl
@[go_sem] theorem zeroA63 : zeroA Try.prog 63 = some .any := by kernel_rfl
@[go_sem] theorem eqTy63 : eqTy Try.prog 63 = none := by kernel_rfl
@[go_sem] theorem tyStr64 : tyStr Try.prog 64 = false := by kernel_rfl
@[go_sem] theorem tyBool64 : tyBool Try.prog 64 = false := by kernel_rfl
@[go_sem] theorem tyPtr64 : tyPtr Try.prog 64 = false := by kernel_rfl
@[go_sem] theorem tyElem64 : tyElem Try.prog 64 = none := by kernel_rfl
@[go_sem] theorem tyArr64 : tyArr Try.prog 64 = none := by kernel_rfl
@[go_sem] theorem tySize64 : tySize Try.prog 64 = some 1 := by kernel_rfl
@[go_sem] theorem tyAgg64 : tyAgg Try.prog 64 = some false := by kernel_rfl
@[go_sem] theorem tyInt64 : tyInt Try.prog 64 = none := by kernel_rfl
@[go_sem] theorem tyBytes64 : tyBytes Try.prog 64 = 8 := by kernel_rfl
@[go_sem] theorem allSized64 : allSized Try.prog 64 = false := by kernel_rfl
@[go_sem] theorem zeroA64 : zeroA Try.prog 64 = some .any := by kernel_rfl
@[go_sem] theorem eqTy64 : eqTy Try.prog 64 = none := by kernel_rfl
@[go_sem] theorem tyStr65 : tyStr Try.prog 65 = false := by kernel_rfl
@[go_sem] theorem tyBool65 : tyBool Try.prog 65 = false := by kernel_rfl
@[go_sem] theorem tyPtr65 : tyPtr Try.prog 65 = false := by kernel_rfl
@[go_sem] theorem tyElem65 : tyElem Try.prog 65 = none := by kernel_rfl
@[go_sem] theorem tyArr65 : tyArr Try.prog 65 = none := by kernel_rfl
@[go_sem] theorem tySize65 : tySize Try.prog 65 = some 1 := by kernel_rfl
@[go_sem] theorem tyAgg65 : tyAgg Try.prog 65 = some false := by kernel_rfl
@[go_sem] theorem tyInt65 : tyInt Try.prog 65 = none := by kernel_rfl
@[go_sem] theorem tyBytes65 : tyBytes Try.prog 65 = 8 := by kernel_rfl
@[go_sem] theorem allSized65 : allSized Try.prog 65 = false := by kernel_rfl
@[go_sem] theorem zeroA65 : zeroA Try.prog 65 = some .any := by kernel_rfl
@[go_sem] theorem eqTy65 : eqTy Try.prog 65 = none := by kernel_rfl
@[go_sem] theorem tyStr66 : tyStr Try.prog 66 = false := by kernel_rfl
@[go_sem] theorem tyBool66 : tyBool Try.prog 66 = false := by kernel_rfl
@[go_sem] theorem tyPtr66 : tyPtr Try.prog 66 = false := by kernel_rfl
@[go_sem] theorem tyElem66 : tyElem Try.prog 66 = none := by kernel_rfl
@[go_sem] theorem tyArr66 : tyArr Try.prog 66 = none := by kernel_rfl
@[go_sem] theorem tySize66 : tySize Try.prog 66 = some 1 := by kernel_rfl
@[go_sem] theorem tyAgg66 : tyAgg Try.prog 66 = some false := by kernel_rfl
@[go_sem] theorem tyInt66 : tyInt Try.prog 66 = none := by kernel_rfl
@[go_sem] theorem tyBytes66 : tyBytes Try.prog 66 = 8 := by kernel_rfl
@[go_sem] theorem allSized66 : allSized Try.prog 66 = false := by kernel_rfl
@[go_sem] theorem zeroA66 : zeroA Try.prog 66 = some .any := by kernel_rfl
@[go_sem] theorem eqTy66 : eqTy Try.prog 66 = none := by kernel_rfl
@[go_sem] theorem tyStr67 : tyStr Try.prog 67 = false := by kernel_rfl
@[go_sem] theorem tyBool67 : tyBool Try.prog 67 = false := by kernel_rfl
@[go_sem] theorem tyPtr67 : tyPtr Try.prog 67 = false := by kernel_rfl
@[go_sem] theorem tyElem67 : tyElem Try.prog 67 = some 3 := by kernel_rfl
@[go_sem] theorem tyArr67 : tyArr Try.prog 67 = none := by kernel_rfl
@[go_sem] theorem tySize67 : tySize Try.prog 67 = some 1 := by kernel_rfl
@[go_sem] theorem tyAgg67 : tyAgg Try.prog 67 = some false := by kernel_rfl
@[go_sem] theorem tyInt67 : tyInt Try.prog 67 = none := by kernel_rfl
@[go_sem] theorem tyBytes67 : tyBytes Try.prog 67 = 24 := by kernel_rfl
@[go_sem] theorem allSized67 : allSized Try.prog 67 = false := by kernel_rfl
@[go_sem] theorem zeroA67 : zeroA Try.prog 67 = some .nils := by kernel_rfl
@[go_sem] theorem eqTy67 : eqTy Try.prog 67 = none := by kernel_rfl
@[go_sem] theorem tyStr68 : tyStr Try.prog 68 = false := by kernel_rfl
@[go_sem] theorem tyBool68 : tyBool Try.prog 68 = false := by kernel_rfl
@[go_sem] theorem tyPtr68 : tyPtr Try.prog 68 = false := by kernel_rfl
@[go_sem] theorem tyElem68 : tyElem Try.prog 68 = none := by kernel_rfl
@[go_sem] theorem tyArr68 : tyArr Try.prog 68 = none := by kernel_rfl
@[go_sem] theorem tySize68 : tySize Try.prog 68 = some 1 := by kernel_rfl
@[go_sem] theorem tyAgg68 : tyAgg Try.prog 68 = some false := by kernel_rfl
@[go_sem] theorem tyInt68 : tyInt Try.prog 68 = none := by kernel_rfl
@[go_sem] theorem tyBytes68 : tyBytes Try.prog 68 = 8 := by kernel_rfl
@[go_sem] theorem allSized68 : allSized Try.prog 68 = false := by kernel_rfl
@[go_sem] theorem zeroA68 : zeroA Try.prog 68 = some .any := by kernel_rfl
@[go_sem] theorem eqTy68 : eqTy Try.prog 68 = none := by kernel_rfl
@[go_sem] theorem tyStr69 : tyStr Try.prog 69 = false := by kernel_rfl
@[go_sem] theorem tyBool69 : tyBool Try.prog 69 = false := by kernel_rfl
@[go_sem] theorem tyPtr69 : tyPtr Try.prog 69 = false := by kernel_rfl
@[go_sem] theorem tyElem69 : tyElem Try.prog 69 = none := by kernel_rfl
@[go_sem] theorem tyArr69 : tyArr Try.prog 69 = none := by kernel_rfl
@[go_sem] theorem tySize69 : tySize Try.prog 69 = some 1 := by kernel_rfl
@[go_sem] theorem tyAgg69 : tyAgg Try.prog 69 = some false := by kernel_rfl
@[go_sem] theorem tyInt69 : tyInt Try.prog 69 = none := by kernel_rfl
@[go_sem] theorem tyBytes69 : tyBytes Try.prog 69 = 8 := by kernel_rfl
@[go_sem] theorem allSized69 : allSized Try.prog 69 = false := by kernel_rfl
@[go_sem] theorem zeroA69 : zeroA Try.prog 69 = some .any := by kernel_rfl
@[go_sem] theorem eqTy69 : eqTy Try.prog 69 = none := by kernel_rfl
@[go_sem] theorem tyStr70 : tyStr Try.prog 70 = false := by kernel_rfl
@[go_sem] theorem tyBool70 : tyBool Try.prog 70 = false := by kernel_rfl
@[go_sem] theorem tyPtr70 : tyPtr Try.prog 70 = false := by kernel_rfl
@[go_sem] theorem tyElem70 : tyElem Try.prog 70 = none := by kernel_rfl
@[go_sem] theorem tyArr70 : tyArr Try.prog 70 = none := by kernel_rfl
@[go_sem] theorem tySize70 : tySize Try.prog 70 = some 1 := by kernel_rfl
@[go_sem] theorem tyAgg70 : tyAgg Try.prog 70 = some false := by kernel_rfl
@[go_sem] theorem tyInt70 : tyInt Try.prog 70 = none := by kernel_rfl
@[go_sem] theorem tyBytes70 : tyBytes Try.prog 70 = 8 := by kernel_rfl
@[go_sem] theorem allSized70 : allSized Try.prog 70 = false := by kernel_rfl
@[go_sem] theorem zeroA70 : zeroA Try.prog 70 = some .any := by kernel_rfl
@[go_sem] theorem eqTy70 : eqTy Try.prog 70 = none := by kernel_rfl
@[go_sem] theorem tyStr71 : tyStr Try.prog 71 = false := by kernel_rfl
@[go_sem] theorem tyBool71 : tyBool Try.prog 71 = false := by kernel_rfl
@[go_sem] theorem tyPtr71 : tyPtr Try.prog 71 = false := by kernel_rfl
@[go_sem] theorem tyElem71 : tyElem Try.prog 71 = none := by kernel_rfl
@[go_sem] theorem tyArr71 : tyArr Try.prog 71 = none := by kernel_rfl
@[go_sem] theorem tySize71 : tySize Try.prog 71 = some 1 := by kernel_rfl
@[go_sem] theorem tyAgg71 : tyAgg Try.prog 71 = some false := by kernel_rfl
@[go_sem] theorem tyInt71 : tyInt Try.prog 71 = none := by kernel_rfl
@[go_sem] theorem tyBytes71 : tyBytes Try.prog 71 = 8 := by kernel_rfl
@[go_sem] theorem allSized71 : allSized Try.prog 71 = false := by kernel_rfl
@[go_sem] theorem zeroA71 : zeroA Try.prog 71 = some .any := by kernel_rfl
@[go_sem] theorem eqTy71 : eqTy Try.prog 71 = none := by kernel_rfl
@[go_sem] theorem tyStr72 : tyStr Try.prog 72 = false := by kernel_rfl
@[go_sem] theorem tyBool72 : tyBool Try.prog 72 = false := by kernel_rfl
@[go_sem] theorem tyPtr72 : tyPtr Try.prog 72 = false := by kernel_rfl
@[go_sem] theorem tyElem72 : tyElem Try.prog 72 = none := by kernel_rfl
@[go_sem] theorem tyArr72 : tyArr Try.prog 72 = none := by kernel_rfl
@[go_sem] theorem tySize72 : tySize Try.prog 72 = some 1 := by kernel_rfl
@[go_sem] theorem tyAgg72 : tyAgg Try.prog 72 = some false := by kernel_rfl
@[go_sem] theorem tyInt72 : tyInt Try.prog 72 = none := by kernel_rfl
@[go_sem] theorem tyBytes72 : tyBytes Try.prog 72 = 8 := by kernel_rfl
@[go_sem] theorem allSized72 : allSized Try.prog 72 = false := by kernel_rfl
@[go_sem] theorem zeroA72 : zeroA Try.prog 72 = some .any := by kernel_rfl
@[go_sem] theorem eqTy72 : eqTy Try.prog 72 = none := by kernel_rfl
@[go_sem] theorem tyStr73 : tyStr Try.prog 73 = false := by kernel_rfl
@[go_sem] theorem tyBool73 : tyBool Try.prog 73 = false := by kernel_rfl
@[go_sem] theorem tyPtr73 : tyPtr Try.prog 73 = false := by kernel_rfl
@[go_sem] theorem tyElem73 : tyElem Try.prog 73 = none := by kernel_rfl
@[go_sem] theorem tyArr73 : tyArr Try.prog 73 = none := by kernel_rfl
@[go_sem] theorem tySize73 : tySize Try.prog 73 = some 1 := by kernel_rfl
@[go_sem] theorem tyAgg73 : tyAgg Try.prog 73 = some false := by kernel_rfl
@[go_sem] theorem tyInt73 : tyInt Try.prog 73 = none := by kernel_rfl
@[go_sem] theorem tyBytes73 : tyBytes Try.prog 73 = 8 := by kernel_rfl
@[go_sem] theorem allSized73 : allSized Try.prog 73 = false := by kernel_rfl
@[go_sem] theorem zeroA73 : zeroA Try.prog 73 = some .any := by kernel_rfl
@[go_sem] theorem eqTy73 : eqTy Try.prog 73 = none := by kernel_rfl
@[go_sem] theorem tyStr74 : tyStr Try.prog 74 = false := by kernel_rfl
@[go_sem] theorem tyBool74 : tyBool Try.prog 74 = false := by kernel_rfl
@[go_sem] theorem tyPtr74 : tyPtr Try.prog 74 = false := by kernel_rfl
@[go_sem] theorem tyElem74 : tyElem Try.prog 74 = none := by kernel_rfl
@[go_sem] theorem tyArr74 : tyArr Try.prog 74 = none := by kernel_rfl
@[go_sem] theorem tySize74 : tySize Try.prog 74 = some 1 := by kernel_rfl
@[go_sem] theorem tyAgg74 : tyAgg Try.prog 74 = some false := by kernel_rfl
@[go_sem] theorem tyInt74 : tyInt Try.prog 74 = none := by kernel_rfl
@[go_sem] theorem tyBytes74 : tyBytes Try.prog 74 = 8 := by kernel_rfl
@[go_sem] theorem allSized74 : allSized Try.prog 74 = false := by kernel_rfl
@[go_sem] theorem zeroA74 : zeroA Try.prog 74 = some .any := by kernel_rfl
@[go_sem] theorem eqTy74 : eqTy Try.prog 74 = none := by kernel_rfl
@[go_sem] theorem tyStr75 : tyStr Try.prog 75 = false := by kernel_rfl
@[go_sem] theorem tyBool75 : tyBool Try.prog 75 = false := by kernel_rfl
@[go_sem] theorem tyPtr75 : tyPtr Try.prog 75 = false := by kernel_rfl
@[go_sem] theorem tyElem75 : tyElem Try.prog 75 = none := by kernel_rfl
@[go_sem] theorem tyArr75 : tyArr Try.prog 75 = none := by kernel_rfl
@[go_sem] theorem tySize75 : tySize Try.prog 75 = some 1 := by kernel_rfl
@[go_sem] theorem tyAgg75 : tyAgg Try.prog 75 = some false := by kernel_rfl
@[go_sem] theorem tyInt75 : tyInt Try.prog 75 = none := by kernel_rfl
@[go_sem] theorem tyBytes75 : tyBytes Try.prog 75 = 8 := by kernel_rfl
@[go_sem] theorem allSized75 : allSized Try.prog 75 = false := by kernel_rfl
@[go_sem] theorem zeroA75 : zeroA Try.prog 75 = some .any := by kernel_rfl
@[go_sem] theorem eqTy75 : eqTy Try.prog 75 = none := by kernel_rfl
@[go_sem] theorem tyStr76 : tyStr Try.prog 76 = false := by kernel_rfl
@[go_sem] theorem tyBool76 : tyBool Try.prog 76 = false := by kernel_rfl
@[go_sem] theorem tyPtr76 : tyPtr Try.prog 76 = false := by kernel_rfl
@[go_sem] theorem tyElem76 : tyElem Try.prog 76 = none := by kernel_rfl
@[go_sem] theorem tyArr76 : tyArr Try.prog 76 = none := by kernel_rfl
@[go_sem] theorem tySize76 : tySize Try.prog 76 = some 1 := by kernel_rfl
@[go_sem] theorem tyAgg76 : tyAgg Try.prog 76 = some false := by kernel_rfl
@[go_sem] theorem tyInt76 : tyInt Try.prog 76 = none := by kernel_rfl
@[go_sem] theorem tyBytes76 : tyBytes Try.prog 76 = 8 := by kernel_rfl
@[go_sem] theorem allSized76 : allSized Try.prog 76 = false := by kernel_rfl
@[go_sem] theorem zeroA76 : zeroA Try.prog 76 = some .any := by kernel_rfl
@[go_sem] theorem eqTy76 : eqTy Try.prog 76 = none := by kernel_rfl
@[go_sem] theorem tyStr77 : tyStr Try.prog 77 = false := by kernel_rfl
@[go_sem] theorem tyBool77 : tyBool Try.prog 77 = false := by kernel_rfl
@[go_sem] theorem tyPtr77 : tyPtr Try.prog 77 = false := by kernel_rfl
@[go_sem] theorem tyElem77 : tyElem Try.prog 77 = none := by kernel_rfl
@[go_sem] theorem tyArr77 : tyArr Try.prog 77 = none := by kernel_rfl
@[go_sem] theorem tySize77 : tySize Try.prog 77 = some 1 := by kernel_rfl
@[go_sem] theorem tyAgg77 : tyAgg Try.prog 77 = some false := by kernel_rfl
@[go_sem] theorem tyInt77 : tyInt Try.prog 77 = some .u64 := by kernel_rfl
@[go_sem] theorem tyBytes77 : tyBytes Try.prog 77 = 8 := by kernel_rfl
@[go_sem] theorem allSized77 : allSized Try.prog 77 = false := by kernel_rfl
@[go_sem] theorem zeroA77 : zeroA Try.prog 77 = some (.int .u64 0) := by kernel_rfl
@[go_sem] theorem eqTy77 : eqTy Try.prog 77 = none := by kernel_rfl
@[go_sem] theorem tyStr78 : tyStr Try.prog 78 = false := by kernel_rfl
@[go_sem] theorem tyBool78 : tyBool Try.prog 78 = false := by kernel_rfl
@[go_sem] theorem tyPtr78 : tyPtr Try.prog 78 = false := by kernel_rfl
@[go_sem] theorem tyElem78 : tyElem Try.prog 78 = none := by kernel_rfl
@[go_sem] theorem tyArr78 : tyArr Try.prog 78 = none := by kernel_rfl
@[go_sem] theorem tySize78 : tySize Try.prog 78 = some 1 := by kernel_rfl
@[go_sem] theorem tyAgg78 : tyAgg Try.prog 78 = some false := by kernel_rfl
@[go_sem] theorem tyInt78 : tyInt Try.prog 78 = none := by kernel_rfl
@[go_sem] theorem tyBytes78 : tyBytes Try.prog 78 = 8 := by kernel_rfl
@[go_sem] theorem allSized78 : allSized Try.prog 78 = false := by kernel_rfl
@[go_sem] theorem zeroA78 : zeroA Try.prog 78 = some .any := by kernel_rfl
@[go_sem] theorem eqTy78 : eqTy Try.prog 78 = none := by kernel_rfl
@[go_sem] theorem tyStr79 : tyStr Try.prog 79 = false := by kernel_rfl
@[go_sem] theorem tyBool79 : tyBool Try.prog 79 = false := by kernel_rfl
@[go_sem] theorem tyPtr79 : tyPtr Try.prog 79 = false := by kernel_rfl
@[go_sem] theorem tyElem79 : tyElem Try.prog 79 = none := by kernel_rfl
@[go_sem] theorem tyArr79 : tyArr Try.prog 79 = none := by kernel_rfl
@[go_sem] theorem tySize79 : tySize Try.prog 79 = some 1 := by kernel_rfl
@[go_sem] theorem tyAgg79 : tyAgg Try.prog 79 = some false := by kernel_rfl
@[go_sem] theorem tyInt79 : tyInt Try.prog 79 = some .i64 := by kernel_rfl
@[go_sem] theorem tyBytes79 : tyBytes Try.prog 79 = 8 := by kernel_rfl
@[go_sem] theorem allSized79 : allSized Try.prog 79 = false := by kernel_rfl
@[go_sem] theorem zeroA79 : zeroA Try.prog 79 = some (.int .i64 0) := by kernel_rfl
@[go_sem] theorem eqTy79 : eqTy Try.prog 79 = none := by kernel_rfl
@[go_sem] theorem tyStr80 : tyStr Try.prog 80 = false := by kernel_rfl
@[go_sem] theorem tyBool80 : tyBool Try.prog 80 = false := by kernel_rfl
@[go_sem] theorem tyPtr80 : tyPtr Try.prog 80 = false := by kernel_rfl
@[go_sem] theorem tyElem80 : tyElem Try.prog 80 = none := by kernel_rfl
@[go_sem] theorem tyArr80 : tyArr Try.prog 80 = none := by kernel_rfl
@[go_sem] theorem tySize80 : tySize Try.prog 80 = some 1 := by kernel_rfl
@[go_sem] theorem tyAgg80 : tyAgg Try.prog 80 = some false := by kernel_rfl
@[go_sem] theorem tyInt80 : tyInt Try.prog 80 = none := by kernel_rfl
@[go_sem] theorem tyBytes80 : tyBytes Try.prog 80 = 0 := by kernel_rfl
@[go_sem] theorem allSized80 : allSized Try.prog 80 = false := by kernel_rfl
@[go_sem] theorem zeroA80 : zeroA Try.prog 80 = some .any := by kernel_rfl
@[go_sem] theorem eqTy80 : eqTy Try.prog 80 = none := by kernel_rfl
@[go_sem] theorem tyStr81 : tyStr Try.prog 81 = false := by kernel_rfl
@[go_sem] theorem tyBool81 : tyBool Try.prog 81 = false := by kernel_rfl
@[go_sem] theorem tyPtr81 : tyPtr Try.prog 81 = false := by kernel_rfl
@[go_sem] theorem tyElem81 : tyElem Try.prog 81 = none := by kernel_rfl
@[go_sem] theorem tyArr81 : tyArr Try.prog 81 = none := by kernel_rfl
@[go_sem] theorem tySize81 : tySize Try.prog 81 = some 1 := by kernel_rfl
@[go_sem] theorem tyAgg81 : tyAgg Try.prog 81 = some false := by kernel_rfl
@[go_sem] theorem tyInt81 : tyInt Try.prog 81 = none := by kernel_rfl
@[go_sem] theorem tyBytes81 : tyBytes Try.prog 81 = 8 := by kernel_rfl
@[go_sem] theorem allSized81 : allSized Try.prog 81 = false := by kernel_rfl
@[go_sem] theorem zeroA81 : zeroA Try.prog 81 = some .any := by kernel_rfl
@[go_sem] theorem eqTy81 : eqTy Try.prog 81 = none := by kernel_rfl
@[go_sem] theorem tyStr82 : tyStr Try.prog 82 = false := by kernel_rfl
@[go_sem] theorem tyBool82 : tyBool Try.prog 82 = false := by kernel_rfl
@[go_sem] theorem tyPtr82 : tyPtr Try.prog 82 = false := by kernel_rfl
@[go_sem] theorem tyElem82 : tyElem Try.prog 82 = none := by kernel_rfl
@[go_sem] theorem tyArr82 : tyArr Try.prog 82 = none := by kernel_rfl
@[go_sem] theorem tySize82 : tySize Try.prog 82 = some 1 := by kernel_rfl
@[go_sem] theorem tyAgg82 : tyAgg Try.prog 82 = some false := by kernel_rfl
@[go_sem] theorem tyInt82 : tyInt Try.prog 82 = none := by kernel_rfl
@[go_sem] theorem tyBytes82 : tyBytes Try.prog 82 = 8 := by kernel_rfl
@[go_sem] theorem allSized82 : allSized Try.prog 82 = false := by kernel_rfl
@[go_sem] theorem zeroA82 : zeroA Try.prog 82 = some .any := by kernel_rfl
@[go_sem] theorem eqTy82 : eqTy Try.prog 82 = none := by kernel_rfl
@[go_sem] theorem tyStr83 : tyStr Try.prog 83 = false := by kernel_rfl
@[go_sem] theorem tyBool83 : tyBool Try.prog 83 = false := by kernel_rfl
@[go_sem] theorem tyPtr83 : tyPtr Try.prog 83 = false := by kernel_rfl
@[go_sem] theorem tyElem83 : tyElem Try.prog 83 = none := by kernel_rfl
@[go_sem] theorem tyArr83 : tyArr Try.prog 83 = none := by kernel_rfl
@[go_sem] theorem tySize83 : tySize Try.prog 83 = some 1 := by kernel_rfl
@[go_sem] theorem tyAgg83 : tyAgg Try.prog 83 = some false := by kernel_rfl
@[go_sem] theorem tyInt83 : tyInt Try.prog 83 = none := by kernel_rfl
@[go_sem] theorem tyBytes83 : tyBytes Try.prog 83 = 8 := by kernel_rfl
@[go_sem] theorem allSized83 : allSized Try.prog 83 = false := by kernel_rfl
@[go_sem] theorem zeroA83 : zeroA Try.prog 83 = some .any := by kernel_rfl
@[go_sem] theorem eqTy83 : eqTy Try.prog 83 = none := by kernel_rfl
@[go_sem] theorem tyStr84 : tyStr Try.prog 84 = false := by kernel_rfl
@[go_sem] theorem tyBool84 : tyBool Try.prog 84 = false := by kernel_rfl
@[go_sem] theorem tyPtr84 : tyPtr Try.prog 84 = false := by kernel_rfl
@[go_sem] theorem tyElem84 : tyElem Try.prog 84 = none := by kernel_rfl
@[go_sem] theorem tyArr84 : tyArr Try.prog 84 = none := by kernel_rfl
@[go_sem] theorem tySize84 : tySize Try.prog 84 = some 1 := by kernel_rfl
@[go_sem] theorem tyAgg84 : tyAgg Try.prog 84 = some false := by kernel_rfl
@[go_sem] theorem tyInt84 : tyInt Try.prog 84 = none := by kernel_rfl
@[go_sem] theorem tyBytes84 : tyBytes Try.prog 84 = 0 := by kernel_rfl
@[go_sem] theorem allSized84 : allSized Try.prog 84 = false := by kernel_rfl
@[go_sem] theorem zeroA84 : zeroA Try.prog 84 = some .any := by kernel_rfl
@[go_sem] theorem eqTy84 : eqTy Try.prog 84 = none := by kernel_rfl
@[go_sem] theorem tyStr85 : tyStr Try.prog 85 = false := by kernel_rfl
@[go_sem] theorem tyBool85 : tyBool Try.prog 85 = false := by kernel_rfl
@[go_sem] theorem tyPtr85 : tyPtr Try.prog 85 = false := by kernel_rfl
@[go_sem] theorem tyElem85 : tyElem Try.prog 85 = none := by kernel_rfl
@[go_sem] theorem tyArr85 : tyArr Try.prog 85 = none := by kernel_rfl
@[go_sem] theorem tySize85 : tySize Try.prog 85 = some 1 := by kernel_rfl
@[go_sem] theorem tyAgg85 : tyAgg Try.prog 85 = some false := by kernel_rfl
@[go_sem] theorem tyInt85 : tyInt Try.prog 85 = none := by kernel_rfl
@[go_sem] theorem tyBytes85 : tyBytes Try.prog 85 = 8 := by kernel_rfl
@[go_sem] theorem allSized85 : allSized Try.prog 85 = false := by kernel_rfl
@[go_sem] theorem zeroA85 : zeroA Try.prog 85 = some .any := by kernel_rfl
@[go_sem] theorem eqTy85 : eqTy Try.prog 85 = none := by kernel_rfl
@[go_sem] theorem tyStr86 : tyStr Try.prog 86 = false := by kernel_rfl
@[go_sem] theorem tyBool86 : tyBool Try.prog 86 = false := by kernel_rfl
@[go_sem] theorem tyPtr86 : tyPtr Try.prog 86 = false := by kernel_rfl
@[go_sem] theorem tyElem86 : tyElem Try.prog 86 = none := by kernel_rfl
@[go_sem] theorem tyArr86 : tyArr Try.prog 86 = none := by kernel_rfl
@[go_sem] theorem tySize86 : tySize Try.prog 86 = some 1 := by kernel_rfl
@[go_sem] theorem tyAgg86 : tyAgg Try.prog 86 = some false := by kernel_rfl
@[go_sem] theorem tyInt86 : tyInt Try.prog 86 = none := by kernel_rfl
@[go_sem] theorem tyBytes86 : tyBytes Try.prog 86 = 8 := by kernel_rfl
@[go_sem] theorem allSized86 : allSized Try.prog 86 = false := by kernel_rfl
@[go_sem] theorem zeroA86 : zeroA Try.prog 86 = some .any := by kernel_rfl
@[go_sem] theorem eqTy86 : eqTy Try.prog 86 = none := by kernel_rfl
@[go_sem] theorem tyStr87 : tyStr Try.prog 87 = false := by kernel_rfl
@[go_sem] theorem tyBool87 : tyBool Try.prog 87 = false := by kernel_rfl
@[go_sem] theorem tyPtr87 : tyPtr Try.prog 87 = false := by kernel_rfl
@[go_sem] theorem tyElem87 : tyElem Try.prog 87 = none := by kernel_rfl
@[go_sem] theorem tyArr87 : tyArr Try.prog 87 = none := by kernel_rfl
@[go_sem] theorem tySize87 : tySize Try.prog 87 = some 1 := by kernel_rfl
@[go_sem] theorem tyAgg87 : tyAgg Try.prog 87 = some false := by kernel_rfl
@[go_sem] theorem tyInt87 : tyInt Try.prog 87 = some .u32 := by kernel_rfl
@[go_sem] theorem tyBytes87 : tyBytes Try.prog 87 = 4 := by kernel_rfl
@[go_sem] theorem allSized87 : allSized Try.prog 87 = false := by kernel_rfl
@[go_sem] theorem zeroA87 : zeroA Try.prog 87 = some (.int .u32 0) := by kernel_rfl
@[go_sem] theorem eqTy87 : eqTy Try.prog 87 = none := by kernel_rfl
@[go_sem] theorem tyStr88 : tyStr Try.prog 88 = false := by kernel_rfl
@[go_sem] theorem tyBool88 : tyBool Try.prog 88 = false := by kernel_rfl
@[go_sem] theorem tyPtr88 : tyPtr Try.prog 88 = false := by kernel_rfl
@[go_sem] theorem tyElem88 : tyElem Try.prog 88 = none := by kernel_rfl
@[go_sem] theorem tyArr88 : tyArr Try.prog 88 = none := by kernel_rfl
@[go_sem] theorem tySize88 : tySize Try.prog 88 = some 1 := by kernel_rfl
@[go_sem] theorem tyAgg88 : tyAgg Try.prog 88 = some false := by kernel_rfl
@[go_sem] theorem tyInt88 : tyInt Try.prog 88 = none := by kernel_rfl
@[go_sem] theorem tyBytes88 : tyBytes Try.prog 88 = 8 := by kernel_rfl
@[go_sem] theorem allSized88 : allSized Try.prog 88 = false := by kernel_rfl
@[go_sem] theorem zeroA88 : zeroA Try.prog 88 = some .any := by kernel_rfl
@[go_sem] theorem eqTy88 : eqTy Try.prog 88 = none := by kernel_rfl
@[go_sem] theorem tyStr89 : tyStr Try.prog 89 = false := by kernel_rfl
@[go_sem] theorem tyBool89 : tyBool Try.prog 89 = false := by kernel_rfl
@[go_sem] theorem tyPtr89 : tyPtr Try.prog 89 = false := by kernel_rfl
@[go_sem] theorem tyElem89 : tyElem Try.prog 89 = none := by kernel_rfl
@[go_sem] theorem tyArr89 : tyArr Try.prog 89 = none := by kernel_rfl
@[go_sem] theorem tySize89 : tySize Try.prog 89 = some 1 := by kernel_rfl
@[go_sem] theorem tyAgg89 : tyAgg Try.prog 89 = some false := by kernel_rfl
@[go_sem] theorem tyInt89 : tyInt Try.prog 89 = some .u64 := by kernel_rfl
@[go_sem] theorem tyBytes89 : tyBytes Try.prog 89 = 8 := by kernel_rfl
@[go_sem] theorem allSized89 : allSized Try.prog 89 = false := by kernel_rfl
@[go_sem] theorem zeroA89 : zeroA Try.prog 89 = some (.int .u64 0) := by kernel_rfl
@[go_sem] theorem eqTy89 : eqTy Try.prog 89 = none := by kernel_rfl
@[go_sem] theorem tyStr90 : tyStr Try.prog 90 = false := by kernel_rfl
@[go_sem] theorem tyBool90 : tyBool Try.prog 90 = false := by kernel_rfl
@[go_sem] theorem tyPtr90 : tyPtr Try.prog 90 = false := by kernel_rfl
@[go_sem] theorem tyElem90 : tyElem Try.prog 90 = none := by kernel_rfl
@[go_sem] theorem tyArr90 : tyArr Try.prog 90 = none := by kernel_rfl
@[go_sem] theorem tySize90 : tySize Try.prog 90 = some 1 := by kernel_rfl
@[go_sem] theorem tyAgg90 : tyAgg Try.prog 90 = some false := by kernel_rfl
@[go_sem] theorem tyInt90 : tyInt Try.prog 90 = some .u64 := by kernel_rfl
@[go_sem] theorem tyBytes90 : tyBytes Try.prog 90 = 8 := by kernel_rfl
@[go_sem] theorem allSized90 : allSized Try.prog 90 = false := by kernel_rfl
@[go_sem] theorem zeroA90 : zeroA Try.prog 90 = some (.int .u64 0) := by kernel_rfl
@[go_sem] theorem eqTy90 : eqTy Try.prog 90 = none := by kernel_rfl
@[go_sem] theorem tyStr91 : tyStr Try.prog 91 = false := by kernel_rfl
@[go_sem] theorem tyBool91 : tyBool Try.prog 91 = false := by kernel_rfl
@[go_sem] theorem tyPtr91 : tyPtr Try.prog 91 = false := by kernel_rfl
@[go_sem] theorem tyElem91 : tyElem Try.prog 91 = none := by kernel_rfl
@[go_sem] theorem tyArr91 : tyArr Try.prog 91 = none := by kernel_rfl
@[go_sem] theorem tySize91 : tySize Try.prog 91 = some 1 := by kernel_rfl
@[go_sem] theorem tyAgg91 : tyAgg Try.prog 91 = some false := by kernel_rfl
@[go_sem] theorem tyInt91 : tyInt Try.prog 91 = none := by kernel_rfl
@[go_sem] theorem tyBytes91 : tyBytes Try.prog 91 = 8 := by kernel_rfl
@[go_sem] theorem allSized91 : allSized Try.prog 91 = false := by kernel_rfl
@[go_sem] theorem zeroA91 : zeroA Try.prog 91 = some .any := by kernel_rfl
@[go_sem] theorem eqTy91 : eqTy Try.prog 91 = none := by kernel_rfl
@[go_sem] theorem tyStr92 : tyStr Try.prog 92 = false := by kernel_rfl
@[go_sem] theorem tyBool92 : tyBool Try.prog 92 = false := by kernel_rfl
@[go_sem] theorem tyPtr92 : tyPtr Try.prog 92 = false := by kernel_rfl
@[go_sem] theorem tyElem92 : tyElem Try.prog 92 = none := by kernel_rfl
@[go_sem] theorem tyArr92 : tyArr Try.prog 92 = none := by kernel_rfl
@[go_sem] theorem tySize92 : tySize Try.prog 92 = some 1 := by kernel_rfl
@[go_sem] theorem tyAgg92 : tyAgg Try.prog 92 = some false := by kernel_rfl
@[go_sem] theorem tyInt92 : tyInt Try.prog 92 = none := by kernel_rfl
@[go_sem] theorem tyBytes92 : tyBytes Try.prog 92 = 8 := by kernel_rfl
@[go_sem] theorem allSized92 : allSized Try.prog 92 = false := by kernel_rfl
@[go_sem] theorem zeroA92 : zeroA Try.prog 92 = some .any := by kernel_rfl
@[go_sem] theorem eqTy92 : eqTy Try.prog 92 = none := by kernel_rfl
@[go_sem] theorem tyStr93 : tyStr Try.prog 93 = false := by kernel_rfl
@[go_sem] theorem tyBool93 : tyBool Try.prog 93 = false := by kernel_rfl
@[go_sem] theorem tyPtr93 : tyPtr Try.prog 93 = false := by kernel_rfl
@[go_sem] theorem tyElem93 : tyElem Try.prog 93 = none := by kernel_rfl
@[go_sem] theorem tyArr93 : tyArr Try.prog 93 = none := by kernel_rfl
@[go_sem] theorem tySize93 : tySize Try.prog 93 = some 1 := by kernel_rfl
@[go_sem] theorem tyAgg93 : tyAgg Try.prog 93 = some false := by kernel_rfl
@[go_sem] theorem tyInt93 : tyInt Try.prog 93 = none := by kernel_rfl
@[go_sem] theorem tyBytes93 : tyBytes Try.prog 93 = 8 := by kernel_rfl
@[go_sem] theorem allSized93 : allSized Try.prog 93 = false := by kernel_rfl
@[go_sem] theorem zeroA93 : zeroA Try.prog 93 = some .any := by kernel_rfl
@[go_sem] theorem eqTy93 : eqTy Try.prog 93 = none := by kernel_rfl
@[go_sem] theorem tyStr94 : tyStr Try.prog 94 = false := by kernel_rfl
@[go_sem] theorem tyBool94 : tyBool Try.prog 94 = false := by kernel_rfl
@[go_sem] theorem tyPtr94 : tyPtr Try.prog 94 = true := by kernel_rfl
@[go_sem] theorem tyElem94 : tyElem Try.prog 94 = none := by kernel_rfl
@[go_sem] theorem tyArr94 : tyArr Try.prog 94 = none := by kernel_rfl
@[go_sem] theorem tySize94 : tySize Try.prog 94 = some 1 := by kernel_rfl
@[go_sem] theorem tyAgg94 : tyAgg Try.prog 94 = some false := by kernel_rfl
@[go_sem] theorem tyInt94 : tyInt Try.prog 94 = none := by kernel_rfl
@[go_sem] theorem tyBytes94 : tyBytes Try.prog 94 = 8 := by kernel_rfl
@[go_sem] theorem allSized94 : allSized Try.prog 94 = false := by kernel_rfl
@[go_sem] theorem zeroA94 : zeroA Try.prog 94 = some .nilp := by kernel_rfl
@[go_sem] theorem eqTy94 : eqTy Try.prog 94 = none := by kernel_rfl
@[go_sem] theorem tyStr95 : tyStr Try.prog 95 = false := by kernel_rfl
@[go_sem] theorem tyBool95 : tyBool Try.prog 95 = false := by kernel_rfl
@[go_sem] theorem tyPtr95 : tyPtr Try.prog 95 = false := by kernel_rfl
@[go_sem] theorem tyElem95 : tyElem Try.prog 95 = none := by kernel_rfl
@[go_sem] theorem tyArr95 : tyArr Try.prog 95 = none := by kernel_rfl
@[go_sem] theorem tySize95 : tySize Try.prog 95 = some 1 := by kernel_rfl
@[go_sem] theorem tyAgg95 : tyAgg Try.prog 95 = some false := by kernel_rfl
@[go_sem] theorem tyInt95 : tyInt Try.prog 95 = none := by kernel_rfl
@[go_sem] theorem tyBytes95 : tyBytes Try.prog 95 = 8 := by kernel_rfl
@[go_sem] theorem allSized95 : allSized Try.prog 95 = false := by kernel_rfl
@[go_sem] theorem zeroA95 : zeroA Try.prog 95 = some .any := by kernel_rfl
@[go_sem] theorem eqTy95 : eqTy Try.prog 95 = none := by kernel_rfl
@[go_sem] theorem tyStr96 : tyStr Try.prog 96 = false := by kernel_rfl
@[go_sem] theorem tyBool96 : tyBool Try.prog 96 = false := by kernel_rfl
@[go_sem] theorem tyPtr96 : tyPtr Try.prog 96 = true := by kernel_rfl
@[go_sem] theorem tyElem96 : tyElem Try.prog 96 = none := by kernel_rfl
@[go_sem] theorem tyArr96 : tyArr Try.prog 96 = none := by kernel_rfl
@[go_sem] theorem tySize96 : tySize Try.prog 96 = some 1 := by kernel_rfl
@[go_sem] theorem tyAgg96 : tyAgg Try.prog 96 = some false := by kernel_rfl
@[go_sem] theorem tyInt96 : tyInt Try.prog 96 = none := by kernel_rfl
@[go_sem] theorem tyBytes96 : tyBytes Try.prog 96 = 8 := by kernel_rfl
@[go_sem] theorem allSized96 : allSized Try.prog 96 = false := by kernel_rfl
@[go_sem] theorem zeroA96 : zeroA Try.prog 96 = some .nilp := by kernel_rfl
@[go_sem] theorem eqTy96 : eqTy Try.prog 96 = none := by kernel_rfl
@[go_sem] theorem tyStr97 : tyStr Try.prog 97 = false := by kernel_rfl
@[go_sem] theorem tyBool97 : tyBool Try.prog 97 = false := by kernel_rfl
@[go_sem] theorem tyPtr97 : tyPtr Try.prog 97 = false := by kernel_rfl
@[go_sem] theorem tyElem97 : tyElem Try.prog 97 = none := by kernel_rfl
@[go_sem] theorem tyArr97 : tyArr Try.prog 97 = none := by kernel_rfl
@[go_sem] theorem tySize97 : tySize Try.prog 97 = some 1 := by kernel_rfl
@[go_sem] theorem tyAgg97 : tyAgg Try.prog 97 = some false := by kernel_rfl
@[go_sem] theorem tyInt97 : tyInt Try.prog 97 = none := by kernel_rfl
@[go_sem] theorem tyBytes97 : tyBytes Try.prog 97 = 0 := by kernel_rfl
@[go_sem] theorem allSized97 : allSized Try.prog 97 = false := by kernel_rfl
@[go_sem] theorem zeroA97 : zeroA Try.prog 97 = some .any := by kernel_rfl
@[go_sem] theorem eqTy97 : eqTy Try.prog 97 = none := by kernel_rfl
@[go_sem] theorem tyStr98 : tyStr Try.prog 98 = false := by kernel_rfl
@[go_sem] theorem tyBool98 : tyBool Try.prog 98 = false := by kernel_rfl
@[go_sem] theorem tyPtr98 : tyPtr Try.prog 98 = false := by kernel_rfl
@[go_sem] theorem tyElem98 : tyElem Try.prog 98 = none := by kernel_rfl
@[go_sem] theorem tyArr98 : tyArr Try.prog 98 = none := by kernel_rfl
@[go_sem] theorem tySize98 : tySize Try.prog 98 = some 1 := by kernel_rfl
@[go_sem] theorem tyAgg98 : tyAgg Try.prog 98 = some false := by kernel_rfl
@[go_sem] theorem tyInt98 : tyInt Try.prog 98 = none := by kernel_rfl
@[go_sem] theorem tyBytes98 : tyBytes Try.prog 98 = 8 := by kernel_rfl
@[go_sem] theorem allSized98 : allSized Try.prog 98 = false := by kernel_rfl
@[go_sem] theorem zeroA98 : zeroA Try.prog 98 = some .any := by kernel_rfl
@[go_sem] theorem eqTy98 : eqTy Try.prog 98 = none := by kernel_rfl
@[go_sem] theorem tyStr99 : tyStr Try.prog 99 = false := by kernel_rfl
@[go_sem] theorem tyBool99 : tyBool Try.prog 99 = false := by kernel_rfl
@[go_sem] theorem tyPtr99 : tyPtr Try.prog 99 = false := by kernel_rfl
@[go_sem] theorem tyElem99 : tyElem Try.prog 99 = none := by kernel_rfl
@[go_sem] theorem tyArr99 : tyArr Try.prog 99 = none := by kernel_rfl
@[go_sem] theorem tySize99 : tySize Try.prog 99 = some 1 := by kernel_rfl
@[go_sem] theorem tyAgg99 : tyAgg Try.prog 99 = some false := by kernel_rfl
@[go_sem] theorem tyInt99 : tyInt Try.prog 99 = none := by kernel_rfl
@[go_sem] theorem tyBytes99 : tyBytes Try.prog 99 = 8 := by kernel_rfl
@[go_sem] theorem allSized99 : allSized Try.prog 99 = false := by kernel_rfl
@[go_sem] theorem zeroA99 : zeroA Try.prog 99 = some .any := by kernel_rfl
@[go_sem] theorem eqTy99 : eqTy Try.prog 99 = none := by kernel_rfl
@[go_sem] theorem tyStr100 : tyStr Try.prog 100 = false := by kernel_rfl
@[go_sem] theorem tyBool100 : tyBool Try.prog 100 = false := by kernel_rfl
@[go_sem] theorem tyPtr100 : tyPtr Try.prog 100 = false := by kernel_rfl
@[go_sem] theorem tyElem100 : tyElem Try.prog 100 = none := by kernel_rfl
@[go_sem] theorem tyArr100 : tyArr Try.prog 100 = none := by kernel_rfl
@[go_sem] theorem tySize100 : tySize Try.prog 100 = some 4 := by kernel_rfl
@[go_sem] theorem tyAgg100 : tyAgg Try.prog 100 = some true := by kernel_rfl
@[go_sem] theorem tyInt100 : tyInt Try.prog 100 = none := by kernel_rfl
@[go_sem] theorem tyBytes100 : tyBytes Try.prog 100 = 40 := by kernel_rfl
@[go_sem] theorem allSized100 : allSized Try.prog 100 = true := by kernel_rfl
@[go_sem] theorem zeroA100 : zeroA Try.prog 100 = some (.agg [.nilp, .nilp, .nilp, .str []]) := by kernel_rfl
@[go_sem] theorem eqTy100 : eqTy Try.prog 100 = none := by kernel_rfl
@[go_sem] theorem fi100_0 : fieldInfo Try.prog 100 0 = some (0, 17) := by kernel_rfl
@[go_sem] theorem fi100_1 : fieldInfo Try.prog 100 1 = some (1, 17) := by kernel_rfl
@[go_sem] theorem fi100_2 : fieldInfo Try.prog 100 2 = some (2, 17) := by kernel_rfl
@[go_sem] theorem fi100_3 : fieldInfo Try.prog 100 3 = some (3, 9) := by kernel_rfl
@[go_sem] theorem tyStr101 : tyStr Try.prog 101 = false := by kernel_rfl
@[go_sem] theorem tyBool101 : tyBool Try.prog 101 = false := by kernel_rfl
@[go_sem] theorem tyPtr101 : tyPtr Try.prog 101 = false := by kernel_rfl
@[go_sem] theorem tyElem101 : tyElem Try.prog 101 = none := by kernel_rfl
@[go_sem] theorem tyArr101 : tyArr Try.prog 101 = none := by kernel_rfl
@[go_sem] theorem tySize101 : tySize Try.prog 101 = some 4 := by kernel_rfl
@[go_sem] theorem tyAgg101 : tyAgg Try.prog 101 = some true := by kernel_rfl
@[go_sem] theorem tyInt101 : tyInt Try.prog 101 = none := by kernel_rfl
@[go_sem] theorem tyBytes101 : tyBytes Try.prog 101 = 40 := by kernel_rfl
@[go_sem] theorem allSized101 : allSized Try.prog 101 = true := by kernel_rfl
@[go_sem] theorem zeroA101 : zeroA Try.prog 101 = some (.agg [.nilp, .nilp, .nilp, .str []]) := by kernel_rfl
@[go_sem] theorem eqTy101 : eqTy Try.prog 101 = none := by kernel_rfl
@[go_sem] theorem fi101_0 : fieldInfo Try.prog 101 0 = some (0, 17) := by kernel_rfl
@[go_sem] theorem fi101_1 : fieldInfo Try.prog 101 1 = some (1, 17) := by kernel_rfl
@[go_sem] theorem fi101_2 : fieldInfo Try.prog 101 2 = some (2, 17) := by kernel_rfl
@[go_sem] theorem fi101_3 : fieldInfo Try.prog 101 3 = some (3, 9) := by kernel_rfl
@[go_sem] theorem tyStr102 : tyStr Try.prog 102 = false := by kernel_rfl
@[go_sem] theorem tyBool102 : tyBool Try.prog 102 = false := by kernel_rfl
@[go_sem] theorem tyPtr102 : tyPtr Try.prog 102 = false := by kernel_rfl
@[go_sem] theorem tyElem102 : tyElem Try.prog 102 = none := by kernel_rfl
@[go_sem] theorem tyArr102 : tyArr Try.prog 102 = some (0, 16) := by kernel_rfl
@[go_sem] theorem tySize102 : tySize Try.prog 102 = some 0 := by kernel_rfl
@[go_sem] theorem tyAgg102 : tyAgg Try.prog 102 = some true := by kernel_rfl
@[go_sem] theorem tyInt102 : tyInt Try.prog 102 = none := by kernel_rfl
@[go_sem] theorem tyBytes102 : tyBytes Try.prog 102 = 0 := by kernel_rfl
@[go_sem] theorem allSized102 : allSized Try.prog 102 = false := by kernel_rfl
@[go_sem] theorem zeroA102 : zeroA Try.prog 102 = some (.agg []) := by kernel_rfl
@[go_sem] theorem eqTy102 : eqTy Try.prog 102 = none := by kernel_rfl
@[go_sem] theorem tyStr103 : tyStr Try.prog 103 = false := by kernel_rfl
@[go_sem] theorem tyBool103 : tyBool Try.prog 103 = false := by kernel_rfl
@[go_sem] theorem tyPtr103 : tyPtr Try.prog 103 = false := by kernel_rfl
@[go_sem] theorem tyElem103 : tyElem Try.prog 103 = none := by kernel_rfl
@[go_sem] theorem tyArr103 : tyArr Try.prog 103 = none := by kernel_rfl
@[go_sem] theorem tySize103 : tySize Try.prog 103 = some 0 := by kernel_rfl
@[go_sem] theorem tyAgg103 : tyAgg Try.prog 103 = some true := by kernel_rfl
@[go_sem] theorem tyInt103 : tyInt Try.prog 103 = none := by kernel_rfl
@[go_sem] theorem tyBytes103 : tyBytes Try.prog 103 = 0 := by kernel_rfl
@[go_sem] theorem allSized103 : allSized Try.prog 103 = true := by kernel_rfl
@[go_sem] theorem zeroA103 : zeroA Try.prog 103 = some (.agg []) := by kernel_rfl
@[go_sem] theorem eqTy103 : eqTy Try.prog 103 = none := by kernel_rfl
@[go_sem] theorem tyStr104 : tyStr Try.prog 104 = false := by kernel_rfl
@[go_sem] theorem tyBool104 : tyBool Try.prog 104 = false := by kernel_rfl
@[go_sem] theorem tyPtr104 : tyPtr Try.prog 104 = false := by kernel_rfl
@[go_sem] theorem tyElem104 : tyElem Try.prog 104 = none := by kernel_rfl
@[go_sem] theorem tyArr104 : tyArr Try.prog 104 = none := by kernel_rfl
@[go_sem] theorem tySize104 : tySize Try.prog 104 = some 0 := by kernel_rfl
@[go_sem] theorem tyAgg104 : tyAgg Try.prog 104 = some true := by kernel_rfl
@[go_sem] theorem tyInt104 : tyInt Try.prog 104 = none := by kernel_rfl
@[go_sem] theorem tyBytes104 : tyBytes Try.prog 104 = 0 := by kernel_rfl
@[go_sem] theorem allSized104 : allSized Try.prog 104 = true := by kernel_rfl
@[go_sem] theorem zeroA104 : zeroA Try.prog 104 = some (.agg []) := by kernel_rfl
@[go_sem] theorem eqTy104 : eqTy Try.prog 104 = none := by kernel_rfl
@[go_sem] theorem tyStr105 : tyStr Try.prog 105 = false := by kernel_rfl
@[go_sem] theorem tyBool105 : tyBool Try.prog 105 = false := by kernel_rfl
@[go_sem] theorem tyPtr105 : tyPtr Try.prog 105 = false := by kernel_rfl
@[go_sem] theorem tyElem105 : tyElem Try.prog 105 = none := by kernel_rfl
@[go_sem] theorem tyArr105 : tyArr Try.prog 105 = none := by kernel_rfl
@[go_sem] theorem tySize105 : tySize Try.prog 105 = some 1 := by kernel_rfl
@[go_sem] theorem tyAgg105 : tyAgg Try.prog 105 = some false := by kernel_rfl
@[go_sem] theorem tyInt105 : tyInt Try.prog 105 = none := by kernel_rfl
@[go_sem] theorem tyBytes105 : tyBytes Try.prog 105 = 8 := by kernel_rfl
@[go_sem] theorem allSized105 : allSized Try.prog 105 = false := by kernel_rfl
@[go_sem] theorem zeroA105 : zeroA Try.prog 105 = some .any := by kernel_rfl
@[go_sem] theorem eqTy105 : eqTy Try.prog 105 = none := by kernel_rfl
@[go_sem] theorem tyStr106 : tyStr Try.prog 106 = false := by kernel_rfl
@[go_sem] theorem tyBool106 : tyBool Try.prog 106 = false := by kernel_rfl
@[go_sem] theorem tyPtr106 : tyPtr Try.prog 106 = false := by kernel_rfl
@[go_sem] theorem tyElem106 : tyElem Try.prog 106 = none := by kernel_rfl
@[go_sem] theorem tyArr106 : tyArr Try.prog 106 = none := by kernel_rfl
@[go_sem] theorem tySize106 : tySize Try.prog 106 = some 1 := by kernel_rfl
@[go_sem] theorem tyAgg106 : tyAgg Try.prog 106 = some false := by kernel_rfl
@[go_sem] theorem tyInt106 : tyInt Try.prog 106 = some .u8 := by kernel_rfl
@[go_sem] theorem tyBytes106 : tyBytes Try.prog 106 = 1 := by kernel_rfl
@[go_sem] theorem allSized106 : allSized Try.prog 106 = false := by kernel_rfl
@[go_sem] theorem zeroA106 : zeroA Try.prog 106 = some (.int .u8 0) := by kernel_rfl
@[go_sem] theorem eqTy106 : eqTy Try.prog 106 = none := by kernel_rfl
@[go_sem] theorem tyStr107 : tyStr Try.prog 107 = false := by kernel_rfl
@[go_sem] theorem tyBool107 : tyBool Try.prog 107 = false := by kernel_rfl
@[go_sem] theorem tyPtr107 : tyPtr Try.prog 107 = false := by kernel_rfl
@[go_sem] theorem tyElem107 : tyElem Try.prog 107 = none := by kernel_rfl
@[go_sem] theorem tyArr107 : tyArr Try.prog 107 = none := by kernel_rfl
@[go_sem] theorem tySize107 : tySize Try.prog 107 = some 1 := by kernel_rfl
@[go_sem] theorem tyAgg107 : tyAgg Try.prog 107 = some false := by kernel_rfl
@[go_sem] theorem tyInt107 : tyInt Try.prog 107 = some .u8 := by kernel_rfl
@[go_sem] theorem tyBytes107 : tyBytes Try.prog 107 = 1 := by kernel_rfl
@[go_sem] theorem allSized107 : allSized Try.prog 107 = false := by kernel_rfl
@[go_sem] theorem zeroA107 : zeroA Try.prog 107 = some (.int .u8 0) := by kernel_rfl
@[go_sem] theorem eqTy107 : eqTy Try.prog 107 = none := by kernel_rfl
@[go_sem] theorem tyStr108 : tyStr Try.prog 108 = false := by kernel_rfl
@[go_sem] theorem tyBool108 : tyBool Try.prog 108 = false := by kernel_rfl
@[go_sem] theorem tyPtr108 : tyPtr Try.prog 108 = false := by kernel_rfl
@[go_sem] theorem tyElem108 : tyElem Try.prog 108 = none := by kernel_rfl
@[go_sem] theorem tyArr108 : tyArr Try.prog 108 = none := by kernel_rfl
@[go_sem] theorem tySize108 : tySize Try.prog 108 = some 1 := by kernel_rfl
@[go_sem] theorem tyAgg108 : tyAgg Try.prog 108 = some false := by kernel_rfl
@[go_sem] theorem tyInt108 : tyInt Try.prog 108 = none := by kernel_rfl
@[go_sem] theorem tyBytes108 : tyBytes Try.prog 108 = 8 := by kernel_rfl
@[go_sem] theorem allSized108 : allSized Try.prog 108 = false := by kernel_rfl
@[go_sem] theorem zeroA108 : zeroA Try.prog 108 = some .any := by kernel_rfl
@[go_sem] theorem eqTy108 : eqTy Try.prog 108 = none := by kernel_rfl
@[go_sem] theorem tyStr109 : tyStr Try.prog 109 = false := by kernel_rfl
@[go_sem] theorem tyBool109 : tyBool Try.prog 109 = false := by kernel_rfl
@[go_sem] theorem tyPtr109 : tyPtr Try.prog 109 = true := by kernel_rfl
@[go_sem] theorem tyElem109 : tyElem Try.prog 109 = none := by kernel_rfl
@[go_sem] theorem tyArr109 : tyArr Try.prog 109 = none := by kernel_rfl
@[go_sem] theorem tySize109 : tySize Try.prog 109 = some 1 := by kernel_rfl
@[go_sem] theorem tyAgg109 : tyAgg Try.prog 109 = some false := by kernel_rfl
@[go_sem] theorem tyInt109 : tyInt Try.prog 109 = none := by kernel_rfl
@[go_sem] theorem tyBytes109 : tyBytes Try.prog 109 = 8 := by kernel_rfl
@[go_sem] theorem allSized109 : allSized Try.prog 109 = false := by kernel_rfl
@[go_sem] theorem zeroA109 : zeroA Try.prog 109 = some .nilp := by kernel_rfl
@[go_sem] theorem eqTy109 : eqTy Try.prog 109 = none := by kernel_rfl
@[go_sem] theorem tyStr110 : tyStr Try.prog 110 = false := by kernel_rfl
@[go_sem] theorem tyBool110 : tyBool Try.prog 110 = false := by kernel_rfl
@[go_sem] theorem tyPtr110 : tyPtr Try.prog 110 = false := by kernel_rfl
@[go_sem] theorem tyElem110 : tyElem Try.prog 110 = none := by kernel_rfl
@[go_sem] theorem tyArr110 : tyArr Try.prog 110 = none := by kernel_rfl
@[go_sem] theorem tySize110 : tySize Try.prog 110 = some 1 := by kernel_rfl
@[go_sem] theorem tyAgg110 : tyAgg Try.prog 110 = some false := by kernel_rfl
@[go_sem] theorem tyInt110 : tyInt Try.prog 110 = some .i32 := by kernel_rfl
@[go_sem] theorem tyBytes110 : tyBytes Try.prog 110 = 4 := by kernel_rfl
@[go_sem] theorem allSized110 : allSized Try.prog 110 = false := by kernel_rfl
@[go_sem] theorem zeroA110 : zeroA Try.prog 110 = some (.int .i32 0) := by kernel_rfl
@[go_sem] theorem eqTy110 : eqTy Try.prog 110 = none := by kernel_rfl
@[go_sem] theorem tyStr111 : tyStr Try.prog 111 = false := by kernel_rfl
@[go_sem] theorem tyBool111 : tyBool Try.prog 111 = false := by kernel_rfl
@[go_sem] theorem tyPtr111 : tyPtr Try.prog 111 = false := by kernel_rfl
@[go_sem] theorem tyElem111 : tyElem Try.prog 111 = none := by kernel_rfl
@[go_sem] theorem tyArr111 : tyArr Try.prog 111 = none := by kernel_rfl
@[go_sem] theorem tySize111 : tySize Try.prog 111 = some 1 := by kernel_rfl
@[go_sem] theorem tyAgg111 : tyAgg Try.prog 111 = some false := by kernel_rfl
@[go_sem] theorem tyInt111 : tyInt Try.prog 111 = some .i32 := by kernel_rfl
@[go_sem] theorem tyBytes111 : tyBytes Try.prog 111 = 4 := by kernel_rfl
@[go_sem] theorem allSized111 : allSized Try.prog 111 = false := by kernel_rfl
@[go_sem] theorem zeroA111 : zeroA Try.prog 111 = some (.int .i32 0) := by kernel_rfl
@[go_sem] theorem eqTy111 : eqTy Try.prog 111 = none := by kernel_rfl
@[go_sem] theorem tyStr112 : tyStr Try.prog 112 = false := by kernel_rfl
@[go_sem] theorem tyBool112 : tyBool Try.prog 112 = false := by kernel_rfl
@[go_sem] theorem tyPtr112 : tyPtr Try.prog 112 = false := by kernel_rfl
@[go_sem] theorem tyElem112 : tyElem Try.prog 112 = none := by kernel_rfl
@[go_sem] theorem tyArr112 : tyArr Try.prog 112 = none := by kernel_rfl
@[go_sem] theorem tySize112 : tySize Try.prog 112 = some 11 := by kernel_rfl
@[go_sem] theorem tyAgg112 : tyAgg Try.prog 112 = some true := by kernel_rfl
@[go_sem] theorem tyInt112 : tyInt Try.prog 112 = none := by kernel_rfl
@[go_sem] theorem tyBytes112 : tyBytes Try.prog 112 = 48 := by kernel_rfl
@[go_sem] theorem allSized112 : allSized Try.prog 112 = true := by kernel_rfl
@[go_sem] theorem zeroA112 : zeroA Try.prog 112 = some (.agg [.int .u64 0, .int .u64 0, .int .u32 0, .int .u8 0, .int .u8 0, .int .u8 0, .int .u8 0, .any, .nilp, .int .i32 0, .int .i32 0]) := by kernel_rfl
@[go_sem] theorem eqTy112 : eqTy Try.prog 112 = none := by kernel_rfl
@[go_sem] theorem fi112_0 : fieldInfo Try.prog 112 0 = some (0, 12) := by kernel_rfl
@[go_sem] theorem fi112_1 : fieldInfo Try.prog 112 1 = some (1, 12) := by kernel_rfl
@[go_sem] theorem fi112_2 : fieldInfo Try.prog 112 2 = some (2, 87) := by kernel_rfl
@[go_sem] theorem fi112_3 : fieldInfo Try.prog 112 3 = some (3, 106) := by kernel_rfl
@[go_sem] theorem fi112_4 : fieldInfo Try.prog 112 4 = some (4, 5) := by kernel_rfl
@[go_sem] theorem fi112_5 : fieldInfo Try.prog 112 5 = some (5, 5) := by kernel_rfl
@[go_sem] theorem fi112_6 : fieldInfo Try.prog 112 6 = some (6, 107) := by kernel_rfl
@[go_sem] theorem fi112_7 : fieldInfo Try.prog 112 7 = some (7, 108) := by kernel_rfl
@[go_sem] theorem fi112_8 : fieldInfo Try.prog 112 8 = some (8, 109) := by kernel_rfl
@[go_sem] theorem fi112_9 : fieldInfo Try.prog 112 9 = some (9, 110) := by kernel_rfl
@[go_sem] theorem fi112_10 : fieldInfo Try.prog 112 10 = some (10, 111) := by kernel_rfl
@[go_sem] theorem tyStr113 : tyStr Try.prog 113 = false := by kernel_rfl
@[go_sem] theorem tyBool113 : tyBool Try.prog 113 = false := by kernel_rfl
@[go_sem] theorem tyPtr113 : tyPtr Try.prog 113 = false := by kernel_rfl
@[go_sem] theorem tyElem113 : tyElem Try.prog 113 = none := by kernel_rfl
@[go_sem] theorem tyArr113 : tyArr Try.prog 113 = none := by kernel_rfl
@[go_sem] theorem tySize113 : tySize Try.prog 113 = some 11 := by kernel_rfl
@[go_sem] theorem tyAgg113 : tyAgg Try.prog 113 = some true := by kernel_rfl
@[go_sem] theorem tyInt113 : tyInt Try.prog 113 = none := by kernel_rfl
@[go_sem] theorem tyBytes113 : tyBytes Try.prog 113 = 48 := by kernel_rfl
@[go_sem] theorem allSized113 : allSized Try.prog 113 = true := by kernel_rfl
@[go_sem] theorem zeroA113 : zeroA Try.prog 113 = some (.agg [.int .u64 0, .int .u64 0, .int .u32 0, .int .u8 0, .int .u8 0, .int .u8 0, .int .u8 0, .any, .nilp, .int .i32 0, .int .i32 0]) := by kernel_rfl
@[go_sem] theorem eqTy113 : eqTy Try.prog 113 = none := by kernel_rfl
@[go_sem] theorem fi113_0 : fieldInfo Try.prog 113 0 = some (0, 12) := by kernel_rfl
@[go_sem] theorem fi113_1 : fieldInfo Try.prog 113 1 = some (1, 12) := by kernel_rfl
@[go_sem] theorem fi113_2 : fieldInfo Try.prog 113 2 = some (2, 87) := by kernel_rfl
@[go_sem] theorem fi113_3 : fieldInfo Try.prog 113 3 = some (3, 106) := by kernel_rfl
@[go_sem] theorem fi113_4 : fieldInfo Try.prog 113 4 = some (4, 5) := by kernel_rfl
@[go_sem] theorem fi113_5 : fieldInfo Try.prog 113 5 = some (5, 5) := by kernel_rfl
@[go_sem] theorem fi113_6 : fieldInfo Try.prog 113 6 = some (6, 107) := by kernel_rfl
@[go_sem] theorem fi113_7 : fieldInfo Try.prog 113 7 = some (7, 108) := by kernel_rfl
@[go_sem] theorem fi113_8 : fieldInfo Try.prog 113 8 = some (8, 109) := by kernel_rfl
@[go_sem] theorem fi113_9 : fieldInfo Try.prog 113 9 = some (9, 110) := by kernel_rfl
@[go_sem] theorem fi113_10 : fieldInfo Try.prog 113 10 = some (10, 111) := by kernel_rfl
@[go_sem] theorem tyStr114 : tyStr Try.prog 114 = false := by kernel_rfl
@[go_sem] theorem tyBool114 : tyBool Try.prog 114 = false := by kernel_rfl
@[go_sem] theorem tyPtr114 : tyPtr Try.prog 114 = false := by kernel_rfl
@[go_sem] theorem tyElem114 : tyElem Try.prog 114 = none := by kernel_rfl
@[go_sem] theorem tyArr114 : tyArr Try.prog 114 = none := by kernel_rfl
@[go_sem] theorem tySize114 : tySize Try.prog 114 = some 1 := by kernel_rfl
@[go_sem] theorem tyAgg114 : tyAgg Try.prog 114 = some false := by kernel_rfl
@[go_sem] theorem tyInt114 : tyInt Try.prog 114 = none := by kernel_rfl
@[go_sem] theorem tyBytes114 : tyBytes Try.prog 114 = 8 := by kernel_rfl
@[go_sem] theorem allSized114 : allSized Try.prog 114 = false := by kernel_rfl
@[go_sem] theorem zeroA114 : zeroA Try.prog 114 = some .nilp := by kernel_rfl
@[go_sem] theorem eqTy114 : eqTy Try.prog 114 = none := by kernel_rfl
@[go_sem] theorem zeroOK0 : zeroOK Try.prog 0 1 = false := by kernel_rfl
@[go_sem] theorem zeroOK1 : zeroOK Try.prog 1 1 = false := by kernel_rfl
@[go_sem] theorem zeroOK2 : zeroOK Try.prog 2 1 = true := by kernel_rfl
@[go_sem] theorem zeroOK3 : zeroOK Try.prog 3 1 = true := by kernel_rfl
@[go_sem] theorem zeroOK4 : zeroOK Try.prog 4 1 = true := by kernel_rfl
@[go_sem] theorem zeroOK5 : zeroOK Try.prog 5 1 = true := by kernel_rfl
@[go_sem] theorem zeroOK6 : zeroOK Try.prog 6 1 = true := by kernel_rfl
@[go_sem] theorem zeroOK7 : zeroOK Try.prog 7 4 = true := by kernel_rfl
@[go_sem] theorem zeroOK8 : zeroOK Try.prog 8 4 = true := by kernel_rfl
@[go_sem] theorem zeroOK9 : zeroOK Try.prog 9 1 = true := by kernel_rfl
@[go_sem] theorem zeroOK10 : zeroOK Try.prog 10 1 = true := by kernel_rfl
@[go_sem] theorem zeroOK11 : zeroOK Try.prog 11 1 = true := by kernel_rfl
@[go_sem] theorem zeroOK12 : zeroOK Try.prog 12 1 = true := by kernel_rfl
@[go_sem] theorem zeroOK13 : zeroOK Try.prog 13 2 = true := by kernel_rfl
@[go_sem] theorem zeroOK14 : zeroOK Try.prog 14 2 = true := by kernel_rfl
@[go_sem] theorem zeroOK15 : zeroOK Try.prog 15 1 = true := by kernel_rfl
@[go_sem] theorem zeroOK16 : zeroOK Try.prog 16 1 = true := by kernel_rfl
@[go_sem] theorem zeroOK17 : zeroOK Try.prog 17 1 = true := by kernel_rfl
@[go_sem] theorem zeroOK18 : zeroOK Try.prog 18 1 = true := by kernel_rfl
@[go_sem] theorem zeroOK19 : zeroOK Try.prog 19 1 = true := by kernel_rfl
@[go_sem] theorem zeroOK20 : zeroOK Try.prog 20 1 = false := by kernel_rfl
@[go_sem] theorem zeroOK21 : zeroOK Try.prog 21 1 = true := by kernel_rfl
@[go_sem] theorem zeroOK22 : zeroOK Try.prog 22 1 = true := by kernel_rfl
@[go_sem] theorem zeroOK23 : zeroOK Try.prog 23 1 = false := by kernel_rfl
@[go_sem] theorem zeroOK24 : zeroOK Try.prog 24 1 = false := by kernel_rfl
@[go_sem] theorem zeroOK25 : zeroOK Try.prog 25 16 = true := by kernel_rfl
@[go_sem] theorem zeroOK26 : zeroOK Try.prog 26 1 = false := by kernel_rfl
@[go_sem] theorem zeroOK27 : zeroOK Try.prog 27 1 = true := by kernel_rfl
@[go_sem] theorem zeroOK28 : zeroOK Try.prog 28 1 = false := by kernel_rfl
@[go_sem] theorem zeroOK29 : zeroOK Try.prog 29 1 = false := by kernel_rfl
@[go_sem] theorem zeroOK30 : zeroOK Try.prog 30 2 = true := by kernel_rfl
@[go_sem] theorem zeroOK31 : zeroOK Try.prog 31 2 = true := by kernel_rfl
@[go_sem] theorem zeroOK32 : zeroOK Try.prog 32 1 = false := by kernel_rfl
@[go_sem] theorem zeroOK33 : zeroOK Try.prog 33 1 = true := by kernel_rfl
@[go_sem] theorem zeroOK34 : zeroOK Try.prog 34 2 = true := by kernel_rfl
@[go_sem] theorem zeroOK35 : zeroOK Try.prog 35 2 = true := by kernel_rfl
@[go_sem] theorem zeroOK36 : zeroOK Try.prog 36 1 = false := by kernel_rfl
@[go_sem] theorem zeroOK37 : zeroOK Try.prog 37 1 = false := by kernel_rfl
@[go_sem] theorem zeroOK38 : zeroOK Try.prog 38 1 = false := by kernel_rfl
@[go_sem] theorem zeroOK39 : zeroOK Try.prog 39 1 = false := by kernel_rfl
@[go_sem] theorem zeroOK40 : zeroOK Try.prog 40 1 = false := by kernel_rfl
@[go_sem] theorem zeroOK41 : zeroOK Try.prog 41 1 = false := by kernel_rfl
@[go_sem] theorem zeroOK42 : zeroOK Try.prog 42 1 = false := by kernel_rfl
@[go_sem] theorem zeroOK43 : zeroOK Try.prog 43 1 = false := by kernel_rfl
@[go_sem] theorem zeroOK44 : zeroOK Try.prog 44 1 = false := by kernel_rfl
@[go_sem] theorem zeroOK45 : zeroOK Try.prog 45 1 = false := by kernel_rfl
@[go_sem] theorem zeroOK46 : zeroOK Try.prog 46 1 = false := by kernel_rfl
@[go_sem] theorem zeroOK47 : zeroOK Try.prog 47 2 = true := by kernel_rfl
@[go_sem] theorem zeroOK48 : zeroOK Try.prog 48 2 = true := by kernel_rfl
@[go_sem] theorem zeroOK49 : zeroOK Try.prog 49 16 = true := by kernel_rfl
@[go_sem] theorem zeroOK50 : zeroOK Try.prog 50 16 = true := by kernel_rfl
@[go_sem] theorem zeroOK51 : zeroOK Try.prog 51 1 = false := by kernel_rfl
@[go_sem] theorem zeroOK52 : zeroOK Try.prog 52 1 = false := by kernel_rfl
@[go_sem] theorem zeroOK53 : zeroOK Try.prog 53 1 = false := by kernel_rfl
@[go_sem] theorem zeroOK54 : zeroOK Try.prog 54 1 = false := by kernel_rfl
@[go_sem] theorem zeroOK55 : zeroOK Try.prog 55 1 = false := by kernel_rfl
@[go_sem] theorem zeroOK56 : zeroOK Try.prog 56 1 = false := by kernel_rfl
@[go_sem] theorem zeroOK57 : zeroOK Try.prog 57 1 = false := by kernel_rfl
@[go_sem] theorem zeroOK58 : zeroOK Try.prog 58 1 = false := by kernel_rfl
@[go_sem] theorem zeroOK59 : zeroOK Try.prog 59 1 = false := by kernel_rfl
@[go_sem] theorem zeroOK60 : zeroOK Try.prog 60 1 = false := by kernel_rfl
@[go_sem] theorem zeroOK61 : zeroOK Try.prog 61 1 = false := by kernel_rfl
@[go_sem] theorem zeroOK62 : zeroOK Try.prog 62 1 = false := by kernel_rfl
@[go_sem] theorem zeroOK63 : zeroOK Try.prog 63 1 = false := by kernel_rfl
@[go_sem] theorem zeroOK64 : zeroOK Try.prog 64 1 = false := by kernel_rfl
@[go_sem] theorem zeroOK65 : zeroOK Try.prog 65 1 = false := by kernel_rfl
@[go_sem] theorem zeroOK66 : zeroOK Try.prog 66 1 = false := by kernel_rfl
@[go_sem] theorem zeroOK67 : zeroOK Try.prog 67 1 = true := by kernel_rfl
@[go_sem] theorem zeroOK68 : zeroOK Try.prog 68 1 = false := by kernel_rfl
@[go_sem] theorem zeroOK69 : zeroOK Try.prog 69 1 = false := by kernel_rfl
@[go_sem] theorem zeroOK70 : zeroOK Try.prog 70 1 = false := by kernel_rfl
@[go_sem] theorem zeroOK71 : zeroOK Try.prog 71 1 = false := by kernel_rfl
@[go_sem] theorem zeroOK72 : zeroOK Try.prog 72 1 = false := by kernel_rfl
@[go_sem] theorem zeroOK73 : zeroOK Try.prog 73 1 = false := by kernel_rfl
@[go_sem] theorem zeroOK74 : zeroOK Try.prog 74 1 = false := by kernel_rfl
@[go_sem] theorem zeroOK75 : zeroOK Try.prog 75 1 = false := by kernel_rfl
@[go_sem] theorem zeroOK76 : zeroOK Try.prog 76 1 = false := by kernel_rfl
@[go_sem] theorem zeroOK77 : zeroOK Try.prog 77 1 = true := by kernel_rfl
@[go_sem] theorem zeroOK78 : zeroOK Try.prog 78 1 = false := by kernel_rfl
@[go_sem] theorem zeroOK79 : zeroOK Try.prog 79 1 = true := by kernel_rfl
@[go_sem] theorem zeroOK80 : zeroOK Try.prog 80 1 = false := by kernel_rfl
@[go_sem] theorem zeroOK81 : zeroOK Try.prog 81 1 = false := by kernel_rfl
@[go_sem] theorem zeroOK82 : zeroOK Try.prog 82 1 = false := by kernel_rfl
@[go_sem] theorem zeroOK83 : zeroOK Try.prog 83 1 = false := by kernel_rfl
@[go_sem] theorem zeroOK84 : zeroOK Try.prog 84 1 = false := by kernel_rfl
@[go_sem] theorem zeroOK85 : zeroOK Try.prog 85 1 = false := by kernel_rfl
@[go_sem] theorem zeroOK86 : zeroOK Try.prog 86 1 = false := by kernel_rfl
@[go_sem] theorem zeroOK87 : zeroOK Try.prog 87 1 = true := by kernel_rfl
@[go_sem] theorem zeroOK88 : zeroOK Try.prog 88 1 = false := by kernel_rfl
@[go_sem] theorem zeroOK89 : zeroOK Try.prog 89 1 = true := by kernel_rfl
@[go_sem] theorem zeroOK90 : zeroOK Try.prog 90 1 = true := by kernel_rfl
@[go_sem] theorem zeroOK91 : zeroOK Try.prog 91 1 = false := by kernel_rfl
@[go_sem] theorem zeroOK92 : zeroOK Try.prog 92 1 = false := by kernel_rfl
@[go_sem] theorem zeroOK93 : zeroOK Try.prog 93 1 = false := by kernel_rfl
@[go_sem] theorem zeroOK94 : zeroOK Try.prog 94 1 = true := by kernel_rfl
@[go_sem] theorem zeroOK95 : zeroOK Try.prog 95 1 = false := by kernel_rfl
@[go_sem] theorem zeroOK96 : zeroOK Try.prog 96 1 = true := by kernel_rfl
@[go_sem] theorem zeroOK97 : zeroOK Try.prog 97 1 = false := by kernel_rfl
@[go_sem] theorem zeroOK98 : zeroOK Try.prog 98 1 = false := by kernel_rfl
@[go_sem] theorem zeroOK99 : zeroOK Try.prog 99 1 = false := by kernel_rfl
@[go_sem] theorem zeroOK100 : zeroOK Try.prog 100 4 = true := by kernel_rfl
@[go_sem] theorem zeroOK101 : zeroOK Try.prog 101 4 = true := by kernel_rfl
@[go_sem] theorem zeroOK105 : zeroOK Try.prog 105 1 = false := by kernel_rfl
@[go_sem] theorem zeroOK106 : zeroOK Try.prog 106 1 = true := by kernel_rfl
@[go_sem] theorem zeroOK107 : zeroOK Try.prog 107 1 = true := by kernel_rfl
@[go_sem] theorem zeroOK108 : zeroOK Try.prog 108 1 = false := by kernel_rfl
@[go_sem] theorem zeroOK109 : zeroOK Try.prog 109 1 = true := by kernel_rfl
@[go_sem] theorem zeroOK110 : zeroOK Try.prog 110 1 = true := by kernel_rfl
@[go_sem] theorem zeroOK111 : zeroOK Try.prog 111 1 = true := by kernel_rfl
@[go_sem] theorem zeroOK112 : zeroOK Try.prog 112 11 = true := by kernel_rfl
@[go_sem] theorem zeroOK113 : zeroOK Try.prog 113 11 = true := by kernel_rfl
@[go_sem] theorem zeroOK114 : zeroOK Try.prog 114 1 = true := by kernel_rfl
end Go.Proofs.Ytbnmicpgbcfooaa
