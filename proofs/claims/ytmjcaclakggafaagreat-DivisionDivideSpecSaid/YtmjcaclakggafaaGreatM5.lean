/- Parts of the proof: Facts A1. -/
import Derived.Test.YtmjcaclakggafaaGreatM2
import Derived.Test.YtmjcaclakggafaaGreatProg
import Derived.Test.YtmjcaclakggafaaGreatM3

/- Made by facts.py off the translation: what the rules ask of the program's types and functions. -/
namespace Go.Proofs.YtmjcaclakggafaaGreat
open Go
theorem mx : Tryz.prog.follows .mixedOrders = true := by kernel_rfl
instance cellTy0 : CellTy Tryz.prog 0 := ⟨by kernel_rfl⟩
instance stoTy0 : StoTy Tryz.prog 0 := ⟨by kernel_rfl⟩
instance zeroTy0 : ZeroTy Tryz.prog 0 (.tuple #[]) := ⟨by kernel_rfl⟩
instance bytesTy0 : BytesTy Tryz.prog 0 0 := ⟨by kernel_rfl⟩
instance cellTy1 : CellTy Tryz.prog 1 := ⟨by kernel_rfl⟩
instance stoTy1 : StoTy Tryz.prog 1 := ⟨by kernel_rfl⟩
instance zeroTy1 : ZeroTy Tryz.prog 1 (.nilFunc) := ⟨by kernel_rfl⟩
instance bytesTy1 : BytesTy Tryz.prog 1 8 := ⟨by kernel_rfl⟩
instance cellTy2 : CellTy Tryz.prog 2 := ⟨by kernel_rfl⟩
instance stoTy2 : StoTy Tryz.prog 2 := ⟨by kernel_rfl⟩
instance intTy2 : IntTy Tryz.prog 2 .i64 := ⟨by kernel_rfl⟩
instance zeroTy2 : ZeroTy Tryz.prog 2 (.int .i64 0) := ⟨by kernel_rfl⟩
instance bytesTy2 : BytesTy Tryz.prog 2 8 := ⟨by kernel_rfl⟩
instance cellTy3 : CellTy Tryz.prog 3 := ⟨by kernel_rfl⟩
instance stoTy3 : StoTy Tryz.prog 3 := ⟨by kernel_rfl⟩
instance intTy3 : IntTy Tryz.prog 3 .i64 := ⟨by kernel_rfl⟩
instance zeroTy3 : ZeroTy Tryz.prog 3 (.int .i64 0) := ⟨by kernel_rfl⟩
instance bytesTy3 : BytesTy Tryz.prog 3 8 := ⟨by kernel_rfl⟩
instance cellTy4 : CellTy Tryz.prog 4 := ⟨by kernel_rfl⟩
instance stoTy4 : StoTy Tryz.prog 4 := ⟨by kernel_rfl⟩
instance boolTy4 : BoolTy Tryz.prog 4 := ⟨by kernel_rfl⟩
instance zeroTy4 : ZeroTy Tryz.prog 4 (.bool false) := ⟨by kernel_rfl⟩
instance bytesTy4 : BytesTy Tryz.prog 4 1 := ⟨by kernel_rfl⟩
instance cellTy5 : CellTy Tryz.prog 5 := ⟨by kernel_rfl⟩
instance stoTy5 : StoTy Tryz.prog 5 := ⟨by kernel_rfl⟩
instance intTy5 : IntTy Tryz.prog 5 .u8 := ⟨by kernel_rfl⟩
instance zeroTy5 : ZeroTy Tryz.prog 5 (.int .u8 0) := ⟨by kernel_rfl⟩
instance bytesTy5 : BytesTy Tryz.prog 5 1 := ⟨by kernel_rfl⟩
instance cellTy6 : CellTy Tryz.prog 6 := ⟨by kernel_rfl⟩
instance stoTy6 : StoTy Tryz.prog 6 := ⟨by kernel_rfl⟩
instance intTy6 : IntTy Tryz.prog 6 .u8 := ⟨by kernel_rfl⟩
instance zeroTy6 : ZeroTy Tryz.prog 6 (.int .u8 0) := ⟨by kernel_rfl⟩
instance bytesTy6 : BytesTy Tryz.prog 6 1 := ⟨by kernel_rfl⟩
instance aggTy7 : AggTy Tryz.prog 7 4 := ⟨by kernel_rfl⟩
instance fldTy7_0 : FldTy Tryz.prog 7 0 2 0 := ⟨by kernel_rfl⟩
instance fldTy7_1 : FldTy Tryz.prog 7 1 3 1 := ⟨by kernel_rfl⟩
instance fldTy7_2 : FldTy Tryz.prog 7 2 4 2 := ⟨by kernel_rfl⟩
instance fldTy7_3 : FldTy Tryz.prog 7 3 6 3 := ⟨by kernel_rfl⟩
instance zeroTy7 : ZeroTy Tryz.prog 7 (.agg #[.int .i64 0, .int .i64 0, .bool false, .int .u8 0]) := ⟨by kernel_rfl⟩
instance bytesTy7 : BytesTy Tryz.prog 7 24 := ⟨by kernel_rfl⟩
instance aggTy8 : AggTy Tryz.prog 8 4 := ⟨by kernel_rfl⟩
instance fldTy8_0 : FldTy Tryz.prog 8 0 2 0 := ⟨by kernel_rfl⟩
instance fldTy8_1 : FldTy Tryz.prog 8 1 3 1 := ⟨by kernel_rfl⟩
instance fldTy8_2 : FldTy Tryz.prog 8 2 4 2 := ⟨by kernel_rfl⟩
instance fldTy8_3 : FldTy Tryz.prog 8 3 6 3 := ⟨by kernel_rfl⟩
instance zeroTy8 : ZeroTy Tryz.prog 8 (.agg #[.int .i64 0, .int .i64 0, .bool false, .int .u8 0]) := ⟨by kernel_rfl⟩
instance bytesTy8 : BytesTy Tryz.prog 8 24 := ⟨by kernel_rfl⟩
instance cellTy9 : CellTy Tryz.prog 9 := ⟨by kernel_rfl⟩
instance stoTy9 : StoTy Tryz.prog 9 := ⟨by kernel_rfl⟩
instance strTy9 : StrTy Tryz.prog 9 := ⟨by kernel_rfl⟩
instance zeroTy9 : ZeroTy Tryz.prog 9 (.string ⟨#[]⟩) := ⟨by kernel_rfl⟩
instance bytesTy9 : BytesTy Tryz.prog 9 16 := ⟨by kernel_rfl⟩
instance cellTy10 : CellTy Tryz.prog 10 := ⟨by kernel_rfl⟩
instance stoTy10 : StoTy Tryz.prog 10 := ⟨by kernel_rfl⟩
instance strTy10 : StrTy Tryz.prog 10 := ⟨by kernel_rfl⟩
instance zeroTy10 : ZeroTy Tryz.prog 10 (.string ⟨#[]⟩) := ⟨by kernel_rfl⟩
instance bytesTy10 : BytesTy Tryz.prog 10 16 := ⟨by kernel_rfl⟩
instance cellTy11 : CellTy Tryz.prog 11 := ⟨by kernel_rfl⟩
instance stoTy11 : StoTy Tryz.prog 11 := ⟨by kernel_rfl⟩
instance strTy11 : StrTy Tryz.prog 11 := ⟨by kernel_rfl⟩
instance zeroTy11 : ZeroTy Tryz.prog 11 (.string ⟨#[]⟩) := ⟨by kernel_rfl⟩
instance bytesTy11 : BytesTy Tryz.prog 11 16 := ⟨by kernel_rfl⟩
instance cellTy12 : CellTy Tryz.prog 12 := ⟨by kernel_rfl⟩
instance stoTy12 : StoTy Tryz.prog 12 := ⟨by kernel_rfl⟩
instance intTy12 : IntTy Tryz.prog 12 .u64 := ⟨by kernel_rfl⟩
instance zeroTy12 : ZeroTy Tryz.prog 12 (.int .u64 0) := ⟨by kernel_rfl⟩
instance bytesTy12 : BytesTy Tryz.prog 12 8 := ⟨by kernel_rfl⟩
instance aggTy13 : AggTy Tryz.prog 13 2 := ⟨by kernel_rfl⟩
instance fldTy13_0 : FldTy Tryz.prog 13 0 9 0 := ⟨by kernel_rfl⟩
instance fldTy13_1 : FldTy Tryz.prog 13 1 12 1 := ⟨by kernel_rfl⟩
instance zeroTy13 : ZeroTy Tryz.prog 13 (.agg #[.string ⟨#[]⟩, .int .u64 0]) := ⟨by kernel_rfl⟩
instance bytesTy13 : BytesTy Tryz.prog 13 24 := ⟨by kernel_rfl⟩
instance aggTy14 : AggTy Tryz.prog 14 2 := ⟨by kernel_rfl⟩
instance fldTy14_0 : FldTy Tryz.prog 14 0 9 0 := ⟨by kernel_rfl⟩
instance fldTy14_1 : FldTy Tryz.prog 14 1 12 1 := ⟨by kernel_rfl⟩
instance zeroTy14 : ZeroTy Tryz.prog 14 (.agg #[.string ⟨#[]⟩, .int .u64 0]) := ⟨by kernel_rfl⟩
instance bytesTy14 : BytesTy Tryz.prog 14 24 := ⟨by kernel_rfl⟩
instance cellTy15 : CellTy Tryz.prog 15 := ⟨by kernel_rfl⟩
instance stoTy15 : StoTy Tryz.prog 15 := ⟨by kernel_rfl⟩
instance zeroTy15 : ZeroTy Tryz.prog 15 (.pointer none) := ⟨by kernel_rfl⟩
instance bytesTy15 : BytesTy Tryz.prog 15 8 := ⟨by kernel_rfl⟩
instance cellTy16 : CellTy Tryz.prog 16 := ⟨by kernel_rfl⟩
instance stoTy16 : StoTy Tryz.prog 16 := ⟨by kernel_rfl⟩
instance zeroTy16 : ZeroTy Tryz.prog 16 (.pointer none) := ⟨by kernel_rfl⟩
instance bytesTy16 : BytesTy Tryz.prog 16 8 := ⟨by kernel_rfl⟩
instance cellTy17 : CellTy Tryz.prog 17 := ⟨by kernel_rfl⟩
instance stoTy17 : StoTy Tryz.prog 17 := ⟨by kernel_rfl⟩
instance zeroTy17 : ZeroTy Tryz.prog 17 (.pointer none) := ⟨by kernel_rfl⟩
instance bytesTy17 : BytesTy Tryz.prog 17 8 := ⟨by kernel_rfl⟩
instance aggTy18 : AggTy Tryz.prog 18 1 := ⟨by kernel_rfl⟩
instance fldTy18_0 : FldTy Tryz.prog 18 0 17 0 := ⟨by kernel_rfl⟩
instance zeroTy18 : ZeroTy Tryz.prog 18 (.agg #[.pointer none]) := ⟨by kernel_rfl⟩
instance bytesTy18 : BytesTy Tryz.prog 18 8 := ⟨by kernel_rfl⟩
instance aggTy19 : AggTy Tryz.prog 19 1 := ⟨by kernel_rfl⟩
instance fldTy19_0 : FldTy Tryz.prog 19 0 17 0 := ⟨by kernel_rfl⟩
instance zeroTy19 : ZeroTy Tryz.prog 19 (.agg #[.pointer none]) := ⟨by kernel_rfl⟩
instance bytesTy19 : BytesTy Tryz.prog 19 8 := ⟨by kernel_rfl⟩
instance cellTy20 : CellTy Tryz.prog 20 := ⟨by kernel_rfl⟩
instance stoTy20 : StoTy Tryz.prog 20 := ⟨by kernel_rfl⟩
instance zeroTy20 : ZeroTy Tryz.prog 20 (.nilIface) := ⟨by kernel_rfl⟩
instance bytesTy20 : BytesTy Tryz.prog 20 16 := ⟨by kernel_rfl⟩
instance cellTy21 : CellTy Tryz.prog 21 := ⟨by kernel_rfl⟩
instance stoTy21 : StoTy Tryz.prog 21 := ⟨by kernel_rfl⟩
instance intTy21 : IntTy Tryz.prog 21 .i32 := ⟨by kernel_rfl⟩
instance zeroTy21 : ZeroTy Tryz.prog 21 (.int .i32 0) := ⟨by kernel_rfl⟩
instance bytesTy21 : BytesTy Tryz.prog 21 4 := ⟨by kernel_rfl⟩
instance aggTy22 : AggTy Tryz.prog 22 2 := ⟨by kernel_rfl⟩
instance fldTy22_0 : FldTy Tryz.prog 22 0 3 0 := ⟨by kernel_rfl⟩
instance fldTy22_1 : FldTy Tryz.prog 22 1 3 1 := ⟨by kernel_rfl⟩
instance zeroTy22 : ZeroTy Tryz.prog 22 (.agg #[.int .i64 0, .int .i64 0]) := ⟨by kernel_rfl⟩
instance bytesTy22 : BytesTy Tryz.prog 22 16 := ⟨by kernel_rfl⟩
instance aggTy23 : AggTy Tryz.prog 23 2 := ⟨by kernel_rfl⟩
instance fldTy23_0 : FldTy Tryz.prog 23 0 3 0 := ⟨by kernel_rfl⟩
instance fldTy23_1 : FldTy Tryz.prog 23 1 3 1 := ⟨by kernel_rfl⟩
instance zeroTy23 : ZeroTy Tryz.prog 23 (.agg #[.int .i64 0, .int .i64 0]) := ⟨by kernel_rfl⟩
instance bytesTy23 : BytesTy Tryz.prog 23 16 := ⟨by kernel_rfl⟩
instance cellTy24 : CellTy Tryz.prog 24 := ⟨by kernel_rfl⟩
instance stoTy24 : StoTy Tryz.prog 24 := ⟨by kernel_rfl⟩
instance sliceTy24 : SliceTy Tryz.prog 24 82 12 := ⟨by kernel_rfl⟩
instance zeroTy24 : ZeroTy Tryz.prog 24 (.slice none 0 0) := ⟨by kernel_rfl⟩
instance bytesTy24 : BytesTy Tryz.prog 24 24 := ⟨by kernel_rfl⟩
instance cellTy25 : CellTy Tryz.prog 25 := ⟨by kernel_rfl⟩
instance stoTy25 : StoTy Tryz.prog 25 := ⟨by kernel_rfl⟩
instance sliceTy25 : SliceTy Tryz.prog 25 70 4 := ⟨by kernel_rfl⟩
instance zeroTy25 : ZeroTy Tryz.prog 25 (.slice none 0 0) := ⟨by kernel_rfl⟩
instance bytesTy25 : BytesTy Tryz.prog 25 24 := ⟨by kernel_rfl⟩
instance cellTy26 : CellTy Tryz.prog 26 := ⟨by kernel_rfl⟩
instance stoTy26 : StoTy Tryz.prog 26 := ⟨by kernel_rfl⟩
instance sliceTy26 : SliceTy Tryz.prog 26 138 2 := ⟨by kernel_rfl⟩
instance zeroTy26 : ZeroTy Tryz.prog 26 (.slice none 0 0) := ⟨by kernel_rfl⟩
instance bytesTy26 : BytesTy Tryz.prog 26 24 := ⟨by kernel_rfl⟩
instance cellTy27 : CellTy Tryz.prog 27 := ⟨by kernel_rfl⟩
instance stoTy27 : StoTy Tryz.prog 27 := ⟨by kernel_rfl⟩
instance sliceTy27 : SliceTy Tryz.prog 27 141 10 := ⟨by kernel_rfl⟩
instance zeroTy27 : ZeroTy Tryz.prog 27 (.slice none 0 0) := ⟨by kernel_rfl⟩
instance bytesTy27 : BytesTy Tryz.prog 27 24 := ⟨by kernel_rfl⟩
instance cellTy28 : CellTy Tryz.prog 28 := ⟨by kernel_rfl⟩
instance stoTy28 : StoTy Tryz.prog 28 := ⟨by kernel_rfl⟩
instance sliceTy28 : SliceTy Tryz.prog 28 144 4 := ⟨by kernel_rfl⟩
instance zeroTy28 : ZeroTy Tryz.prog 28 (.slice none 0 0) := ⟨by kernel_rfl⟩
instance bytesTy28 : BytesTy Tryz.prog 28 24 := ⟨by kernel_rfl⟩
instance cellTy29 : CellTy Tryz.prog 29 := ⟨by kernel_rfl⟩
instance stoTy29 : StoTy Tryz.prog 29 := ⟨by kernel_rfl⟩
instance sliceTy29 : SliceTy Tryz.prog 29 205 4 := ⟨by kernel_rfl⟩
instance zeroTy29 : ZeroTy Tryz.prog 29 (.slice none 0 0) := ⟨by kernel_rfl⟩
instance bytesTy29 : BytesTy Tryz.prog 29 24 := ⟨by kernel_rfl⟩
instance aggTy30 : AggTy Tryz.prog 30 10 := ⟨by kernel_rfl⟩
instance fldTy30_0 : FldTy Tryz.prog 30 0 9 0 := ⟨by kernel_rfl⟩
instance fldTy30_1 : FldTy Tryz.prog 30 1 3 1 := ⟨by kernel_rfl⟩
instance fldTy30_2 : FldTy Tryz.prog 30 2 23 2 := ⟨by kernel_rfl⟩
instance fldTy30_3 : FldTy Tryz.prog 30 3 24 4 := ⟨by kernel_rfl⟩
instance fldTy30_4 : FldTy Tryz.prog 30 4 25 5 := ⟨by kernel_rfl⟩
instance fldTy30_5 : FldTy Tryz.prog 30 5 26 6 := ⟨by kernel_rfl⟩
instance fldTy30_6 : FldTy Tryz.prog 30 6 27 7 := ⟨by kernel_rfl⟩
instance fldTy30_7 : FldTy Tryz.prog 30 7 28 8 := ⟨by kernel_rfl⟩
instance fldTy30_8 : FldTy Tryz.prog 30 8 29 9 := ⟨by kernel_rfl⟩
instance zeroTy30 : ZeroTy Tryz.prog 30 (.agg #[.string ⟨#[]⟩, .int .i64 0, .int .i64 0, .int .i64 0, .slice none 0 0, .slice none 0 0, .slice none 0 0, .slice none 0 0, .slice none 0 0, .slice none 0 0]) := ⟨by kernel_rfl⟩
instance bytesTy30 : BytesTy Tryz.prog 30 184 := ⟨by kernel_rfl⟩
instance aggTy31 : AggTy Tryz.prog 31 10 := ⟨by kernel_rfl⟩
instance fldTy31_0 : FldTy Tryz.prog 31 0 9 0 := ⟨by kernel_rfl⟩
instance fldTy31_1 : FldTy Tryz.prog 31 1 3 1 := ⟨by kernel_rfl⟩
instance fldTy31_2 : FldTy Tryz.prog 31 2 23 2 := ⟨by kernel_rfl⟩
instance fldTy31_3 : FldTy Tryz.prog 31 3 24 4 := ⟨by kernel_rfl⟩
instance fldTy31_4 : FldTy Tryz.prog 31 4 25 5 := ⟨by kernel_rfl⟩
instance fldTy31_5 : FldTy Tryz.prog 31 5 26 6 := ⟨by kernel_rfl⟩
instance fldTy31_6 : FldTy Tryz.prog 31 6 27 7 := ⟨by kernel_rfl⟩
instance fldTy31_7 : FldTy Tryz.prog 31 7 28 8 := ⟨by kernel_rfl⟩
instance fldTy31_8 : FldTy Tryz.prog 31 8 29 9 := ⟨by kernel_rfl⟩
instance zeroTy31 : ZeroTy Tryz.prog 31 (.agg #[.string ⟨#[]⟩, .int .i64 0, .int .i64 0, .int .i64 0, .slice none 0 0, .slice none 0 0, .slice none 0 0, .slice none 0 0, .slice none 0 0, .slice none 0 0]) := ⟨by kernel_rfl⟩
instance bytesTy31 : BytesTy Tryz.prog 31 184 := ⟨by kernel_rfl⟩
instance cellTy32 : CellTy Tryz.prog 32 := ⟨by kernel_rfl⟩
instance stoTy32 : StoTy Tryz.prog 32 := ⟨by kernel_rfl⟩
instance sliceTy32 : SliceTy Tryz.prog 32 3 1 := ⟨by kernel_rfl⟩
instance zeroTy32 : ZeroTy Tryz.prog 32 (.slice none 0 0) := ⟨by kernel_rfl⟩
instance bytesTy32 : BytesTy Tryz.prog 32 24 := ⟨by kernel_rfl⟩
instance cellTy33 : CellTy Tryz.prog 33 := ⟨by kernel_rfl⟩
instance stoTy33 : StoTy Tryz.prog 33 := ⟨by kernel_rfl⟩
instance zeroTy33 : ZeroTy Tryz.prog 33 (.nilFunc) := ⟨by kernel_rfl⟩
instance bytesTy33 : BytesTy Tryz.prog 33 8 := ⟨by kernel_rfl⟩
instance cellTy34 : CellTy Tryz.prog 34 := ⟨by kernel_rfl⟩
instance stoTy34 : StoTy Tryz.prog 34 := ⟨by kernel_rfl⟩
instance zeroTy34 : ZeroTy Tryz.prog 34 (.nilFunc) := ⟨by kernel_rfl⟩
instance bytesTy34 : BytesTy Tryz.prog 34 8 := ⟨by kernel_rfl⟩
instance cellTy35 : CellTy Tryz.prog 35 := ⟨by kernel_rfl⟩
instance stoTy35 : StoTy Tryz.prog 35 := ⟨by kernel_rfl⟩
instance intTy35 : IntTy Tryz.prog 35 .i64 := ⟨by kernel_rfl⟩
instance zeroTy35 : ZeroTy Tryz.prog 35 (.int .i64 0) := ⟨by kernel_rfl⟩
instance bytesTy35 : BytesTy Tryz.prog 35 8 := ⟨by kernel_rfl⟩
instance cellTy36 : CellTy Tryz.prog 36 := ⟨by kernel_rfl⟩
instance stoTy36 : StoTy Tryz.prog 36 := ⟨by kernel_rfl⟩
instance zeroTy36 : ZeroTy Tryz.prog 36 (.tuple #[.slice none 0 0, .bool false, .int .i64 0]) := ⟨by kernel_rfl⟩
instance bytesTy36 : BytesTy Tryz.prog 36 0 := ⟨by kernel_rfl⟩
instance cellTy37 : CellTy Tryz.prog 37 := ⟨by kernel_rfl⟩
instance stoTy37 : StoTy Tryz.prog 37 := ⟨by kernel_rfl⟩
instance zeroTy37 : ZeroTy Tryz.prog 37 (.nilFunc) := ⟨by kernel_rfl⟩
instance bytesTy37 : BytesTy Tryz.prog 37 8 := ⟨by kernel_rfl⟩
instance cellTy38 : CellTy Tryz.prog 38 := ⟨by kernel_rfl⟩
instance stoTy38 : StoTy Tryz.prog 38 := ⟨by kernel_rfl⟩
instance zeroTy38 : ZeroTy Tryz.prog 38 (.nilFunc) := ⟨by kernel_rfl⟩
instance bytesTy38 : BytesTy Tryz.prog 38 8 := ⟨by kernel_rfl⟩
instance cellTy39 : CellTy Tryz.prog 39 := ⟨by kernel_rfl⟩
instance stoTy39 : StoTy Tryz.prog 39 := ⟨by kernel_rfl⟩
instance zeroTy39 : ZeroTy Tryz.prog 39 (.tuple #[.slice none 0 0, .int .i64 0]) := ⟨by kernel_rfl⟩
instance bytesTy39 : BytesTy Tryz.prog 39 0 := ⟨by kernel_rfl⟩
instance cellTy40 : CellTy Tryz.prog 40 := ⟨by kernel_rfl⟩
instance stoTy40 : StoTy Tryz.prog 40 := ⟨by kernel_rfl⟩
instance zeroTy40 : ZeroTy Tryz.prog 40 (.nilFunc) := ⟨by kernel_rfl⟩
instance bytesTy40 : BytesTy Tryz.prog 40 8 := ⟨by kernel_rfl⟩
instance cellTy41 : CellTy Tryz.prog 41 := ⟨by kernel_rfl⟩
instance stoTy41 : StoTy Tryz.prog 41 := ⟨by kernel_rfl⟩
instance zeroTy41 : ZeroTy Tryz.prog 41 (.tuple #[.int .i64 0, .int .i64 0, .int .i64 0]) := ⟨by kernel_rfl⟩
instance bytesTy41 : BytesTy Tryz.prog 41 0 := ⟨by kernel_rfl⟩
instance cellTy42 : CellTy Tryz.prog 42 := ⟨by kernel_rfl⟩
instance stoTy42 : StoTy Tryz.prog 42 := ⟨by kernel_rfl⟩
instance zeroTy42 : ZeroTy Tryz.prog 42 (.nilFunc) := ⟨by kernel_rfl⟩
instance bytesTy42 : BytesTy Tryz.prog 42 8 := ⟨by kernel_rfl⟩
instance cellTy43 : CellTy Tryz.prog 43 := ⟨by kernel_rfl⟩
instance stoTy43 : StoTy Tryz.prog 43 := ⟨by kernel_rfl⟩
instance zeroTy43 : ZeroTy Tryz.prog 43 (.nilFunc) := ⟨by kernel_rfl⟩
instance bytesTy43 : BytesTy Tryz.prog 43 8 := ⟨by kernel_rfl⟩
instance cellTy44 : CellTy Tryz.prog 44 := ⟨by kernel_rfl⟩
instance stoTy44 : StoTy Tryz.prog 44 := ⟨by kernel_rfl⟩
instance sliceTy44 : SliceTy Tryz.prog 44 92 4 := ⟨by kernel_rfl⟩
instance zeroTy44 : ZeroTy Tryz.prog 44 (.slice none 0 0) := ⟨by kernel_rfl⟩
instance bytesTy44 : BytesTy Tryz.prog 44 24 := ⟨by kernel_rfl⟩
instance aggTy45 : AggTy Tryz.prog 45 3 := ⟨by kernel_rfl⟩
instance fldTy45_0 : FldTy Tryz.prog 45 0 32 0 := ⟨by kernel_rfl⟩
instance fldTy45_1 : FldTy Tryz.prog 45 1 32 1 := ⟨by kernel_rfl⟩
instance fldTy45_2 : FldTy Tryz.prog 45 2 44 2 := ⟨by kernel_rfl⟩
instance zeroTy45 : ZeroTy Tryz.prog 45 (.agg #[.slice none 0 0, .slice none 0 0, .slice none 0 0]) := ⟨by kernel_rfl⟩
instance bytesTy45 : BytesTy Tryz.prog 45 72 := ⟨by kernel_rfl⟩
instance aggTy46 : AggTy Tryz.prog 46 3 := ⟨by kernel_rfl⟩
instance fldTy46_0 : FldTy Tryz.prog 46 0 32 0 := ⟨by kernel_rfl⟩
instance fldTy46_1 : FldTy Tryz.prog 46 1 32 1 := ⟨by kernel_rfl⟩
instance fldTy46_2 : FldTy Tryz.prog 46 2 44 2 := ⟨by kernel_rfl⟩
instance zeroTy46 : ZeroTy Tryz.prog 46 (.agg #[.slice none 0 0, .slice none 0 0, .slice none 0 0]) := ⟨by kernel_rfl⟩
instance bytesTy46 : BytesTy Tryz.prog 46 72 := ⟨by kernel_rfl⟩
instance cellTy47 : CellTy Tryz.prog 47 := ⟨by kernel_rfl⟩
instance stoTy47 : StoTy Tryz.prog 47 := ⟨by kernel_rfl⟩
instance zeroTy47 : ZeroTy Tryz.prog 47 (.tuple #[.agg #[.slice none 0 0, .slice none 0 0, .slice none 0 0], .int .i64 0]) := ⟨by kernel_rfl⟩
instance bytesTy47 : BytesTy Tryz.prog 47 0 := ⟨by kernel_rfl⟩
instance cellTy48 : CellTy Tryz.prog 48 := ⟨by kernel_rfl⟩
instance stoTy48 : StoTy Tryz.prog 48 := ⟨by kernel_rfl⟩
instance zeroTy48 : ZeroTy Tryz.prog 48 (.nilFunc) := ⟨by kernel_rfl⟩
instance bytesTy48 : BytesTy Tryz.prog 48 8 := ⟨by kernel_rfl⟩
instance cellTy49 : CellTy Tryz.prog 49 := ⟨by kernel_rfl⟩
instance stoTy49 : StoTy Tryz.prog 49 := ⟨by kernel_rfl⟩
instance zeroTy49 : ZeroTy Tryz.prog 49 (.nilFunc) := ⟨by kernel_rfl⟩
instance bytesTy49 : BytesTy Tryz.prog 49 8 := ⟨by kernel_rfl⟩
instance cellTy50 : CellTy Tryz.prog 50 := ⟨by kernel_rfl⟩
instance stoTy50 : StoTy Tryz.prog 50 := ⟨by kernel_rfl⟩
instance zeroTy50 : ZeroTy Tryz.prog 50 (.nilFunc) := ⟨by kernel_rfl⟩
instance bytesTy50 : BytesTy Tryz.prog 50 8 := ⟨by kernel_rfl⟩
instance cellTy51 : CellTy Tryz.prog 51 := ⟨by kernel_rfl⟩
instance stoTy51 : StoTy Tryz.prog 51 := ⟨by kernel_rfl⟩
instance zeroTy51 : ZeroTy Tryz.prog 51 (.nilFunc) := ⟨by kernel_rfl⟩
instance bytesTy51 : BytesTy Tryz.prog 51 8 := ⟨by kernel_rfl⟩
instance cellTy52 : CellTy Tryz.prog 52 := ⟨by kernel_rfl⟩
instance stoTy52 : StoTy Tryz.prog 52 := ⟨by kernel_rfl⟩
instance zeroTy52 : ZeroTy Tryz.prog 52 (.nilFunc) := ⟨by kernel_rfl⟩
instance bytesTy52 : BytesTy Tryz.prog 52 8 := ⟨by kernel_rfl⟩
instance cellTy53 : CellTy Tryz.prog 53 := ⟨by kernel_rfl⟩
instance stoTy53 : StoTy Tryz.prog 53 := ⟨by kernel_rfl⟩
instance zeroTy53 : ZeroTy Tryz.prog 53 (.tuple #[.slice none 0 0, .bool false]) := ⟨by kernel_rfl⟩
instance bytesTy53 : BytesTy Tryz.prog 53 0 := ⟨by kernel_rfl⟩
instance cellTy54 : CellTy Tryz.prog 54 := ⟨by kernel_rfl⟩
instance stoTy54 : StoTy Tryz.prog 54 := ⟨by kernel_rfl⟩
instance mapTy54 : MapTy Tryz.prog 54 3 64 := ⟨by kernel_rfl⟩
instance zeroTy54 : ZeroTy Tryz.prog 54 (.map none) := ⟨by kernel_rfl⟩
instance bytesTy54 : BytesTy Tryz.prog 54 8 := ⟨by kernel_rfl⟩
instance aggTy55 : AggTy Tryz.prog 55 11 := ⟨by kernel_rfl⟩
instance fldTy55_0 : FldTy Tryz.prog 55 0 31 0 := ⟨by kernel_rfl⟩
instance fldTy55_1 : FldTy Tryz.prog 55 1 54 10 := ⟨by kernel_rfl⟩
instance zeroTy55 : ZeroTy Tryz.prog 55 (.agg #[.string ⟨#[]⟩, .int .i64 0, .int .i64 0, .int .i64 0, .slice none 0 0, .slice none 0 0, .slice none 0 0, .slice none 0 0, .slice none 0 0, .slice none 0 0, .map none]) := ⟨by kernel_rfl⟩
instance bytesTy55 : BytesTy Tryz.prog 55 192 := ⟨by kernel_rfl⟩
instance aggTy56 : AggTy Tryz.prog 56 11 := ⟨by kernel_rfl⟩
instance fldTy56_0 : FldTy Tryz.prog 56 0 31 0 := ⟨by kernel_rfl⟩
instance fldTy56_1 : FldTy Tryz.prog 56 1 54 10 := ⟨by kernel_rfl⟩
instance zeroTy56 : ZeroTy Tryz.prog 56 (.agg #[.string ⟨#[]⟩, .int .i64 0, .int .i64 0, .int .i64 0, .slice none 0 0, .slice none 0 0, .slice none 0 0, .slice none 0 0, .slice none 0 0, .slice none 0 0, .map none]) := ⟨by kernel_rfl⟩
instance bytesTy56 : BytesTy Tryz.prog 56 192 := ⟨by kernel_rfl⟩
instance cellTy57 : CellTy Tryz.prog 57 := ⟨by kernel_rfl⟩
instance stoTy57 : StoTy Tryz.prog 57 := ⟨by kernel_rfl⟩
instance zeroTy57 : ZeroTy Tryz.prog 57 (.nilFunc) := ⟨by kernel_rfl⟩
instance bytesTy57 : BytesTy Tryz.prog 57 8 := ⟨by kernel_rfl⟩
instance cellTy58 : CellTy Tryz.prog 58 := ⟨by kernel_rfl⟩
instance stoTy58 : StoTy Tryz.prog 58 := ⟨by kernel_rfl⟩
instance zeroTy58 : ZeroTy Tryz.prog 58 (.nilFunc) := ⟨by kernel_rfl⟩
instance bytesTy58 : BytesTy Tryz.prog 58 8 := ⟨by kernel_rfl⟩
instance cellTy59 : CellTy Tryz.prog 59 := ⟨by kernel_rfl⟩
instance stoTy59 : StoTy Tryz.prog 59 := ⟨by kernel_rfl⟩
instance zeroTy59 : ZeroTy Tryz.prog 59 (.nilFunc) := ⟨by kernel_rfl⟩
instance bytesTy59 : BytesTy Tryz.prog 59 8 := ⟨by kernel_rfl⟩
instance cellTy60 : CellTy Tryz.prog 60 := ⟨by kernel_rfl⟩
instance stoTy60 : StoTy Tryz.prog 60 := ⟨by kernel_rfl⟩
instance zeroTy60 : ZeroTy Tryz.prog 60 (.tuple #[.agg #[.string ⟨#[]⟩, .int .i64 0, .int .i64 0, .int .i64 0, .slice none 0 0, .slice none 0 0, .slice none 0 0, .slice none 0 0, .slice none 0 0, .slice none 0 0, .map none], .slice none 0 0, .int .i64 0]) := ⟨by kernel_rfl⟩
instance bytesTy60 : BytesTy Tryz.prog 60 0 := ⟨by kernel_rfl⟩
instance cellTy61 : CellTy Tryz.prog 61 := ⟨by kernel_rfl⟩
instance stoTy61 : StoTy Tryz.prog 61 := ⟨by kernel_rfl⟩
instance zeroTy61 : ZeroTy Tryz.prog 61 (.nilFunc) := ⟨by kernel_rfl⟩
instance bytesTy61 : BytesTy Tryz.prog 61 8 := ⟨by kernel_rfl⟩
instance cellTy62 : CellTy Tryz.prog 62 := ⟨by kernel_rfl⟩
instance stoTy62 : StoTy Tryz.prog 62 := ⟨by kernel_rfl⟩
instance zeroTy62 : ZeroTy Tryz.prog 62 (.tuple #[.slice none 0 0, .int .i64 0]) := ⟨by kernel_rfl⟩
instance bytesTy62 : BytesTy Tryz.prog 62 0 := ⟨by kernel_rfl⟩
instance cellTy63 : CellTy Tryz.prog 63 := ⟨by kernel_rfl⟩
instance stoTy63 : StoTy Tryz.prog 63 := ⟨by kernel_rfl⟩
instance zeroTy63 : ZeroTy Tryz.prog 63 (.nilFunc) := ⟨by kernel_rfl⟩
instance bytesTy63 : BytesTy Tryz.prog 63 8 := ⟨by kernel_rfl⟩
instance cellTy64 : CellTy Tryz.prog 64 := ⟨by kernel_rfl⟩
instance stoTy64 : StoTy Tryz.prog 64 := ⟨by kernel_rfl⟩
instance sliceTy64 : SliceTy Tryz.prog 64 73 2 := ⟨by kernel_rfl⟩
instance zeroTy64 : ZeroTy Tryz.prog 64 (.slice none 0 0) := ⟨by kernel_rfl⟩
instance bytesTy64 : BytesTy Tryz.prog 64 24 := ⟨by kernel_rfl⟩
instance cellTy65 : CellTy Tryz.prog 65 := ⟨by kernel_rfl⟩
instance stoTy65 : StoTy Tryz.prog 65 := ⟨by kernel_rfl⟩
instance zeroTy65 : ZeroTy Tryz.prog 65 (.nilFunc) := ⟨by kernel_rfl⟩
instance bytesTy65 : BytesTy Tryz.prog 65 8 := ⟨by kernel_rfl⟩
instance cellTy66 : CellTy Tryz.prog 66 := ⟨by kernel_rfl⟩
instance stoTy66 : StoTy Tryz.prog 66 := ⟨by kernel_rfl⟩
instance sliceTy66 : SliceTy Tryz.prog 66 75 2 := ⟨by kernel_rfl⟩
instance zeroTy66 : ZeroTy Tryz.prog 66 (.slice none 0 0) := ⟨by kernel_rfl⟩
instance bytesTy66 : BytesTy Tryz.prog 66 24 := ⟨by kernel_rfl⟩
instance cellTy67 : CellTy Tryz.prog 67 := ⟨by kernel_rfl⟩
instance stoTy67 : StoTy Tryz.prog 67 := ⟨by kernel_rfl⟩
instance zeroTy67 : ZeroTy Tryz.prog 67 (.nilFunc) := ⟨by kernel_rfl⟩
instance bytesTy67 : BytesTy Tryz.prog 67 8 := ⟨by kernel_rfl⟩
instance cellTy68 : CellTy Tryz.prog 68 := ⟨by kernel_rfl⟩
instance stoTy68 : StoTy Tryz.prog 68 := ⟨by kernel_rfl⟩
instance zeroTy68 : ZeroTy Tryz.prog 68 (.nilFunc) := ⟨by kernel_rfl⟩
instance bytesTy68 : BytesTy Tryz.prog 68 8 := ⟨by kernel_rfl⟩
instance aggTy69 : AggTy Tryz.prog 69 4 := ⟨by kernel_rfl⟩
instance fldTy69_0 : FldTy Tryz.prog 69 0 9 0 := ⟨by kernel_rfl⟩
instance fldTy69_1 : FldTy Tryz.prog 69 1 3 1 := ⟨by kernel_rfl⟩
instance fldTy69_2 : FldTy Tryz.prog 69 2 3 2 := ⟨by kernel_rfl⟩
instance fldTy69_3 : FldTy Tryz.prog 69 3 3 3 := ⟨by kernel_rfl⟩
instance zeroTy69 : ZeroTy Tryz.prog 69 (.agg #[.string ⟨#[]⟩, .int .i64 0, .int .i64 0, .int .i64 0]) := ⟨by kernel_rfl⟩
instance bytesTy69 : BytesTy Tryz.prog 69 40 := ⟨by kernel_rfl⟩
instance aggTy70 : AggTy Tryz.prog 70 4 := ⟨by kernel_rfl⟩
instance fldTy70_0 : FldTy Tryz.prog 70 0 9 0 := ⟨by kernel_rfl⟩
instance fldTy70_1 : FldTy Tryz.prog 70 1 3 1 := ⟨by kernel_rfl⟩
instance fldTy70_2 : FldTy Tryz.prog 70 2 3 2 := ⟨by kernel_rfl⟩
instance fldTy70_3 : FldTy Tryz.prog 70 3 3 3 := ⟨by kernel_rfl⟩
instance zeroTy70 : ZeroTy Tryz.prog 70 (.agg #[.string ⟨#[]⟩, .int .i64 0, .int .i64 0, .int .i64 0]) := ⟨by kernel_rfl⟩
instance bytesTy70 : BytesTy Tryz.prog 70 40 := ⟨by kernel_rfl⟩
instance cellTy71 : CellTy Tryz.prog 71 := ⟨by kernel_rfl⟩
instance stoTy71 : StoTy Tryz.prog 71 := ⟨by kernel_rfl⟩
instance zeroTy71 : ZeroTy Tryz.prog 71 (.nilFunc) := ⟨by kernel_rfl⟩
instance bytesTy71 : BytesTy Tryz.prog 71 8 := ⟨by kernel_rfl⟩
instance aggTy72 : AggTy Tryz.prog 72 2 := ⟨by kernel_rfl⟩
instance fldTy72_0 : FldTy Tryz.prog 72 0 4 0 := ⟨by kernel_rfl⟩
instance fldTy72_1 : FldTy Tryz.prog 72 1 3 1 := ⟨by kernel_rfl⟩
instance zeroTy72 : ZeroTy Tryz.prog 72 (.agg #[.bool false, .int .i64 0]) := ⟨by kernel_rfl⟩
instance bytesTy72 : BytesTy Tryz.prog 72 16 := ⟨by kernel_rfl⟩
instance aggTy73 : AggTy Tryz.prog 73 2 := ⟨by kernel_rfl⟩
instance fldTy73_0 : FldTy Tryz.prog 73 0 4 0 := ⟨by kernel_rfl⟩
instance fldTy73_1 : FldTy Tryz.prog 73 1 3 1 := ⟨by kernel_rfl⟩
instance zeroTy73 : ZeroTy Tryz.prog 73 (.agg #[.bool false, .int .i64 0]) := ⟨by kernel_rfl⟩
instance bytesTy73 : BytesTy Tryz.prog 73 16 := ⟨by kernel_rfl⟩
instance aggTy74 : AggTy Tryz.prog 74 2 := ⟨by kernel_rfl⟩
instance fldTy74_0 : FldTy Tryz.prog 74 0 4 0 := ⟨by kernel_rfl⟩
instance fldTy74_1 : FldTy Tryz.prog 74 1 3 1 := ⟨by kernel_rfl⟩
instance zeroTy74 : ZeroTy Tryz.prog 74 (.agg #[.bool false, .int .i64 0]) := ⟨by kernel_rfl⟩
instance bytesTy74 : BytesTy Tryz.prog 74 16 := ⟨by kernel_rfl⟩
instance aggTy75 : AggTy Tryz.prog 75 2 := ⟨by kernel_rfl⟩
instance fldTy75_0 : FldTy Tryz.prog 75 0 4 0 := ⟨by kernel_rfl⟩
instance fldTy75_1 : FldTy Tryz.prog 75 1 3 1 := ⟨by kernel_rfl⟩
instance zeroTy75 : ZeroTy Tryz.prog 75 (.agg #[.bool false, .int .i64 0]) := ⟨by kernel_rfl⟩
instance bytesTy75 : BytesTy Tryz.prog 75 16 := ⟨by kernel_rfl⟩
instance aggTy76 : AggTy Tryz.prog 76 2 := ⟨by kernel_rfl⟩
instance fldTy76_0 : FldTy Tryz.prog 76 0 3 0 := ⟨by kernel_rfl⟩
instance fldTy76_1 : FldTy Tryz.prog 76 1 3 1 := ⟨by kernel_rfl⟩
instance zeroTy76 : ZeroTy Tryz.prog 76 (.agg #[.int .i64 0, .int .i64 0]) := ⟨by kernel_rfl⟩
instance bytesTy76 : BytesTy Tryz.prog 76 16 := ⟨by kernel_rfl⟩
instance aggTy77 : AggTy Tryz.prog 77 2 := ⟨by kernel_rfl⟩
instance fldTy77_0 : FldTy Tryz.prog 77 0 3 0 := ⟨by kernel_rfl⟩
instance fldTy77_1 : FldTy Tryz.prog 77 1 3 1 := ⟨by kernel_rfl⟩
instance zeroTy77 : ZeroTy Tryz.prog 77 (.agg #[.int .i64 0, .int .i64 0]) := ⟨by kernel_rfl⟩
instance bytesTy77 : BytesTy Tryz.prog 77 16 := ⟨by kernel_rfl⟩
instance aggTy78 : AggTy Tryz.prog 78 2 := ⟨by kernel_rfl⟩
instance fldTy78_0 : FldTy Tryz.prog 78 0 3 0 := ⟨by kernel_rfl⟩
instance fldTy78_1 : FldTy Tryz.prog 78 1 3 1 := ⟨by kernel_rfl⟩
instance zeroTy78 : ZeroTy Tryz.prog 78 (.agg #[.int .i64 0, .int .i64 0]) := ⟨by kernel_rfl⟩
instance bytesTy78 : BytesTy Tryz.prog 78 16 := ⟨by kernel_rfl⟩
instance aggTy79 : AggTy Tryz.prog 79 2 := ⟨by kernel_rfl⟩
instance fldTy79_0 : FldTy Tryz.prog 79 0 3 0 := ⟨by kernel_rfl⟩
instance fldTy79_1 : FldTy Tryz.prog 79 1 3 1 := ⟨by kernel_rfl⟩
instance zeroTy79 : ZeroTy Tryz.prog 79 (.agg #[.int .i64 0, .int .i64 0]) := ⟨by kernel_rfl⟩
instance bytesTy79 : BytesTy Tryz.prog 79 16 := ⟨by kernel_rfl⟩
instance aggTy80 : AggTy Tryz.prog 80 4 := ⟨by kernel_rfl⟩
instance arrTy80 : ArrTy Tryz.prog 80 2 79 2 := ⟨by kernel_rfl⟩
instance zeroTy80 : ZeroTy Tryz.prog 80 (.agg #[.int .i64 0, .int .i64 0, .int .i64 0, .int .i64 0]) := ⟨by kernel_rfl⟩
instance bytesTy80 : BytesTy Tryz.prog 80 32 := ⟨by kernel_rfl⟩
instance aggTy81 : AggTy Tryz.prog 81 12 := ⟨by kernel_rfl⟩
instance fldTy81_0 : FldTy Tryz.prog 81 0 9 0 := ⟨by kernel_rfl⟩
instance fldTy81_1 : FldTy Tryz.prog 81 1 3 1 := ⟨by kernel_rfl⟩
instance fldTy81_2 : FldTy Tryz.prog 81 2 3 2 := ⟨by kernel_rfl⟩
instance fldTy81_3 : FldTy Tryz.prog 81 3 3 3 := ⟨by kernel_rfl⟩
instance fldTy81_4 : FldTy Tryz.prog 81 4 3 4 := ⟨by kernel_rfl⟩
instance fldTy81_5 : FldTy Tryz.prog 81 5 3 5 := ⟨by kernel_rfl⟩
instance fldTy81_6 : FldTy Tryz.prog 81 6 77 6 := ⟨by kernel_rfl⟩
instance fldTy81_7 : FldTy Tryz.prog 81 7 80 8 := ⟨by kernel_rfl⟩
instance zeroTy81 : ZeroTy Tryz.prog 81 (.agg #[.string ⟨#[]⟩, .int .i64 0, .int .i64 0, .int .i64 0, .int .i64 0, .int .i64 0, .int .i64 0, .int .i64 0, .int .i64 0, .int .i64 0, .int .i64 0, .int .i64 0]) := ⟨by kernel_rfl⟩
instance bytesTy81 : BytesTy Tryz.prog 81 104 := ⟨by kernel_rfl⟩
instance aggTy82 : AggTy Tryz.prog 82 12 := ⟨by kernel_rfl⟩
instance fldTy82_0 : FldTy Tryz.prog 82 0 9 0 := ⟨by kernel_rfl⟩
instance fldTy82_1 : FldTy Tryz.prog 82 1 3 1 := ⟨by kernel_rfl⟩
instance fldTy82_2 : FldTy Tryz.prog 82 2 3 2 := ⟨by kernel_rfl⟩
instance fldTy82_3 : FldTy Tryz.prog 82 3 3 3 := ⟨by kernel_rfl⟩
instance fldTy82_4 : FldTy Tryz.prog 82 4 3 4 := ⟨by kernel_rfl⟩
instance fldTy82_5 : FldTy Tryz.prog 82 5 3 5 := ⟨by kernel_rfl⟩
instance fldTy82_6 : FldTy Tryz.prog 82 6 77 6 := ⟨by kernel_rfl⟩
instance fldTy82_7 : FldTy Tryz.prog 82 7 80 8 := ⟨by kernel_rfl⟩
instance zeroTy82 : ZeroTy Tryz.prog 82 (.agg #[.string ⟨#[]⟩, .int .i64 0, .int .i64 0, .int .i64 0, .int .i64 0, .int .i64 0, .int .i64 0, .int .i64 0, .int .i64 0, .int .i64 0, .int .i64 0, .int .i64 0]) := ⟨by kernel_rfl⟩
instance bytesTy82 : BytesTy Tryz.prog 82 104 := ⟨by kernel_rfl⟩
instance cellTy83 : CellTy Tryz.prog 83 := ⟨by kernel_rfl⟩
instance stoTy83 : StoTy Tryz.prog 83 := ⟨by kernel_rfl⟩
instance zeroTy83 : ZeroTy Tryz.prog 83 (.nilFunc) := ⟨by kernel_rfl⟩
instance bytesTy83 : BytesTy Tryz.prog 83 8 := ⟨by kernel_rfl⟩
instance cellTy84 : CellTy Tryz.prog 84 := ⟨by kernel_rfl⟩
instance stoTy84 : StoTy Tryz.prog 84 := ⟨by kernel_rfl⟩
instance zeroTy84 : ZeroTy Tryz.prog 84 (.nilFunc) := ⟨by kernel_rfl⟩
instance bytesTy84 : BytesTy Tryz.prog 84 8 := ⟨by kernel_rfl⟩
instance cellTy85 : CellTy Tryz.prog 85 := ⟨by kernel_rfl⟩
instance stoTy85 : StoTy Tryz.prog 85 := ⟨by kernel_rfl⟩
instance zeroTy85 : ZeroTy Tryz.prog 85 (.nilFunc) := ⟨by kernel_rfl⟩
instance bytesTy85 : BytesTy Tryz.prog 85 8 := ⟨by kernel_rfl⟩
instance cellTy86 : CellTy Tryz.prog 86 := ⟨by kernel_rfl⟩
instance stoTy86 : StoTy Tryz.prog 86 := ⟨by kernel_rfl⟩
instance zeroTy86 : ZeroTy Tryz.prog 86 (.nilFunc) := ⟨by kernel_rfl⟩
instance bytesTy86 : BytesTy Tryz.prog 86 8 := ⟨by kernel_rfl⟩
instance cellTy87 : CellTy Tryz.prog 87 := ⟨by kernel_rfl⟩
instance stoTy87 : StoTy Tryz.prog 87 := ⟨by kernel_rfl⟩
instance zeroTy87 : ZeroTy Tryz.prog 87 (.nilFunc) := ⟨by kernel_rfl⟩
instance bytesTy87 : BytesTy Tryz.prog 87 8 := ⟨by kernel_rfl⟩
instance cellTy88 : CellTy Tryz.prog 88 := ⟨by kernel_rfl⟩
instance stoTy88 : StoTy Tryz.prog 88 := ⟨by kernel_rfl⟩
instance zeroTy88 : ZeroTy Tryz.prog 88 (.tuple #[.int .i64 0, .int .i64 0]) := ⟨by kernel_rfl⟩
instance bytesTy88 : BytesTy Tryz.prog 88 0 := ⟨by kernel_rfl⟩
instance cellTy89 : CellTy Tryz.prog 89 := ⟨by kernel_rfl⟩
instance stoTy89 : StoTy Tryz.prog 89 := ⟨by kernel_rfl⟩
instance zeroTy89 : ZeroTy Tryz.prog 89 (.nilFunc) := ⟨by kernel_rfl⟩
instance bytesTy89 : BytesTy Tryz.prog 89 8 := ⟨by kernel_rfl⟩
instance cellTy90 : CellTy Tryz.prog 90 := ⟨by kernel_rfl⟩
instance stoTy90 : StoTy Tryz.prog 90 := ⟨by kernel_rfl⟩
instance zeroTy90 : ZeroTy Tryz.prog 90 (.nilFunc) := ⟨by kernel_rfl⟩
instance bytesTy90 : BytesTy Tryz.prog 90 8 := ⟨by kernel_rfl⟩
instance aggTy91 : AggTy Tryz.prog 91 4 := ⟨by kernel_rfl⟩
instance fldTy91_0 : FldTy Tryz.prog 91 0 4 0 := ⟨by kernel_rfl⟩
instance fldTy91_1 : FldTy Tryz.prog 91 1 3 1 := ⟨by kernel_rfl⟩
instance fldTy91_2 : FldTy Tryz.prog 91 2 3 2 := ⟨by kernel_rfl⟩
instance fldTy91_3 : FldTy Tryz.prog 91 3 3 3 := ⟨by kernel_rfl⟩
instance zeroTy91 : ZeroTy Tryz.prog 91 (.agg #[.bool false, .int .i64 0, .int .i64 0, .int .i64 0]) := ⟨by kernel_rfl⟩
instance bytesTy91 : BytesTy Tryz.prog 91 32 := ⟨by kernel_rfl⟩
instance aggTy92 : AggTy Tryz.prog 92 4 := ⟨by kernel_rfl⟩
instance fldTy92_0 : FldTy Tryz.prog 92 0 4 0 := ⟨by kernel_rfl⟩
instance fldTy92_1 : FldTy Tryz.prog 92 1 3 1 := ⟨by kernel_rfl⟩
instance fldTy92_2 : FldTy Tryz.prog 92 2 3 2 := ⟨by kernel_rfl⟩
instance fldTy92_3 : FldTy Tryz.prog 92 3 3 3 := ⟨by kernel_rfl⟩
instance zeroTy92 : ZeroTy Tryz.prog 92 (.agg #[.bool false, .int .i64 0, .int .i64 0, .int .i64 0]) := ⟨by kernel_rfl⟩
instance bytesTy92 : BytesTy Tryz.prog 92 32 := ⟨by kernel_rfl⟩
instance cellTy93 : CellTy Tryz.prog 93 := ⟨by kernel_rfl⟩
instance stoTy93 : StoTy Tryz.prog 93 := ⟨by kernel_rfl⟩
instance zeroTy93 : ZeroTy Tryz.prog 93 (.tuple #[.agg #[.bool false, .int .i64 0, .int .i64 0, .int .i64 0], .int .i64 0]) := ⟨by kernel_rfl⟩
instance bytesTy93 : BytesTy Tryz.prog 93 0 := ⟨by kernel_rfl⟩
instance cellTy94 : CellTy Tryz.prog 94 := ⟨by kernel_rfl⟩
instance stoTy94 : StoTy Tryz.prog 94 := ⟨by kernel_rfl⟩
instance zeroTy94 : ZeroTy Tryz.prog 94 (.nilFunc) := ⟨by kernel_rfl⟩
instance bytesTy94 : BytesTy Tryz.prog 94 8 := ⟨by kernel_rfl⟩
instance cellTy95 : CellTy Tryz.prog 95 := ⟨by kernel_rfl⟩
instance stoTy95 : StoTy Tryz.prog 95 := ⟨by kernel_rfl⟩
instance zeroTy95 : ZeroTy Tryz.prog 95 (.nilFunc) := ⟨by kernel_rfl⟩
instance bytesTy95 : BytesTy Tryz.prog 95 8 := ⟨by kernel_rfl⟩
instance cellTy96 : CellTy Tryz.prog 96 := ⟨by kernel_rfl⟩
instance stoTy96 : StoTy Tryz.prog 96 := ⟨by kernel_rfl⟩
instance zeroTy96 : ZeroTy Tryz.prog 96 (.nilFunc) := ⟨by kernel_rfl⟩
instance bytesTy96 : BytesTy Tryz.prog 96 8 := ⟨by kernel_rfl⟩
instance cellTy97 : CellTy Tryz.prog 97 := ⟨by kernel_rfl⟩
instance stoTy97 : StoTy Tryz.prog 97 := ⟨by kernel_rfl⟩
instance zeroTy97 : ZeroTy Tryz.prog 97 (.nilFunc) := ⟨by kernel_rfl⟩
instance bytesTy97 : BytesTy Tryz.prog 97 8 := ⟨by kernel_rfl⟩
instance cellTy98 : CellTy Tryz.prog 98 := ⟨by kernel_rfl⟩
instance stoTy98 : StoTy Tryz.prog 98 := ⟨by kernel_rfl⟩
instance zeroTy98 : ZeroTy Tryz.prog 98 (.nilFunc) := ⟨by kernel_rfl⟩
instance bytesTy98 : BytesTy Tryz.prog 98 8 := ⟨by kernel_rfl⟩
instance cellTy99 : CellTy Tryz.prog 99 := ⟨by kernel_rfl⟩
instance stoTy99 : StoTy Tryz.prog 99 := ⟨by kernel_rfl⟩
instance zeroTy99 : ZeroTy Tryz.prog 99 (.tuple #[.int .i64 0, .bool false, .int .i64 0]) := ⟨by kernel_rfl⟩
instance bytesTy99 : BytesTy Tryz.prog 99 0 := ⟨by kernel_rfl⟩
instance cellTy100 : CellTy Tryz.prog 100 := ⟨by kernel_rfl⟩
instance stoTy100 : StoTy Tryz.prog 100 := ⟨by kernel_rfl⟩
instance zeroTy100 : ZeroTy Tryz.prog 100 (.nilFunc) := ⟨by kernel_rfl⟩
instance bytesTy100 : BytesTy Tryz.prog 100 8 := ⟨by kernel_rfl⟩
instance cellTy101 : CellTy Tryz.prog 101 := ⟨by kernel_rfl⟩
instance stoTy101 : StoTy Tryz.prog 101 := ⟨by kernel_rfl⟩
instance zeroTy101 : ZeroTy Tryz.prog 101 (.nilFunc) := ⟨by kernel_rfl⟩
instance bytesTy101 : BytesTy Tryz.prog 101 8 := ⟨by kernel_rfl⟩
instance cellTy102 : CellTy Tryz.prog 102 := ⟨by kernel_rfl⟩
instance stoTy102 : StoTy Tryz.prog 102 := ⟨by kernel_rfl⟩
instance zeroTy102 : ZeroTy Tryz.prog 102 (.nilFunc) := ⟨by kernel_rfl⟩
instance bytesTy102 : BytesTy Tryz.prog 102 8 := ⟨by kernel_rfl⟩
instance cellTy103 : CellTy Tryz.prog 103 := ⟨by kernel_rfl⟩
instance stoTy103 : StoTy Tryz.prog 103 := ⟨by kernel_rfl⟩
instance zeroTy103 : ZeroTy Tryz.prog 103 (.nilFunc) := ⟨by kernel_rfl⟩
instance bytesTy103 : BytesTy Tryz.prog 103 8 := ⟨by kernel_rfl⟩
instance cellTy104 : CellTy Tryz.prog 104 := ⟨by kernel_rfl⟩
instance stoTy104 : StoTy Tryz.prog 104 := ⟨by kernel_rfl⟩
instance zeroTy104 : ZeroTy Tryz.prog 104 (.nilFunc) := ⟨by kernel_rfl⟩
instance bytesTy104 : BytesTy Tryz.prog 104 8 := ⟨by kernel_rfl⟩
instance cellTy105 : CellTy Tryz.prog 105 := ⟨by kernel_rfl⟩
instance stoTy105 : StoTy Tryz.prog 105 := ⟨by kernel_rfl⟩
instance zeroTy105 : ZeroTy Tryz.prog 105 (.nilFunc) := ⟨by kernel_rfl⟩
instance bytesTy105 : BytesTy Tryz.prog 105 8 := ⟨by kernel_rfl⟩
instance cellTy106 : CellTy Tryz.prog 106 := ⟨by kernel_rfl⟩
instance stoTy106 : StoTy Tryz.prog 106 := ⟨by kernel_rfl⟩
instance zeroTy106 : ZeroTy Tryz.prog 106 (.nilFunc) := ⟨by kernel_rfl⟩
instance bytesTy106 : BytesTy Tryz.prog 106 8 := ⟨by kernel_rfl⟩
instance cellTy107 : CellTy Tryz.prog 107 := ⟨by kernel_rfl⟩
instance stoTy107 : StoTy Tryz.prog 107 := ⟨by kernel_rfl⟩
instance zeroTy107 : ZeroTy Tryz.prog 107 (.nilFunc) := ⟨by kernel_rfl⟩
instance bytesTy107 : BytesTy Tryz.prog 107 8 := ⟨by kernel_rfl⟩
instance cellTy108 : CellTy Tryz.prog 108 := ⟨by kernel_rfl⟩
instance stoTy108 : StoTy Tryz.prog 108 := ⟨by kernel_rfl⟩
instance zeroTy108 : ZeroTy Tryz.prog 108 (.nilFunc) := ⟨by kernel_rfl⟩
instance bytesTy108 : BytesTy Tryz.prog 108 8 := ⟨by kernel_rfl⟩
instance aggTy109 : AggTy Tryz.prog 109 2 := ⟨by kernel_rfl⟩
instance fldTy109_0 : FldTy Tryz.prog 109 0 3 0 := ⟨by kernel_rfl⟩
instance fldTy109_1 : FldTy Tryz.prog 109 1 3 1 := ⟨by kernel_rfl⟩
instance zeroTy109 : ZeroTy Tryz.prog 109 (.agg #[.int .i64 0, .int .i64 0]) := ⟨by kernel_rfl⟩
instance bytesTy109 : BytesTy Tryz.prog 109 16 := ⟨by kernel_rfl⟩
instance aggTy110 : AggTy Tryz.prog 110 2 := ⟨by kernel_rfl⟩
instance fldTy110_0 : FldTy Tryz.prog 110 0 3 0 := ⟨by kernel_rfl⟩
instance fldTy110_1 : FldTy Tryz.prog 110 1 3 1 := ⟨by kernel_rfl⟩
instance zeroTy110 : ZeroTy Tryz.prog 110 (.agg #[.int .i64 0, .int .i64 0]) := ⟨by kernel_rfl⟩
instance bytesTy110 : BytesTy Tryz.prog 110 16 := ⟨by kernel_rfl⟩
instance cellTy111 : CellTy Tryz.prog 111 := ⟨by kernel_rfl⟩
instance stoTy111 : StoTy Tryz.prog 111 := ⟨by kernel_rfl⟩
instance sliceTy111 : SliceTy Tryz.prog 111 110 2 := ⟨by kernel_rfl⟩
instance zeroTy111 : ZeroTy Tryz.prog 111 (.slice none 0 0) := ⟨by kernel_rfl⟩
instance bytesTy111 : BytesTy Tryz.prog 111 24 := ⟨by kernel_rfl⟩
instance cellTy112 : CellTy Tryz.prog 112 := ⟨by kernel_rfl⟩
instance stoTy112 : StoTy Tryz.prog 112 := ⟨by kernel_rfl⟩
instance zeroTy112 : ZeroTy Tryz.prog 112 (.tuple #[.slice none 0 0, .int .i64 0]) := ⟨by kernel_rfl⟩
instance bytesTy112 : BytesTy Tryz.prog 112 0 := ⟨by kernel_rfl⟩
instance cellTy113 : CellTy Tryz.prog 113 := ⟨by kernel_rfl⟩
instance stoTy113 : StoTy Tryz.prog 113 := ⟨by kernel_rfl⟩
instance zeroTy113 : ZeroTy Tryz.prog 113 (.nilFunc) := ⟨by kernel_rfl⟩
instance bytesTy113 : BytesTy Tryz.prog 113 8 := ⟨by kernel_rfl⟩
instance cellTy114 : CellTy Tryz.prog 114 := ⟨by kernel_rfl⟩
instance stoTy114 : StoTy Tryz.prog 114 := ⟨by kernel_rfl⟩
instance zeroTy114 : ZeroTy Tryz.prog 114 (.nilFunc) := ⟨by kernel_rfl⟩
instance bytesTy114 : BytesTy Tryz.prog 114 8 := ⟨by kernel_rfl⟩
instance cellTy115 : CellTy Tryz.prog 115 := ⟨by kernel_rfl⟩
instance stoTy115 : StoTy Tryz.prog 115 := ⟨by kernel_rfl⟩
instance zeroTy115 : ZeroTy Tryz.prog 115 (.nilFunc) := ⟨by kernel_rfl⟩
instance bytesTy115 : BytesTy Tryz.prog 115 8 := ⟨by kernel_rfl⟩
instance cellTy116 : CellTy Tryz.prog 116 := ⟨by kernel_rfl⟩
instance stoTy116 : StoTy Tryz.prog 116 := ⟨by kernel_rfl⟩
instance zeroTy116 : ZeroTy Tryz.prog 116 (.nilFunc) := ⟨by kernel_rfl⟩
instance bytesTy116 : BytesTy Tryz.prog 116 8 := ⟨by kernel_rfl⟩
instance cellTy117 : CellTy Tryz.prog 117 := ⟨by kernel_rfl⟩
instance stoTy117 : StoTy Tryz.prog 117 := ⟨by kernel_rfl⟩
instance zeroTy117 : ZeroTy Tryz.prog 117 (.nilFunc) := ⟨by kernel_rfl⟩
instance bytesTy117 : BytesTy Tryz.prog 117 8 := ⟨by kernel_rfl⟩
instance cellTy118 : CellTy Tryz.prog 118 := ⟨by kernel_rfl⟩
instance stoTy118 : StoTy Tryz.prog 118 := ⟨by kernel_rfl⟩
instance zeroTy118 : ZeroTy Tryz.prog 118 (.nilFunc) := ⟨by kernel_rfl⟩
instance bytesTy118 : BytesTy Tryz.prog 118 8 := ⟨by kernel_rfl⟩
instance cellTy119 : CellTy Tryz.prog 119 := ⟨by kernel_rfl⟩
instance stoTy119 : StoTy Tryz.prog 119 := ⟨by kernel_rfl⟩
instance zeroTy119 : ZeroTy Tryz.prog 119 (.nilFunc) := ⟨by kernel_rfl⟩
instance bytesTy119 : BytesTy Tryz.prog 119 8 := ⟨by kernel_rfl⟩
instance cellTy120 : CellTy Tryz.prog 120 := ⟨by kernel_rfl⟩
instance stoTy120 : StoTy Tryz.prog 120 := ⟨by kernel_rfl⟩
instance zeroTy120 : ZeroTy Tryz.prog 120 (.nilFunc) := ⟨by kernel_rfl⟩
instance bytesTy120 : BytesTy Tryz.prog 120 8 := ⟨by kernel_rfl⟩
instance cellTy121 : CellTy Tryz.prog 121 := ⟨by kernel_rfl⟩
instance stoTy121 : StoTy Tryz.prog 121 := ⟨by kernel_rfl⟩
instance zeroTy121 : ZeroTy Tryz.prog 121 (.nilFunc) := ⟨by kernel_rfl⟩
instance bytesTy121 : BytesTy Tryz.prog 121 8 := ⟨by kernel_rfl⟩
instance cellTy122 : CellTy Tryz.prog 122 := ⟨by kernel_rfl⟩
instance stoTy122 : StoTy Tryz.prog 122 := ⟨by kernel_rfl⟩
instance zeroTy122 : ZeroTy Tryz.prog 122 (.tuple #[.agg #[.int .i64 0, .int .i64 0], .int .i64 0]) := ⟨by kernel_rfl⟩
instance bytesTy122 : BytesTy Tryz.prog 122 0 := ⟨by kernel_rfl⟩
instance cellTy123 : CellTy Tryz.prog 123 := ⟨by kernel_rfl⟩
instance stoTy123 : StoTy Tryz.prog 123 := ⟨by kernel_rfl⟩
instance zeroTy123 : ZeroTy Tryz.prog 123 (.nilFunc) := ⟨by kernel_rfl⟩
instance bytesTy123 : BytesTy Tryz.prog 123 8 := ⟨by kernel_rfl⟩
instance cellTy124 : CellTy Tryz.prog 124 := ⟨by kernel_rfl⟩
instance stoTy124 : StoTy Tryz.prog 124 := ⟨by kernel_rfl⟩
instance zeroTy124 : ZeroTy Tryz.prog 124 (.nilFunc) := ⟨by kernel_rfl⟩
instance bytesTy124 : BytesTy Tryz.prog 124 8 := ⟨by kernel_rfl⟩
instance cellTy125 : CellTy Tryz.prog 125 := ⟨by kernel_rfl⟩
instance stoTy125 : StoTy Tryz.prog 125 := ⟨by kernel_rfl⟩
instance zeroTy125 : ZeroTy Tryz.prog 125 (.nilFunc) := ⟨by kernel_rfl⟩
instance bytesTy125 : BytesTy Tryz.prog 125 8 := ⟨by kernel_rfl⟩
instance cellTy126 : CellTy Tryz.prog 126 := ⟨by kernel_rfl⟩
instance stoTy126 : StoTy Tryz.prog 126 := ⟨by kernel_rfl⟩
instance zeroTy126 : ZeroTy Tryz.prog 126 (.nilFunc) := ⟨by kernel_rfl⟩
instance bytesTy126 : BytesTy Tryz.prog 126 8 := ⟨by kernel_rfl⟩
instance cellTy127 : CellTy Tryz.prog 127 := ⟨by kernel_rfl⟩
instance stoTy127 : StoTy Tryz.prog 127 := ⟨by kernel_rfl⟩
instance zeroTy127 : ZeroTy Tryz.prog 127 (.nilFunc) := ⟨by kernel_rfl⟩
instance bytesTy127 : BytesTy Tryz.prog 127 8 := ⟨by kernel_rfl⟩
instance cellTy128 : CellTy Tryz.prog 128 := ⟨by kernel_rfl⟩
instance stoTy128 : StoTy Tryz.prog 128 := ⟨by kernel_rfl⟩
instance zeroTy128 : ZeroTy Tryz.prog 128 (.nilFunc) := ⟨by kernel_rfl⟩
instance bytesTy128 : BytesTy Tryz.prog 128 8 := ⟨by kernel_rfl⟩
instance cellTy129 : CellTy Tryz.prog 129 := ⟨by kernel_rfl⟩
instance stoTy129 : StoTy Tryz.prog 129 := ⟨by kernel_rfl⟩
instance zeroTy129 : ZeroTy Tryz.prog 129 (.nilFunc) := ⟨by kernel_rfl⟩
instance bytesTy129 : BytesTy Tryz.prog 129 8 := ⟨by kernel_rfl⟩
instance cellTy130 : CellTy Tryz.prog 130 := ⟨by kernel_rfl⟩
instance stoTy130 : StoTy Tryz.prog 130 := ⟨by kernel_rfl⟩
instance zeroTy130 : ZeroTy Tryz.prog 130 (.nilFunc) := ⟨by kernel_rfl⟩
instance bytesTy130 : BytesTy Tryz.prog 130 8 := ⟨by kernel_rfl⟩
instance cellTy131 : CellTy Tryz.prog 131 := ⟨by kernel_rfl⟩
instance stoTy131 : StoTy Tryz.prog 131 := ⟨by kernel_rfl⟩
instance zeroTy131 : ZeroTy Tryz.prog 131 (.nilFunc) := ⟨by kernel_rfl⟩
instance bytesTy131 : BytesTy Tryz.prog 131 8 := ⟨by kernel_rfl⟩
instance cellTy132 : CellTy Tryz.prog 132 := ⟨by kernel_rfl⟩
instance stoTy132 : StoTy Tryz.prog 132 := ⟨by kernel_rfl⟩
instance zeroTy132 : ZeroTy Tryz.prog 132 (.nilFunc) := ⟨by kernel_rfl⟩
instance bytesTy132 : BytesTy Tryz.prog 132 8 := ⟨by kernel_rfl⟩
instance cellTy133 : CellTy Tryz.prog 133 := ⟨by kernel_rfl⟩
instance stoTy133 : StoTy Tryz.prog 133 := ⟨by kernel_rfl⟩
instance intTy133 : IntTy Tryz.prog 133 .i64 := ⟨by kernel_rfl⟩
instance zeroTy133 : ZeroTy Tryz.prog 133 (.int .i64 0) := ⟨by kernel_rfl⟩
instance bytesTy133 : BytesTy Tryz.prog 133 8 := ⟨by kernel_rfl⟩
instance cellTy134 : CellTy Tryz.prog 134 := ⟨by kernel_rfl⟩
instance stoTy134 : StoTy Tryz.prog 134 := ⟨by kernel_rfl⟩
instance zeroTy134 : ZeroTy Tryz.prog 134 (.tuple #[.int .i64 0, .bool false]) := ⟨by kernel_rfl⟩
instance bytesTy134 : BytesTy Tryz.prog 134 0 := ⟨by kernel_rfl⟩
instance cellTy135 : CellTy Tryz.prog 135 := ⟨by kernel_rfl⟩
instance stoTy135 : StoTy Tryz.prog 135 := ⟨by kernel_rfl⟩
instance zeroTy135 : ZeroTy Tryz.prog 135 (.nilFunc) := ⟨by kernel_rfl⟩
instance bytesTy135 : BytesTy Tryz.prog 135 8 := ⟨by kernel_rfl⟩
instance cellTy136 : CellTy Tryz.prog 136 := ⟨by kernel_rfl⟩
instance stoTy136 : StoTy Tryz.prog 136 := ⟨by kernel_rfl⟩
instance zeroTy136 : ZeroTy Tryz.prog 136 (.nilFunc) := ⟨by kernel_rfl⟩
instance bytesTy136 : BytesTy Tryz.prog 136 8 := ⟨by kernel_rfl⟩
instance aggTy137 : AggTy Tryz.prog 137 2 := ⟨by kernel_rfl⟩
instance fldTy137_0 : FldTy Tryz.prog 137 0 9 0 := ⟨by kernel_rfl⟩
instance fldTy137_1 : FldTy Tryz.prog 137 1 3 1 := ⟨by kernel_rfl⟩
instance zeroTy137 : ZeroTy Tryz.prog 137 (.agg #[.string ⟨#[]⟩, .int .i64 0]) := ⟨by kernel_rfl⟩
instance bytesTy137 : BytesTy Tryz.prog 137 24 := ⟨by kernel_rfl⟩
instance aggTy138 : AggTy Tryz.prog 138 2 := ⟨by kernel_rfl⟩
instance fldTy138_0 : FldTy Tryz.prog 138 0 9 0 := ⟨by kernel_rfl⟩
instance fldTy138_1 : FldTy Tryz.prog 138 1 3 1 := ⟨by kernel_rfl⟩
instance zeroTy138 : ZeroTy Tryz.prog 138 (.agg #[.string ⟨#[]⟩, .int .i64 0]) := ⟨by kernel_rfl⟩
instance bytesTy138 : BytesTy Tryz.prog 138 24 := ⟨by kernel_rfl⟩
instance cellTy139 : CellTy Tryz.prog 139 := ⟨by kernel_rfl⟩
instance stoTy139 : StoTy Tryz.prog 139 := ⟨by kernel_rfl⟩
instance zeroTy139 : ZeroTy Tryz.prog 139 (.nilFunc) := ⟨by kernel_rfl⟩
instance bytesTy139 : BytesTy Tryz.prog 139 8 := ⟨by kernel_rfl⟩
instance aggTy140 : AggTy Tryz.prog 140 10 := ⟨by kernel_rfl⟩
instance fldTy140_0 : FldTy Tryz.prog 140 0 9 0 := ⟨by kernel_rfl⟩
instance fldTy140_1 : FldTy Tryz.prog 140 1 3 1 := ⟨by kernel_rfl⟩
instance fldTy140_2 : FldTy Tryz.prog 140 2 3 2 := ⟨by kernel_rfl⟩
instance fldTy140_3 : FldTy Tryz.prog 140 3 3 3 := ⟨by kernel_rfl⟩
instance fldTy140_4 : FldTy Tryz.prog 140 4 3 4 := ⟨by kernel_rfl⟩
instance fldTy140_5 : FldTy Tryz.prog 140 5 3 5 := ⟨by kernel_rfl⟩
instance fldTy140_6 : FldTy Tryz.prog 140 6 3 6 := ⟨by kernel_rfl⟩
instance fldTy140_7 : FldTy Tryz.prog 140 7 3 7 := ⟨by kernel_rfl⟩
instance fldTy140_8 : FldTy Tryz.prog 140 8 3 8 := ⟨by kernel_rfl⟩
instance fldTy140_9 : FldTy Tryz.prog 140 9 3 9 := ⟨by kernel_rfl⟩
instance zeroTy140 : ZeroTy Tryz.prog 140 (.agg #[.string ⟨#[]⟩, .int .i64 0, .int .i64 0, .int .i64 0, .int .i64 0, .int .i64 0, .int .i64 0, .int .i64 0, .int .i64 0, .int .i64 0]) := ⟨by kernel_rfl⟩
instance bytesTy140 : BytesTy Tryz.prog 140 88 := ⟨by kernel_rfl⟩
instance aggTy141 : AggTy Tryz.prog 141 10 := ⟨by kernel_rfl⟩
instance fldTy141_0 : FldTy Tryz.prog 141 0 9 0 := ⟨by kernel_rfl⟩
instance fldTy141_1 : FldTy Tryz.prog 141 1 3 1 := ⟨by kernel_rfl⟩
instance fldTy141_2 : FldTy Tryz.prog 141 2 3 2 := ⟨by kernel_rfl⟩
instance fldTy141_3 : FldTy Tryz.prog 141 3 3 3 := ⟨by kernel_rfl⟩
instance fldTy141_4 : FldTy Tryz.prog 141 4 3 4 := ⟨by kernel_rfl⟩
instance fldTy141_5 : FldTy Tryz.prog 141 5 3 5 := ⟨by kernel_rfl⟩
instance fldTy141_6 : FldTy Tryz.prog 141 6 3 6 := ⟨by kernel_rfl⟩
instance fldTy141_7 : FldTy Tryz.prog 141 7 3 7 := ⟨by kernel_rfl⟩
instance fldTy141_8 : FldTy Tryz.prog 141 8 3 8 := ⟨by kernel_rfl⟩
instance fldTy141_9 : FldTy Tryz.prog 141 9 3 9 := ⟨by kernel_rfl⟩
instance zeroTy141 : ZeroTy Tryz.prog 141 (.agg #[.string ⟨#[]⟩, .int .i64 0, .int .i64 0, .int .i64 0, .int .i64 0, .int .i64 0, .int .i64 0, .int .i64 0, .int .i64 0, .int .i64 0]) := ⟨by kernel_rfl⟩
instance bytesTy141 : BytesTy Tryz.prog 141 88 := ⟨by kernel_rfl⟩
instance cellTy142 : CellTy Tryz.prog 142 := ⟨by kernel_rfl⟩
instance stoTy142 : StoTy Tryz.prog 142 := ⟨by kernel_rfl⟩
instance zeroTy142 : ZeroTy Tryz.prog 142 (.nilFunc) := ⟨by kernel_rfl⟩
instance bytesTy142 : BytesTy Tryz.prog 142 8 := ⟨by kernel_rfl⟩
instance aggTy143 : AggTy Tryz.prog 143 4 := ⟨by kernel_rfl⟩
instance fldTy143_0 : FldTy Tryz.prog 143 0 9 0 := ⟨by kernel_rfl⟩
instance fldTy143_1 : FldTy Tryz.prog 143 1 3 1 := ⟨by kernel_rfl⟩
instance fldTy143_2 : FldTy Tryz.prog 143 2 3 2 := ⟨by kernel_rfl⟩
instance fldTy143_3 : FldTy Tryz.prog 143 3 3 3 := ⟨by kernel_rfl⟩
instance zeroTy143 : ZeroTy Tryz.prog 143 (.agg #[.string ⟨#[]⟩, .int .i64 0, .int .i64 0, .int .i64 0]) := ⟨by kernel_rfl⟩
instance bytesTy143 : BytesTy Tryz.prog 143 40 := ⟨by kernel_rfl⟩
instance aggTy144 : AggTy Tryz.prog 144 4 := ⟨by kernel_rfl⟩
instance fldTy144_0 : FldTy Tryz.prog 144 0 9 0 := ⟨by kernel_rfl⟩
instance fldTy144_1 : FldTy Tryz.prog 144 1 3 1 := ⟨by kernel_rfl⟩
instance fldTy144_2 : FldTy Tryz.prog 144 2 3 2 := ⟨by kernel_rfl⟩
instance fldTy144_3 : FldTy Tryz.prog 144 3 3 3 := ⟨by kernel_rfl⟩
instance zeroTy144 : ZeroTy Tryz.prog 144 (.agg #[.string ⟨#[]⟩, .int .i64 0, .int .i64 0, .int .i64 0]) := ⟨by kernel_rfl⟩
instance bytesTy144 : BytesTy Tryz.prog 144 40 := ⟨by kernel_rfl⟩
instance cellTy145 : CellTy Tryz.prog 145 := ⟨by kernel_rfl⟩
instance stoTy145 : StoTy Tryz.prog 145 := ⟨by kernel_rfl⟩
instance zeroTy145 : ZeroTy Tryz.prog 145 (.nilFunc) := ⟨by kernel_rfl⟩
instance bytesTy145 : BytesTy Tryz.prog 145 8 := ⟨by kernel_rfl⟩
instance cellTy146 : CellTy Tryz.prog 146 := ⟨by kernel_rfl⟩
instance stoTy146 : StoTy Tryz.prog 146 := ⟨by kernel_rfl⟩
instance zeroTy146 : ZeroTy Tryz.prog 146 (.nilFunc) := ⟨by kernel_rfl⟩
instance bytesTy146 : BytesTy Tryz.prog 146 8 := ⟨by kernel_rfl⟩
instance cellTy147 : CellTy Tryz.prog 147 := ⟨by kernel_rfl⟩
instance stoTy147 : StoTy Tryz.prog 147 := ⟨by kernel_rfl⟩
instance zeroTy147 : ZeroTy Tryz.prog 147 (.nilFunc) := ⟨by kernel_rfl⟩
instance bytesTy147 : BytesTy Tryz.prog 147 8 := ⟨by kernel_rfl⟩
instance cellTy148 : CellTy Tryz.prog 148 := ⟨by kernel_rfl⟩
instance stoTy148 : StoTy Tryz.prog 148 := ⟨by kernel_rfl⟩
instance zeroTy148 : ZeroTy Tryz.prog 148 (.nilFunc) := ⟨by kernel_rfl⟩
instance bytesTy148 : BytesTy Tryz.prog 148 8 := ⟨by kernel_rfl⟩
instance cellTy149 : CellTy Tryz.prog 149 := ⟨by kernel_rfl⟩
instance stoTy149 : StoTy Tryz.prog 149 := ⟨by kernel_rfl⟩
instance zeroTy149 : ZeroTy Tryz.prog 149 (.nilFunc) := ⟨by kernel_rfl⟩
instance bytesTy149 : BytesTy Tryz.prog 149 8 := ⟨by kernel_rfl⟩
instance cellTy150 : CellTy Tryz.prog 150 := ⟨by kernel_rfl⟩
instance stoTy150 : StoTy Tryz.prog 150 := ⟨by kernel_rfl⟩
instance zeroTy150 : ZeroTy Tryz.prog 150 (.nilFunc) := ⟨by kernel_rfl⟩
instance bytesTy150 : BytesTy Tryz.prog 150 8 := ⟨by kernel_rfl⟩
instance cellTy151 : CellTy Tryz.prog 151 := ⟨by kernel_rfl⟩
instance stoTy151 : StoTy Tryz.prog 151 := ⟨by kernel_rfl⟩
instance zeroTy151 : ZeroTy Tryz.prog 151 (.nilFunc) := ⟨by kernel_rfl⟩
instance bytesTy151 : BytesTy Tryz.prog 151 8 := ⟨by kernel_rfl⟩
instance cellTy152 : CellTy Tryz.prog 152 := ⟨by kernel_rfl⟩
instance stoTy152 : StoTy Tryz.prog 152 := ⟨by kernel_rfl⟩
instance zeroTy152 : ZeroTy Tryz.prog 152 (.nilFunc) := ⟨by kernel_rfl⟩
instance bytesTy152 : BytesTy Tryz.prog 152 8 := ⟨by kernel_rfl⟩
instance cellTy153 : CellTy Tryz.prog 153 := ⟨by kernel_rfl⟩
instance stoTy153 : StoTy Tryz.prog 153 := ⟨by kernel_rfl⟩
instance zeroTy153 : ZeroTy Tryz.prog 153 (.nilFunc) := ⟨by kernel_rfl⟩
instance bytesTy153 : BytesTy Tryz.prog 153 8 := ⟨by kernel_rfl⟩
instance cellTy154 : CellTy Tryz.prog 154 := ⟨by kernel_rfl⟩
instance stoTy154 : StoTy Tryz.prog 154 := ⟨by kernel_rfl⟩
instance intTy154 : IntTy Tryz.prog 154 .u64 := ⟨by kernel_rfl⟩
instance zeroTy154 : ZeroTy Tryz.prog 154 (.int .u64 0) := ⟨by kernel_rfl⟩
instance bytesTy154 : BytesTy Tryz.prog 154 8 := ⟨by kernel_rfl⟩
instance cellTy155 : CellTy Tryz.prog 155 := ⟨by kernel_rfl⟩
instance stoTy155 : StoTy Tryz.prog 155 := ⟨by kernel_rfl⟩
instance zeroTy155 : ZeroTy Tryz.prog 155 (.nilFunc) := ⟨by kernel_rfl⟩
instance bytesTy155 : BytesTy Tryz.prog 155 8 := ⟨by kernel_rfl⟩
instance cellTy156 : CellTy Tryz.prog 156 := ⟨by kernel_rfl⟩
instance stoTy156 : StoTy Tryz.prog 156 := ⟨by kernel_rfl⟩
instance zeroTy156 : ZeroTy Tryz.prog 156 (.nilFunc) := ⟨by kernel_rfl⟩
instance bytesTy156 : BytesTy Tryz.prog 156 8 := ⟨by kernel_rfl⟩
instance cellTy157 : CellTy Tryz.prog 157 := ⟨by kernel_rfl⟩
instance stoTy157 : StoTy Tryz.prog 157 := ⟨by kernel_rfl⟩
instance zeroTy157 : ZeroTy Tryz.prog 157 (.nilFunc) := ⟨by kernel_rfl⟩
instance bytesTy157 : BytesTy Tryz.prog 157 8 := ⟨by kernel_rfl⟩
instance cellTy158 : CellTy Tryz.prog 158 := ⟨by kernel_rfl⟩
instance stoTy158 : StoTy Tryz.prog 158 := ⟨by kernel_rfl⟩
instance zeroTy158 : ZeroTy Tryz.prog 158 (.nilFunc) := ⟨by kernel_rfl⟩
instance bytesTy158 : BytesTy Tryz.prog 158 8 := ⟨by kernel_rfl⟩
instance cellTy159 : CellTy Tryz.prog 159 := ⟨by kernel_rfl⟩
instance stoTy159 : StoTy Tryz.prog 159 := ⟨by kernel_rfl⟩
instance zeroTy159 : ZeroTy Tryz.prog 159 (.nilFunc) := ⟨by kernel_rfl⟩
instance bytesTy159 : BytesTy Tryz.prog 159 8 := ⟨by kernel_rfl⟩
instance cellTy160 : CellTy Tryz.prog 160 := ⟨by kernel_rfl⟩
instance stoTy160 : StoTy Tryz.prog 160 := ⟨by kernel_rfl⟩
instance zeroTy160 : ZeroTy Tryz.prog 160 (.nilFunc) := ⟨by kernel_rfl⟩
instance bytesTy160 : BytesTy Tryz.prog 160 8 := ⟨by kernel_rfl⟩
instance cellTy161 : CellTy Tryz.prog 161 := ⟨by kernel_rfl⟩
instance stoTy161 : StoTy Tryz.prog 161 := ⟨by kernel_rfl⟩
instance zeroTy161 : ZeroTy Tryz.prog 161 (.nilFunc) := ⟨by kernel_rfl⟩
instance bytesTy161 : BytesTy Tryz.prog 161 8 := ⟨by kernel_rfl⟩
instance cellTy162 : CellTy Tryz.prog 162 := ⟨by kernel_rfl⟩
instance stoTy162 : StoTy Tryz.prog 162 := ⟨by kernel_rfl⟩
instance zeroTy162 : ZeroTy Tryz.prog 162 (.nilFunc) := ⟨by kernel_rfl⟩
instance bytesTy162 : BytesTy Tryz.prog 162 8 := ⟨by kernel_rfl⟩
instance cellTy163 : CellTy Tryz.prog 163 := ⟨by kernel_rfl⟩
instance stoTy163 : StoTy Tryz.prog 163 := ⟨by kernel_rfl⟩
instance intTy163 : IntTy Tryz.prog 163 .i64 := ⟨by kernel_rfl⟩
instance zeroTy163 : ZeroTy Tryz.prog 163 (.int .i64 0) := ⟨by kernel_rfl⟩
instance bytesTy163 : BytesTy Tryz.prog 163 8 := ⟨by kernel_rfl⟩
instance cellTy164 : CellTy Tryz.prog 164 := ⟨by kernel_rfl⟩
instance stoTy164 : StoTy Tryz.prog 164 := ⟨by kernel_rfl⟩
instance zeroTy164 : ZeroTy Tryz.prog 164 (.tuple #[.int .i64 0, .int .i64 0]) := ⟨by kernel_rfl⟩
instance bytesTy164 : BytesTy Tryz.prog 164 0 := ⟨by kernel_rfl⟩
instance cellTy165 : CellTy Tryz.prog 165 := ⟨by kernel_rfl⟩
instance stoTy165 : StoTy Tryz.prog 165 := ⟨by kernel_rfl⟩
instance zeroTy165 : ZeroTy Tryz.prog 165 (.nilFunc) := ⟨by kernel_rfl⟩
instance bytesTy165 : BytesTy Tryz.prog 165 8 := ⟨by kernel_rfl⟩
instance cellTy166 : CellTy Tryz.prog 166 := ⟨by kernel_rfl⟩
instance stoTy166 : StoTy Tryz.prog 166 := ⟨by kernel_rfl⟩
instance zeroTy166 : ZeroTy Tryz.prog 166 (.nilFunc) := ⟨by kernel_rfl⟩
instance bytesTy166 : BytesTy Tryz.prog 166 8 := ⟨by kernel_rfl⟩
instance cellTy167 : CellTy Tryz.prog 167 := ⟨by kernel_rfl⟩
instance stoTy167 : StoTy Tryz.prog 167 := ⟨by kernel_rfl⟩
instance zeroTy167 : ZeroTy Tryz.prog 167 (.nilFunc) := ⟨by kernel_rfl⟩
instance bytesTy167 : BytesTy Tryz.prog 167 8 := ⟨by kernel_rfl⟩
instance cellTy168 : CellTy Tryz.prog 168 := ⟨by kernel_rfl⟩
instance stoTy168 : StoTy Tryz.prog 168 := ⟨by kernel_rfl⟩
instance zeroTy168 : ZeroTy Tryz.prog 168 (.tuple #[.int .i64 0, .bool false]) := ⟨by kernel_rfl⟩
instance bytesTy168 : BytesTy Tryz.prog 168 0 := ⟨by kernel_rfl⟩
instance cellTy169 : CellTy Tryz.prog 169 := ⟨by kernel_rfl⟩
instance stoTy169 : StoTy Tryz.prog 169 := ⟨by kernel_rfl⟩
instance zeroTy169 : ZeroTy Tryz.prog 169 (.nilFunc) := ⟨by kernel_rfl⟩
instance bytesTy169 : BytesTy Tryz.prog 169 8 := ⟨by kernel_rfl⟩
instance cellTy170 : CellTy Tryz.prog 170 := ⟨by kernel_rfl⟩
instance stoTy170 : StoTy Tryz.prog 170 := ⟨by kernel_rfl⟩
instance zeroTy170 : ZeroTy Tryz.prog 170 (.nilFunc) := ⟨by kernel_rfl⟩
instance bytesTy170 : BytesTy Tryz.prog 170 8 := ⟨by kernel_rfl⟩
instance cellTy171 : CellTy Tryz.prog 171 := ⟨by kernel_rfl⟩
instance stoTy171 : StoTy Tryz.prog 171 := ⟨by kernel_rfl⟩
instance intTy171 : IntTy Tryz.prog 171 .u32 := ⟨by kernel_rfl⟩
instance zeroTy171 : ZeroTy Tryz.prog 171 (.int .u32 0) := ⟨by kernel_rfl⟩
instance bytesTy171 : BytesTy Tryz.prog 171 4 := ⟨by kernel_rfl⟩
instance cellTy172 : CellTy Tryz.prog 172 := ⟨by kernel_rfl⟩
instance stoTy172 : StoTy Tryz.prog 172 := ⟨by kernel_rfl⟩
instance zeroTy172 : ZeroTy Tryz.prog 172 (.nilFunc) := ⟨by kernel_rfl⟩
instance bytesTy172 : BytesTy Tryz.prog 172 8 := ⟨by kernel_rfl⟩
instance cellTy173 : CellTy Tryz.prog 173 := ⟨by kernel_rfl⟩
instance stoTy173 : StoTy Tryz.prog 173 := ⟨by kernel_rfl⟩
instance intTy173 : IntTy Tryz.prog 173 .u64 := ⟨by kernel_rfl⟩
instance zeroTy173 : ZeroTy Tryz.prog 173 (.int .u64 0) := ⟨by kernel_rfl⟩
instance bytesTy173 : BytesTy Tryz.prog 173 8 := ⟨by kernel_rfl⟩
instance cellTy174 : CellTy Tryz.prog 174 := ⟨by kernel_rfl⟩
instance stoTy174 : StoTy Tryz.prog 174 := ⟨by kernel_rfl⟩
instance zeroTy174 : ZeroTy Tryz.prog 174 (.nilFunc) := ⟨by kernel_rfl⟩
instance bytesTy174 : BytesTy Tryz.prog 174 8 := ⟨by kernel_rfl⟩
instance cellTy175 : CellTy Tryz.prog 175 := ⟨by kernel_rfl⟩
instance stoTy175 : StoTy Tryz.prog 175 := ⟨by kernel_rfl⟩
instance zeroTy175 : ZeroTy Tryz.prog 175 (.nilFunc) := ⟨by kernel_rfl⟩
instance bytesTy175 : BytesTy Tryz.prog 175 8 := ⟨by kernel_rfl⟩
instance cellTy176 : CellTy Tryz.prog 176 := ⟨by kernel_rfl⟩
instance stoTy176 : StoTy Tryz.prog 176 := ⟨by kernel_rfl⟩
instance intTy176 : IntTy Tryz.prog 176 .u64 := ⟨by kernel_rfl⟩
instance zeroTy176 : ZeroTy Tryz.prog 176 (.int .u64 0) := ⟨by kernel_rfl⟩
instance bytesTy176 : BytesTy Tryz.prog 176 8 := ⟨by kernel_rfl⟩
instance cellTy177 : CellTy Tryz.prog 177 := ⟨by kernel_rfl⟩
instance stoTy177 : StoTy Tryz.prog 177 := ⟨by kernel_rfl⟩
instance zeroTy177 : ZeroTy Tryz.prog 177 (.nilFunc) := ⟨by kernel_rfl⟩
instance bytesTy177 : BytesTy Tryz.prog 177 8 := ⟨by kernel_rfl⟩
instance cellTy178 : CellTy Tryz.prog 178 := ⟨by kernel_rfl⟩
instance stoTy178 : StoTy Tryz.prog 178 := ⟨by kernel_rfl⟩
instance zeroTy178 : ZeroTy Tryz.prog 178 (.nilFunc) := ⟨by kernel_rfl⟩
instance bytesTy178 : BytesTy Tryz.prog 178 8 := ⟨by kernel_rfl⟩
instance cellTy179 : CellTy Tryz.prog 179 := ⟨by kernel_rfl⟩
instance stoTy179 : StoTy Tryz.prog 179 := ⟨by kernel_rfl⟩
instance zeroTy179 : ZeroTy Tryz.prog 179 (.pointer none) := ⟨by kernel_rfl⟩
instance bytesTy179 : BytesTy Tryz.prog 179 8 := ⟨by kernel_rfl⟩
instance cellTy180 : CellTy Tryz.prog 180 := ⟨by kernel_rfl⟩
instance stoTy180 : StoTy Tryz.prog 180 := ⟨by kernel_rfl⟩
instance zeroTy180 : ZeroTy Tryz.prog 180 (.nilFunc) := ⟨by kernel_rfl⟩
instance bytesTy180 : BytesTy Tryz.prog 180 8 := ⟨by kernel_rfl⟩
instance cellTy181 : CellTy Tryz.prog 181 := ⟨by kernel_rfl⟩
instance stoTy181 : StoTy Tryz.prog 181 := ⟨by kernel_rfl⟩
instance zeroTy181 : ZeroTy Tryz.prog 181 (.nilFunc) := ⟨by kernel_rfl⟩
instance bytesTy181 : BytesTy Tryz.prog 181 8 := ⟨by kernel_rfl⟩
instance cellTy182 : CellTy Tryz.prog 182 := ⟨by kernel_rfl⟩
instance stoTy182 : StoTy Tryz.prog 182 := ⟨by kernel_rfl⟩
instance zeroTy182 : ZeroTy Tryz.prog 182 (.nilFunc) := ⟨by kernel_rfl⟩
instance bytesTy182 : BytesTy Tryz.prog 182 8 := ⟨by kernel_rfl⟩
instance cellTy183 : CellTy Tryz.prog 183 := ⟨by kernel_rfl⟩
instance stoTy183 : StoTy Tryz.prog 183 := ⟨by kernel_rfl⟩
instance zeroTy183 : ZeroTy Tryz.prog 183 (.nilFunc) := ⟨by kernel_rfl⟩
instance bytesTy183 : BytesTy Tryz.prog 183 8 := ⟨by kernel_rfl⟩
instance cellTy184 : CellTy Tryz.prog 184 := ⟨by kernel_rfl⟩
instance stoTy184 : StoTy Tryz.prog 184 := ⟨by kernel_rfl⟩
instance zeroTy184 : ZeroTy Tryz.prog 184 (.nilFunc) := ⟨by kernel_rfl⟩
instance bytesTy184 : BytesTy Tryz.prog 184 8 := ⟨by kernel_rfl⟩
instance cellTy185 : CellTy Tryz.prog 185 := ⟨by kernel_rfl⟩
instance stoTy185 : StoTy Tryz.prog 185 := ⟨by kernel_rfl⟩
instance zeroTy185 : ZeroTy Tryz.prog 185 (.pointer none) := ⟨by kernel_rfl⟩
instance bytesTy185 : BytesTy Tryz.prog 185 8 := ⟨by kernel_rfl⟩
instance cellTy186 : CellTy Tryz.prog 186 := ⟨by kernel_rfl⟩
instance stoTy186 : StoTy Tryz.prog 186 := ⟨by kernel_rfl⟩
instance zeroTy186 : ZeroTy Tryz.prog 186 (.tuple #[.int .i64 0, .int .i64 0]) := ⟨by kernel_rfl⟩
instance bytesTy186 : BytesTy Tryz.prog 186 0 := ⟨by kernel_rfl⟩
instance cellTy187 : CellTy Tryz.prog 187 := ⟨by kernel_rfl⟩
instance stoTy187 : StoTy Tryz.prog 187 := ⟨by kernel_rfl⟩
instance zeroTy187 : ZeroTy Tryz.prog 187 (.nilFunc) := ⟨by kernel_rfl⟩
instance bytesTy187 : BytesTy Tryz.prog 187 8 := ⟨by kernel_rfl⟩
instance cellTy188 : CellTy Tryz.prog 188 := ⟨by kernel_rfl⟩
instance stoTy188 : StoTy Tryz.prog 188 := ⟨by kernel_rfl⟩
instance zeroTy188 : ZeroTy Tryz.prog 188 (.nilFunc) := ⟨by kernel_rfl⟩
instance bytesTy188 : BytesTy Tryz.prog 188 8 := ⟨by kernel_rfl⟩
instance cellTy189 : CellTy Tryz.prog 189 := ⟨by kernel_rfl⟩
instance stoTy189 : StoTy Tryz.prog 189 := ⟨by kernel_rfl⟩
instance zeroTy189 : ZeroTy Tryz.prog 189 (.nilFunc) := ⟨by kernel_rfl⟩
instance bytesTy189 : BytesTy Tryz.prog 189 8 := ⟨by kernel_rfl⟩
instance aggTy190 : AggTy Tryz.prog 190 4 := ⟨by kernel_rfl⟩
instance fldTy190_0 : FldTy Tryz.prog 190 0 17 0 := ⟨by kernel_rfl⟩
instance fldTy190_1 : FldTy Tryz.prog 190 1 17 1 := ⟨by kernel_rfl⟩
instance fldTy190_2 : FldTy Tryz.prog 190 2 17 2 := ⟨by kernel_rfl⟩
instance fldTy190_3 : FldTy Tryz.prog 190 3 9 3 := ⟨by kernel_rfl⟩
instance zeroTy190 : ZeroTy Tryz.prog 190 (.agg #[.pointer none, .pointer none, .pointer none, .string ⟨#[]⟩]) := ⟨by kernel_rfl⟩
instance bytesTy190 : BytesTy Tryz.prog 190 40 := ⟨by kernel_rfl⟩
instance aggTy191 : AggTy Tryz.prog 191 4 := ⟨by kernel_rfl⟩
instance fldTy191_0 : FldTy Tryz.prog 191 0 17 0 := ⟨by kernel_rfl⟩
instance fldTy191_1 : FldTy Tryz.prog 191 1 17 1 := ⟨by kernel_rfl⟩
instance fldTy191_2 : FldTy Tryz.prog 191 2 17 2 := ⟨by kernel_rfl⟩
instance fldTy191_3 : FldTy Tryz.prog 191 3 9 3 := ⟨by kernel_rfl⟩
instance zeroTy191 : ZeroTy Tryz.prog 191 (.agg #[.pointer none, .pointer none, .pointer none, .string ⟨#[]⟩]) := ⟨by kernel_rfl⟩
instance bytesTy191 : BytesTy Tryz.prog 191 40 := ⟨by kernel_rfl⟩
instance aggTy192 : AggTy Tryz.prog 192 0 := ⟨by kernel_rfl⟩
instance arrTy192 : ArrTy Tryz.prog 192 0 16 1 := ⟨by kernel_rfl⟩
instance zeroTy192 : ZeroTy Tryz.prog 192 (.agg #[]) := ⟨by kernel_rfl⟩
instance bytesTy192 : BytesTy Tryz.prog 192 0 := ⟨by kernel_rfl⟩
instance aggTy193 : AggTy Tryz.prog 193 0 := ⟨by kernel_rfl⟩
instance zeroTy193 : ZeroTy Tryz.prog 193 (.agg #[]) := ⟨by kernel_rfl⟩
instance bytesTy193 : BytesTy Tryz.prog 193 0 := ⟨by kernel_rfl⟩
instance aggTy194 : AggTy Tryz.prog 194 0 := ⟨by kernel_rfl⟩
instance zeroTy194 : ZeroTy Tryz.prog 194 (.agg #[]) := ⟨by kernel_rfl⟩
instance bytesTy194 : BytesTy Tryz.prog 194 0 := ⟨by kernel_rfl⟩
instance cellTy195 : CellTy Tryz.prog 195 := ⟨by kernel_rfl⟩
instance stoTy195 : StoTy Tryz.prog 195 := ⟨by kernel_rfl⟩
instance zeroTy195 : ZeroTy Tryz.prog 195 (.nilFunc) := ⟨by kernel_rfl⟩
instance bytesTy195 : BytesTy Tryz.prog 195 8 := ⟨by kernel_rfl⟩
instance cellTy196 : CellTy Tryz.prog 196 := ⟨by kernel_rfl⟩
instance stoTy196 : StoTy Tryz.prog 196 := ⟨by kernel_rfl⟩
instance intTy196 : IntTy Tryz.prog 196 .u8 := ⟨by kernel_rfl⟩
instance zeroTy196 : ZeroTy Tryz.prog 196 (.int .u8 0) := ⟨by kernel_rfl⟩
instance bytesTy196 : BytesTy Tryz.prog 196 1 := ⟨by kernel_rfl⟩
instance cellTy197 : CellTy Tryz.prog 197 := ⟨by kernel_rfl⟩
instance stoTy197 : StoTy Tryz.prog 197 := ⟨by kernel_rfl⟩
instance intTy197 : IntTy Tryz.prog 197 .u8 := ⟨by kernel_rfl⟩
instance zeroTy197 : ZeroTy Tryz.prog 197 (.int .u8 0) := ⟨by kernel_rfl⟩
instance bytesTy197 : BytesTy Tryz.prog 197 1 := ⟨by kernel_rfl⟩
instance cellTy198 : CellTy Tryz.prog 198 := ⟨by kernel_rfl⟩
instance stoTy198 : StoTy Tryz.prog 198 := ⟨by kernel_rfl⟩
instance zeroTy198 : ZeroTy Tryz.prog 198 (.nilFunc) := ⟨by kernel_rfl⟩
instance bytesTy198 : BytesTy Tryz.prog 198 8 := ⟨by kernel_rfl⟩
instance cellTy199 : CellTy Tryz.prog 199 := ⟨by kernel_rfl⟩
instance stoTy199 : StoTy Tryz.prog 199 := ⟨by kernel_rfl⟩
instance zeroTy199 : ZeroTy Tryz.prog 199 (.pointer none) := ⟨by kernel_rfl⟩
instance bytesTy199 : BytesTy Tryz.prog 199 8 := ⟨by kernel_rfl⟩
instance cellTy200 : CellTy Tryz.prog 200 := ⟨by kernel_rfl⟩
instance stoTy200 : StoTy Tryz.prog 200 := ⟨by kernel_rfl⟩
instance intTy200 : IntTy Tryz.prog 200 .i32 := ⟨by kernel_rfl⟩
instance zeroTy200 : ZeroTy Tryz.prog 200 (.int .i32 0) := ⟨by kernel_rfl⟩
instance bytesTy200 : BytesTy Tryz.prog 200 4 := ⟨by kernel_rfl⟩
instance cellTy201 : CellTy Tryz.prog 201 := ⟨by kernel_rfl⟩
instance stoTy201 : StoTy Tryz.prog 201 := ⟨by kernel_rfl⟩
instance intTy201 : IntTy Tryz.prog 201 .i32 := ⟨by kernel_rfl⟩
instance zeroTy201 : ZeroTy Tryz.prog 201 (.int .i32 0) := ⟨by kernel_rfl⟩
instance bytesTy201 : BytesTy Tryz.prog 201 4 := ⟨by kernel_rfl⟩
instance aggTy202 : AggTy Tryz.prog 202 11 := ⟨by kernel_rfl⟩
instance fldTy202_0 : FldTy Tryz.prog 202 0 12 0 := ⟨by kernel_rfl⟩
instance fldTy202_1 : FldTy Tryz.prog 202 1 12 1 := ⟨by kernel_rfl⟩
instance fldTy202_2 : FldTy Tryz.prog 202 2 171 2 := ⟨by kernel_rfl⟩
instance fldTy202_3 : FldTy Tryz.prog 202 3 196 3 := ⟨by kernel_rfl⟩
instance fldTy202_4 : FldTy Tryz.prog 202 4 5 4 := ⟨by kernel_rfl⟩
instance fldTy202_5 : FldTy Tryz.prog 202 5 5 5 := ⟨by kernel_rfl⟩
instance fldTy202_6 : FldTy Tryz.prog 202 6 197 6 := ⟨by kernel_rfl⟩
instance fldTy202_7 : FldTy Tryz.prog 202 7 198 7 := ⟨by kernel_rfl⟩
instance fldTy202_8 : FldTy Tryz.prog 202 8 199 8 := ⟨by kernel_rfl⟩
instance fldTy202_9 : FldTy Tryz.prog 202 9 200 9 := ⟨by kernel_rfl⟩
instance fldTy202_10 : FldTy Tryz.prog 202 10 201 10 := ⟨by kernel_rfl⟩
instance zeroTy202 : ZeroTy Tryz.prog 202 (.agg #[.int .u64 0, .int .u64 0, .int .u32 0, .int .u8 0, .int .u8 0, .int .u8 0, .int .u8 0, .nilFunc, .pointer none, .int .i32 0, .int .i32 0]) := ⟨by kernel_rfl⟩
instance bytesTy202 : BytesTy Tryz.prog 202 48 := ⟨by kernel_rfl⟩
instance aggTy203 : AggTy Tryz.prog 203 11 := ⟨by kernel_rfl⟩
instance fldTy203_0 : FldTy Tryz.prog 203 0 12 0 := ⟨by kernel_rfl⟩
instance fldTy203_1 : FldTy Tryz.prog 203 1 12 1 := ⟨by kernel_rfl⟩
instance fldTy203_2 : FldTy Tryz.prog 203 2 171 2 := ⟨by kernel_rfl⟩
instance fldTy203_3 : FldTy Tryz.prog 203 3 196 3 := ⟨by kernel_rfl⟩
instance fldTy203_4 : FldTy Tryz.prog 203 4 5 4 := ⟨by kernel_rfl⟩
instance fldTy203_5 : FldTy Tryz.prog 203 5 5 5 := ⟨by kernel_rfl⟩
instance fldTy203_6 : FldTy Tryz.prog 203 6 197 6 := ⟨by kernel_rfl⟩
instance fldTy203_7 : FldTy Tryz.prog 203 7 198 7 := ⟨by kernel_rfl⟩
instance fldTy203_8 : FldTy Tryz.prog 203 8 199 8 := ⟨by kernel_rfl⟩
instance fldTy203_9 : FldTy Tryz.prog 203 9 200 9 := ⟨by kernel_rfl⟩
instance fldTy203_10 : FldTy Tryz.prog 203 10 201 10 := ⟨by kernel_rfl⟩
instance zeroTy203 : ZeroTy Tryz.prog 203 (.agg #[.int .u64 0, .int .u64 0, .int .u32 0, .int .u8 0, .int .u8 0, .int .u8 0, .int .u8 0, .nilFunc, .pointer none, .int .i32 0, .int .i32 0]) := ⟨by kernel_rfl⟩
instance bytesTy203 : BytesTy Tryz.prog 203 48 := ⟨by kernel_rfl⟩
instance aggTy204 : AggTy Tryz.prog 204 4 := ⟨by kernel_rfl⟩
instance fldTy204_0 : FldTy Tryz.prog 204 0 3 0 := ⟨by kernel_rfl⟩
instance fldTy204_1 : FldTy Tryz.prog 204 1 3 1 := ⟨by kernel_rfl⟩
instance fldTy204_2 : FldTy Tryz.prog 204 2 3 2 := ⟨by kernel_rfl⟩
instance fldTy204_3 : FldTy Tryz.prog 204 3 32 3 := ⟨by kernel_rfl⟩
instance zeroTy204 : ZeroTy Tryz.prog 204 (.agg #[.int .i64 0, .int .i64 0, .int .i64 0, .slice none 0 0]) := ⟨by kernel_rfl⟩
instance bytesTy204 : BytesTy Tryz.prog 204 48 := ⟨by kernel_rfl⟩
instance aggTy205 : AggTy Tryz.prog 205 4 := ⟨by kernel_rfl⟩
instance fldTy205_0 : FldTy Tryz.prog 205 0 3 0 := ⟨by kernel_rfl⟩
instance fldTy205_1 : FldTy Tryz.prog 205 1 3 1 := ⟨by kernel_rfl⟩
instance fldTy205_2 : FldTy Tryz.prog 205 2 3 2 := ⟨by kernel_rfl⟩
instance fldTy205_3 : FldTy Tryz.prog 205 3 32 3 := ⟨by kernel_rfl⟩
instance zeroTy205 : ZeroTy Tryz.prog 205 (.agg #[.int .i64 0, .int .i64 0, .int .i64 0, .slice none 0 0]) := ⟨by kernel_rfl⟩
instance bytesTy205 : BytesTy Tryz.prog 205 48 := ⟨by kernel_rfl⟩
instance cellTy206 : CellTy Tryz.prog 206 := ⟨by kernel_rfl⟩
instance stoTy206 : StoTy Tryz.prog 206 := ⟨by kernel_rfl⟩
instance zeroTy206 : ZeroTy Tryz.prog 206 (.pointer none) := ⟨by kernel_rfl⟩
instance bytesTy206 : BytesTy Tryz.prog 206 8 := ⟨by kernel_rfl⟩
instance enters2 : Enters Tryz.prog 2 := Enters.of Tryz.func2 (by kernel_rfl) (by kernel_rfl)
instance enters3 : Enters Tryz.prog 3 := Enters.of Tryz.func3 (by kernel_rfl) (by kernel_rfl)
instance enters4 : Enters Tryz.prog 4 := Enters.of Tryz.func4 (by kernel_rfl) (by kernel_rfl)
instance enters5 : Enters Tryz.prog 5 := Enters.of Tryz.func5 (by kernel_rfl) (by kernel_rfl)
instance enters6 : Enters Tryz.prog 6 := Enters.of Tryz.func6 (by kernel_rfl) (by kernel_rfl)
instance enters7 : Enters Tryz.prog 7 := Enters.of Tryz.func7 (by kernel_rfl) (by kernel_rfl)
instance enters8 : Enters Tryz.prog 8 := Enters.of Tryz.func8 (by kernel_rfl) (by kernel_rfl)
instance enters9 : Enters Tryz.prog 9 := Enters.of Tryz.func9 (by kernel_rfl) (by kernel_rfl)
instance enters10 : Enters Tryz.prog 10 := Enters.of Tryz.func10 (by kernel_rfl) (by kernel_rfl)
instance enters11 : Enters Tryz.prog 11 := Enters.of Tryz.func11 (by kernel_rfl) (by kernel_rfl)
instance enters12 : Enters Tryz.prog 12 := Enters.of Tryz.func12 (by kernel_rfl) (by kernel_rfl)
instance enters13 : Enters Tryz.prog 13 := Enters.of Tryz.func13 (by kernel_rfl) (by kernel_rfl)
instance enters14 : Enters Tryz.prog 14 := Enters.of Tryz.func14 (by kernel_rfl) (by kernel_rfl)
instance enters15 : Enters Tryz.prog 15 := Enters.of Tryz.func15 (by kernel_rfl) (by kernel_rfl)
instance enters16 : Enters Tryz.prog 16 := Enters.of Tryz.func16 (by kernel_rfl) (by kernel_rfl)
instance enters17 : Enters Tryz.prog 17 := Enters.of Tryz.func17 (by kernel_rfl) (by kernel_rfl)
instance enters18 : Enters Tryz.prog 18 := Enters.of Tryz.func18 (by kernel_rfl) (by kernel_rfl)
instance enters19 : Enters Tryz.prog 19 := Enters.of Tryz.func19 (by kernel_rfl) (by kernel_rfl)
instance enters20 : Enters Tryz.prog 20 := Enters.of Tryz.func20 (by kernel_rfl) (by kernel_rfl)
instance enters21 : Enters Tryz.prog 21 := Enters.of Tryz.func21 (by kernel_rfl) (by kernel_rfl)
instance enters22 : Enters Tryz.prog 22 := Enters.of Tryz.func22 (by kernel_rfl) (by kernel_rfl)
instance enters23 : Enters Tryz.prog 23 := Enters.of Tryz.func23 (by kernel_rfl) (by kernel_rfl)
instance enters24 : Enters Tryz.prog 24 := Enters.of Tryz.func24 (by kernel_rfl) (by kernel_rfl)
instance enters25 : Enters Tryz.prog 25 := Enters.of Tryz.func25 (by kernel_rfl) (by kernel_rfl)
instance enters26 : Enters Tryz.prog 26 := Enters.of Tryz.func26 (by kernel_rfl) (by kernel_rfl)
instance enters27 : Enters Tryz.prog 27 := Enters.of Tryz.func27 (by kernel_rfl) (by kernel_rfl)
instance enters28 : Enters Tryz.prog 28 := Enters.of Tryz.func28 (by kernel_rfl) (by kernel_rfl)
instance enters29 : Enters Tryz.prog 29 := Enters.of Tryz.func29 (by kernel_rfl) (by kernel_rfl)
instance enters30 : Enters Tryz.prog 30 := Enters.of Tryz.func30 (by kernel_rfl) (by kernel_rfl)
instance enters31 : Enters Tryz.prog 31 := Enters.of Tryz.func31 (by kernel_rfl) (by kernel_rfl)
instance enters32 : Enters Tryz.prog 32 := Enters.of Tryz.func32 (by kernel_rfl) (by kernel_rfl)
instance enters33 : Enters Tryz.prog 33 := Enters.of Tryz.func33 (by kernel_rfl) (by kernel_rfl)
instance enters34 : Enters Tryz.prog 34 := Enters.of Tryz.func34 (by kernel_rfl) (by kernel_rfl)
instance enters35 : Enters Tryz.prog 35 := Enters.of Tryz.func35 (by kernel_rfl) (by kernel_rfl)
instance enters36 : Enters Tryz.prog 36 := Enters.of Tryz.func36 (by kernel_rfl) (by kernel_rfl)
instance enters37 : Enters Tryz.prog 37 := Enters.of Tryz.func37 (by kernel_rfl) (by kernel_rfl)
instance enters38 : Enters Tryz.prog 38 := Enters.of Tryz.func38 (by kernel_rfl) (by kernel_rfl)
instance enters39 : Enters Tryz.prog 39 := Enters.of Tryz.func39 (by kernel_rfl) (by kernel_rfl)
instance enters40 : Enters Tryz.prog 40 := Enters.of Tryz.func40 (by kernel_rfl) (by kernel_rfl)
instance enters41 : Enters Tryz.prog 41 := Enters.of Tryz.func41 (by kernel_rfl) (by kernel_rfl)
instance enters42 : Enters Tryz.prog 42 := Enters.of Tryz.func42 (by kernel_rfl) (by kernel_rfl)
instance enters43 : Enters Tryz.prog 43 := Enters.of Tryz.func43 (by kernel_rfl) (by kernel_rfl)
instance enters44 : Enters Tryz.prog 44 := Enters.of Tryz.func44 (by kernel_rfl) (by kernel_rfl)
instance enters45 : Enters Tryz.prog 45 := Enters.of Tryz.func45 (by kernel_rfl) (by kernel_rfl)
instance enters46 : Enters Tryz.prog 46 := Enters.of Tryz.func46 (by kernel_rfl) (by kernel_rfl)
instance enters47 : Enters Tryz.prog 47 := Enters.of Tryz.func47 (by kernel_rfl) (by kernel_rfl)
instance enters48 : Enters Tryz.prog 48 := Enters.of Tryz.func48 (by kernel_rfl) (by kernel_rfl)
instance enters49 : Enters Tryz.prog 49 := Enters.of Tryz.func49 (by kernel_rfl) (by kernel_rfl)
instance enters50 : Enters Tryz.prog 50 := Enters.of Tryz.func50 (by kernel_rfl) (by kernel_rfl)
instance enters51 : Enters Tryz.prog 51 := Enters.of Tryz.func51 (by kernel_rfl) (by kernel_rfl)
instance enters52 : Enters Tryz.prog 52 := Enters.of Tryz.func52 (by kernel_rfl) (by kernel_rfl)
instance enters53 : Enters Tryz.prog 53 := Enters.of Tryz.func53 (by kernel_rfl) (by kernel_rfl)
instance enters54 : Enters Tryz.prog 54 := Enters.of Tryz.func54 (by kernel_rfl) (by kernel_rfl)
instance enters55 : Enters Tryz.prog 55 := Enters.of Tryz.func55 (by kernel_rfl) (by kernel_rfl)
instance enters56 : Enters Tryz.prog 56 := Enters.of Tryz.func56 (by kernel_rfl) (by kernel_rfl)
instance enters57 : Enters Tryz.prog 57 := Enters.of Tryz.func57 (by kernel_rfl) (by kernel_rfl)
instance enters58 : Enters Tryz.prog 58 := Enters.of Tryz.func58 (by kernel_rfl) (by kernel_rfl)
instance enters59 : Enters Tryz.prog 59 := Enters.of Tryz.func59 (by kernel_rfl) (by kernel_rfl)
instance enters60 : Enters Tryz.prog 60 := Enters.of Tryz.func60 (by kernel_rfl) (by kernel_rfl)
instance enters61 : Enters Tryz.prog 61 := Enters.of Tryz.func61 (by kernel_rfl) (by kernel_rfl)
instance enters62 : Enters Tryz.prog 62 := Enters.of Tryz.func62 (by kernel_rfl) (by kernel_rfl)
instance enters63 : Enters Tryz.prog 63 := Enters.of Tryz.func63 (by kernel_rfl) (by kernel_rfl)
instance enters64 : Enters Tryz.prog 64 := Enters.of Tryz.func64 (by kernel_rfl) (by kernel_rfl)
instance enters65 : Enters Tryz.prog 65 := Enters.of Tryz.func65 (by kernel_rfl) (by kernel_rfl)
instance enters66 : Enters Tryz.prog 66 := Enters.of Tryz.func66 (by kernel_rfl) (by kernel_rfl)
instance enters67 : Enters Tryz.prog 67 := Enters.of Tryz.func67 (by kernel_rfl) (by kernel_rfl)
instance enters68 : Enters Tryz.prog 68 := Enters.of Tryz.func68 (by kernel_rfl) (by kernel_rfl)
instance enters69 : Enters Tryz.prog 69 := Enters.of Tryz.func69 (by kernel_rfl) (by kernel_rfl)
instance enters70 : Enters Tryz.prog 70 := Enters.of Tryz.func70 (by kernel_rfl) (by kernel_rfl)
instance enters71 : Enters Tryz.prog 71 := Enters.of Tryz.func71 (by kernel_rfl) (by kernel_rfl)
instance enters72 : Enters Tryz.prog 72 := Enters.of Tryz.func72 (by kernel_rfl) (by kernel_rfl)
instance enters73 : Enters Tryz.prog 73 := Enters.of Tryz.func73 (by kernel_rfl) (by kernel_rfl)
instance enters74 : Enters Tryz.prog 74 := Enters.of Tryz.func74 (by kernel_rfl) (by kernel_rfl)
instance enters75 : Enters Tryz.prog 75 := Enters.of Tryz.func75 (by kernel_rfl) (by kernel_rfl)
instance enters76 : Enters Tryz.prog 76 := Enters.of Tryz.func76 (by kernel_rfl) (by kernel_rfl)
instance enters77 : Enters Tryz.prog 77 := Enters.of Tryz.func77 (by kernel_rfl) (by kernel_rfl)
instance enters78 : Enters Tryz.prog 78 := Enters.of Tryz.func78 (by kernel_rfl) (by kernel_rfl)
instance enters79 : Enters Tryz.prog 79 := Enters.of Tryz.func79 (by kernel_rfl) (by kernel_rfl)
instance enters80 : Enters Tryz.prog 80 := Enters.of Tryz.func80 (by kernel_rfl) (by kernel_rfl)
instance enters81 : Enters Tryz.prog 81 := Enters.of Tryz.func81 (by kernel_rfl) (by kernel_rfl)
instance enters82 : Enters Tryz.prog 82 := Enters.of Tryz.func82 (by kernel_rfl) (by kernel_rfl)
instance enters83 : Enters Tryz.prog 83 := Enters.of Tryz.func83 (by kernel_rfl) (by kernel_rfl)
instance enters84 : Enters Tryz.prog 84 := Enters.of Tryz.func84 (by kernel_rfl) (by kernel_rfl)
instance enters85 : Enters Tryz.prog 85 := Enters.of Tryz.func85 (by kernel_rfl) (by kernel_rfl)
instance enters86 : Enters Tryz.prog 86 := Enters.of Tryz.func86 (by kernel_rfl) (by kernel_rfl)
instance enters87 : Enters Tryz.prog 87 := Enters.of Tryz.func87 (by kernel_rfl) (by kernel_rfl)
instance enters88 : Enters Tryz.prog 88 := Enters.of Tryz.func88 (by kernel_rfl) (by kernel_rfl)
instance enters89 : Enters Tryz.prog 89 := Enters.of Tryz.func89 (by kernel_rfl) (by kernel_rfl)
instance enters90 : Enters Tryz.prog 90 := Enters.of Tryz.func90 (by kernel_rfl) (by kernel_rfl)
instance enters91 : Enters Tryz.prog 91 := Enters.of Tryz.func91 (by kernel_rfl) (by kernel_rfl)
instance enters92 : Enters Tryz.prog 92 := Enters.of Tryz.func92 (by kernel_rfl) (by kernel_rfl)
instance enters93 : Enters Tryz.prog 93 := Enters.of Tryz.func93 (by kernel_rfl) (by kernel_rfl)
instance enters94 : Enters Tryz.prog 94 := Enters.of Tryz.func94 (by kernel_rfl) (by kernel_rfl)
instance enters95 : Enters Tryz.prog 95 := Enters.of Tryz.func95 (by kernel_rfl) (by kernel_rfl)
instance enters96 : Enters Tryz.prog 96 := Enters.of Tryz.func96 (by kernel_rfl) (by kernel_rfl)
instance enters97 : Enters Tryz.prog 97 := Enters.of Tryz.func97 (by kernel_rfl) (by kernel_rfl)
instance enters98 : Enters Tryz.prog 98 := Enters.of Tryz.func98 (by kernel_rfl) (by kernel_rfl)
instance enters99 : Enters Tryz.prog 99 := Enters.of Tryz.func99 (by kernel_rfl) (by kernel_rfl)
instance enters100 : Enters Tryz.prog 100 := Enters.of Tryz.func100 (by kernel_rfl) (by kernel_rfl)
instance enters101 : Enters Tryz.prog 101 := Enters.of Tryz.func101 (by kernel_rfl) (by kernel_rfl)
instance enters102 : Enters Tryz.prog 102 := Enters.of Tryz.func102 (by kernel_rfl) (by kernel_rfl)
instance enters103 : Enters Tryz.prog 103 := Enters.of Tryz.func103 (by kernel_rfl) (by kernel_rfl)
instance enters104 : Enters Tryz.prog 104 := Enters.of Tryz.func104 (by kernel_rfl) (by kernel_rfl)
instance enters105 : Enters Tryz.prog 105 := Enters.of Tryz.func105 (by kernel_rfl) (by kernel_rfl)
instance enters106 : Enters Tryz.prog 106 := Enters.of Tryz.func106 (by kernel_rfl) (by kernel_rfl)
instance enters107 : Enters Tryz.prog 107 := Enters.of Tryz.func107 (by kernel_rfl) (by kernel_rfl)
instance enters108 : Enters Tryz.prog 108 := Enters.of Tryz.func108 (by kernel_rfl) (by kernel_rfl)
instance enters109 : Enters Tryz.prog 109 := Enters.of Tryz.func109 (by kernel_rfl) (by kernel_rfl)
instance enters110 : Enters Tryz.prog 110 := Enters.of Tryz.func110 (by kernel_rfl) (by kernel_rfl)
instance enters111 : Enters Tryz.prog 111 := Enters.of Tryz.func111 (by kernel_rfl) (by kernel_rfl)
instance enters112 : Enters Tryz.prog 112 := Enters.of Tryz.func112 (by kernel_rfl) (by kernel_rfl)
instance enters113 : Enters Tryz.prog 113 := Enters.of Tryz.func113 (by kernel_rfl) (by kernel_rfl)
instance enters114 : Enters Tryz.prog 114 := Enters.of Tryz.func114 (by kernel_rfl) (by kernel_rfl)
instance enters115 : Enters Tryz.prog 115 := Enters.of Tryz.func115 (by kernel_rfl) (by kernel_rfl)
instance enters116 : Enters Tryz.prog 116 := Enters.of Tryz.func116 (by kernel_rfl) (by kernel_rfl)
instance enters117 : Enters Tryz.prog 117 := Enters.of Tryz.func117 (by kernel_rfl) (by kernel_rfl)
instance enters118 : Enters Tryz.prog 118 := Enters.of Tryz.func118 (by kernel_rfl) (by kernel_rfl)
instance enters119 : Enters Tryz.prog 119 := Enters.of Tryz.func119 (by kernel_rfl) (by kernel_rfl)
instance enters120 : Enters Tryz.prog 120 := Enters.of Tryz.func120 (by kernel_rfl) (by kernel_rfl)
instance enters121 : Enters Tryz.prog 121 := Enters.of Tryz.func121 (by kernel_rfl) (by kernel_rfl)
instance enters122 : Enters Tryz.prog 122 := Enters.of Tryz.func122 (by kernel_rfl) (by kernel_rfl)
instance enters123 : Enters Tryz.prog 123 := Enters.of Tryz.func123 (by kernel_rfl) (by kernel_rfl)
instance enters124 : Enters Tryz.prog 124 := Enters.of Tryz.func124 (by kernel_rfl) (by kernel_rfl)
instance enters125 : Enters Tryz.prog 125 := Enters.of Tryz.func125 (by kernel_rfl) (by kernel_rfl)
instance enters126 : Enters Tryz.prog 126 := Enters.of Tryz.func126 (by kernel_rfl) (by kernel_rfl)
instance enters127 : Enters Tryz.prog 127 := Enters.of Tryz.func127 (by kernel_rfl) (by kernel_rfl)
instance enters128 : Enters Tryz.prog 128 := Enters.of Tryz.func128 (by kernel_rfl) (by kernel_rfl)
instance enters129 : Enters Tryz.prog 129 := Enters.of Tryz.func129 (by kernel_rfl) (by kernel_rfl)
instance enters130 : Enters Tryz.prog 130 := Enters.of Tryz.func130 (by kernel_rfl) (by kernel_rfl)
instance enters131 : Enters Tryz.prog 131 := Enters.of Tryz.func131 (by kernel_rfl) (by kernel_rfl)
instance enters132 : Enters Tryz.prog 132 := Enters.of Tryz.func132 (by kernel_rfl) (by kernel_rfl)
instance enters133 : Enters Tryz.prog 133 := Enters.of Tryz.func133 (by kernel_rfl) (by kernel_rfl)
instance enters134 : Enters Tryz.prog 134 := Enters.of Tryz.func134 (by kernel_rfl) (by kernel_rfl)
instance enters135 : Enters Tryz.prog 135 := Enters.of Tryz.func135 (by kernel_rfl) (by kernel_rfl)
instance enters136 : Enters Tryz.prog 136 := Enters.of Tryz.func136 (by kernel_rfl) (by kernel_rfl)
instance enters137 : Enters Tryz.prog 137 := Enters.of Tryz.func137 (by kernel_rfl) (by kernel_rfl)
instance enters138 : Enters Tryz.prog 138 := Enters.of Tryz.func138 (by kernel_rfl) (by kernel_rfl)
instance enters139 : Enters Tryz.prog 139 := Enters.of Tryz.func139 (by kernel_rfl) (by kernel_rfl)
instance enters140 : Enters Tryz.prog 140 := Enters.of Tryz.func140 (by kernel_rfl) (by kernel_rfl)
instance enters141 : Enters Tryz.prog 141 := Enters.of Tryz.func141 (by kernel_rfl) (by kernel_rfl)
instance enters142 : Enters Tryz.prog 142 := Enters.of Tryz.func142 (by kernel_rfl) (by kernel_rfl)
end Go.Proofs.YtmjcaclakggafaaGreat

/- Contracts: ratios. -/
namespace Go.Proofs.YtmjcaclakggafaaGreat
open Go Go.RowKit

/-! ### more rules -/
section
variable {P : Program} {X : XK}
theorem i64_wrap_id {n : Int} (hn : -9223372036854775808 ≤ n ∧ n ≤ 9223372036854775807) : IntKind.i64.wrap n = n := by
  have := arI (K := fun v => v = .int .i64 n) hn rfl
  rw [ArP_eq] at this
  injection this
theorem convI {s t : TypeId} {k0 : IntKind} {n : Int} {K : Value → Prop} [h0 : IntTy P s k0] [h : IntTy P t .i64] (hn : -9223372036854775808 ≤ n ∧ n ≤ 9223372036854775807) (kk : K (.int .i64 n)) : ConvP P s t (.int k0 n) K := by
  refine conv (k := .i64) ?_
  rw [i64_wrap_id hn]; exact kk
/-- The no first. -/
theorem cDr {p : Prop} [Decidable p] {K : Value → Prop} (h2 : ¬ p → K (.bool false)) (h1 : p → K (.bool true)) : CmpP p K := .of ⟨h1, h2⟩
/-- A number that is not below 0, as an unsigned one. -/
theorem convU {s t : TypeId} {k0 : IntKind} {n : Nat} {i : Int} {K : Value → Prop} [h0 : IntTy P s k0] [h : IntTy P t .u64] (hi : i = n) (hn : n < 9223372036854775808) (kk : K (.int .u64 (n : Int))) : ConvP P s t (.int k0 i) K := by
  subst hi
  refine conv (k := .u64) ?_
  rw [u64_wrap, Int.emod_eq_of_lt (by omega) (by omega)]; exact kk
theorem remT {kd : IntKind} {a b : Int} {K : Value → Prop} (hb : b ≠ 0) (k : K (.int kd (a.tmod b))) : RemP kd a b K := by rw [RemP_eq]; exact ⟨hb, k⟩
theorem quoT {a b : Int} {K : Value → Prop} (c : Int) (hb : b ≠ 0) (hc : a.tdiv b = c) (h : -9223372036854775808 ≤ c ∧ c ≤ 9223372036854775807) (k : K (.int .i64 c)) : QuoP .i64 a b K := by
  rw [QuoP_eq]; exact ⟨hb, by rw [hc, i64_wrap_id h]; exact k⟩
/-- A block of one cell is set. -/
theorem st1 {t e : TypeId} [h : StoTy P t] {g : Nat} {u v : Value} {w : World} {K : VK} (hb : Blk w g e [u]) (hv : v.oneCell' = true) (kk : ∀ w', Blk w' g e [v] → Kept (fun b => b ≠ g) w w' → K undef w') : StoreP P t (.pointer (some (ad g 0))) v K w :=
  st hb (Nat.le_of_ble_eq_true rfl) hv fun w' h1 h2 _ => kk w' h1 h2
theorem yield_of {l : Nat} {args : Array Value} {w : World} {R K : VK} (h : YieldP P l args R w) (k : ∀ v w', R v w' → K v w') : YieldP P l args K w := by
  rw [YieldP_eq] at h ⊢; exact h.mono k
end
abbrev ptr (b : Nat) : Value := .pointer (some (ad b 0))
abbrev iv (n : Int) : Value := .int .i64 n

/-! ### ratios -/
structure Q where
  n : Int
  d : Int
deriving DecidableEq
abbrev Q.v (a : Q) : Value := .agg #[iv a.n, iv a.d]
def qValid (a : Q) : Bool := decide (1 ≤ a.d) && (decide (a.d ≤ 1073741824) && (decide (-1073741824 ≤ a.n) && (decide (a.n ≤ 1073741824) && (Nat.gcd a.n.natAbs a.d.toNat == 1))))
theorem qValid_iff {a : Q} : qValid a = true ↔ 1 ≤ a.d ∧ a.d ≤ 1073741824 ∧ -1073741824 ≤ a.n ∧ a.n ≤ 1073741824 ∧ Nat.gcd a.n.natAbs a.d.toNat = 1 := by
  unfold qValid; simp only [Bool.and_eq_true, decide_eq_true_eq, beq_iff_eq]
def qErr (a : Q) : Int := if qValid a then 0 else 120
def cmpI (x y : Int) : Int := if x < y then -1 else if x > y then 1 else 0
def qCmp (a b : Q) : Int × Int := if qValid a && qValid b then (cmpI (a.n * b.d) (b.n * a.d), 0) else (0, 120)
theorem prod_lt {x y : Int} (hx : -1073741824 ≤ x ∧ x ≤ 1073741824) (hy : -1073741824 ≤ y ∧ y ≤ 1073741824) : -1152921504606846976 ≤ x * y ∧ x * y ≤ 1152921504606846976 := by
  have h1 := Int.natAbs_mul x y
  have h2 : x.natAbs * y.natAbs ≤ 1073741824 * 1073741824 := Nat.mul_le_mul (by omega) (by omega)
  omega

section
variable {w : World}
theorem c_isNaN {x : Int} : CallZ Tryz.prog 110 #[iv x] w (fun v w' => v = .bool false ∧ w' = w) := by
  refine fn_rule (args := [iv x]) Tryz.func110 (by kernel_rfl) ?_
  refine cN (fun h => absurd rfl h) (fun _ => ?_)
  exact ret1 (.bool false) rfl ⟨rfl, rfl⟩
theorem c_Compare {x y : Int} : CallZ Tryz.prog 91 #[iv x, iv y] w (fun v w' => v = iv (cmpI x y) ∧ w' = w) := by
  refine fn_rule (args := [iv x, iv y]) Tryz.func91 (by kernel_rfl) ?_
  refine call_of c_isNaN ?_
  rintro _ _ ⟨rfl, rfl⟩
  refine call_of c_isNaN ?_
  rintro _ _ ⟨rfl, rfl⟩
  refine cD (fun h => ?_) (fun h => ?_)
  · exact ret1 (iv (-1)) rfl ⟨by unfold cmpI; rw [if_pos h], rfl⟩
  refine cD (fun h2 => ?_) (fun h2 => ?_)
  · exact ret1 (iv 1) rfl ⟨by unfold cmpI; rw [if_neg h, if_pos h2], rfl⟩
  · exact ret1 (iv 0) rfl ⟨by unfold cmpI; rw [if_neg h, if_neg h2], rfl⟩
theorem c_magnitude {n : Int} (hn : -1073741824 ≤ n ∧ n ≤ 1073741824) : CallZ Tryz.prog 126 #[iv n] w (fun v w' => v = .int .u64 (n.natAbs : Int) ∧ w' = w) := by
  refine fn_rule (args := [iv n]) Tryz.func126 (by kernel_rfl) ?_
  refine cD (fun h => ?_) (fun h => ?_)
  · refine conv (k := .u64) ?_
    obtain ⟨y, hy⟩ : ∃ y, y = IntKind.u64.wrap n := ⟨_, rfl⟩
    rw [← hy]
    refine arW ?_
    obtain ⟨x, hx⟩ : ∃ x, x = IntKind.u64.wrap (0 - y) := ⟨_, rfl⟩
    rw [← hx]
    rw [u64_wrap] at hx hy
    exact ret1 (.int .u64 x) rfl ⟨by rw [show x = (n.natAbs : Int) from by omega], rfl⟩
  · refine convU (n := n.natAbs) (by omega) (by omega) ?_
    exact ret1 (.int .u64 (n.natAbs : Int)) rfl ⟨rfl, rfl⟩
theorem gcd_step (a b : Nat) : Nat.gcd b (a % b) = Nat.gcd a b := by rw [Nat.gcd_comm b, ← Nat.gcd_rec, Nat.gcd_comm]
theorem c_remainders1 {b1 b2 l a b : Nat} {D : Nat → Prop} (J : Nat → World → Prop) (hb12 : b1 ≠ b2) (hJ : ∀ d w w', J d w → Kept (fun x => x ≠ b1 ∧ x ≠ b2) w w' → J d w')
    (hstep : ∀ (d x : Nat) w, J d w → YieldP Tryz.prog l [.int .u64 (x : Int)].toArray (fun v w' => v = .bool true ∧ J x w' ∧ Kept D w w') w) (hD1 : D b1) (hD2 : D b2)
    (h1 : Blk w b1 154 [.int .u64 (a : Int)]) (h2 : Blk w b2 154 [.int .u64 (b : Int)]) (hb : 0 < b) (h0 : J b w) :
    CallZ Tryz.prog 140 #[.func (.yield l) #[] #[], ptr b1, ptr b2] w (fun _ w' => J (Nat.gcd a b) w') := by
  refine fn_rule (args := [.func (.yield l) #[] #[], ptr b1, ptr b2]) Tryz.func140 (by kernel_rfl) ?_
  refine loop3 (fun (_ _ _ : Nat) => []) (fun x y d w' => 0 < y ∧ Nat.gcd x y = Nat.gcd a b ∧ Blk w' b1 154 [.int .u64 (x : Int)] ∧ Blk w' b2 154 [.int .u64 (y : Int)] ∧ J d w' ∧ (x = 0 → d = y)) (fun _ y _ _ => y) a b b trivial ⟨hb, rfl, h1, h2, h0, fun _ => rfl⟩ rfl ?_
  rintro G x y d w1 ⟨hy, hg, e1, e2, hj, hd⟩
  refine ld _ (e1.cell rfl) ?_
  refine cN (fun hx => ?_) (fun hx => ?_)
  · refine ld _ (e1.cell rfl) ?_
    refine yield_of (hstep d x w1 hj) ?_
    rintro _ w2 ⟨rfl, hj2, k2⟩
    have f1 := e1.kept k2 hD1
    have f2 := e2.kept k2 hD2
    refine drawP (.take 0 (.take 2 (.take 3 (.eff 1 (.take 4 (.eff 5 (.bar (.eff 6 .done)))))))) [6] (fun u => Kept (fun x => x ≠ b1) w2 u) mx (by kernel_rfl) (.refl _ _) ?_
    refine ldK _ (f2.cell rfl) (Ne.symm hb12) (.refl _ _) ?_
    refine ldK _ (f2.cell rfl) (Ne.symm hb12) (.refl _ _) ?_
    refine ld _ (f1.cell rfl) ?_
    refine strS (.refl _ _) ?_
    refine remI (by omega) (by omega) ?_
    obtain ⟨r, hr⟩ : ∃ r : Nat, (x : Int) % max (y : Int) 1 = (r : Int) := ⟨x % y, by rw [Int.max_eq_left (by omega)]; rfl⟩
    have hr' : r = x % y := by
      rw [Int.max_eq_left (by omega)] at hr
      have : ((x % y : Nat) : Int) = (r : Int) := by rw [← hr]; rfl
      omega
    rw [hr]
    have hrl : r < y := by rw [hr']; exact Nat.mod_lt _ hy
    have hgr : Nat.gcd y r = Nat.gcd a b := by rw [hr', gcd_step, hg]
    refine st1 f1 rfl (fun w3 s1 k3 => ?_)
    refine strS k3 ?_
    refine barS (fun _ => True) trivial ?_
    refine st1 (f2.kept k3 (Ne.symm hb12)) rfl (fun w4 s2 k4 => ?_)
    refine strS trivial ?_
    have t1 := s1.kept k4 hb12
    have hj4 := hJ x w2 w4 hj2 ((k3.weak fun _ _ h => h.1).trans (k4.weak fun _ _ h => h.2))
    refine ld _ (s2.cell rfl) ?_
    refine cE (fun h0 => ?_) (fun h0 => ?_)
    · refine ld _ (t1.cell rfl) ?_
      refine yield_of (hstep x y w4 hj4) ?_
      rintro _ w5 ⟨rfl, hj5, -⟩
      refine ret0 ?_
      rw [← hgr, show r = 0 from by omega, Nat.gcd_zero_right]; exact hj5
    · exact next3 y r x trivial ⟨by omega, hgr, t1, s2, hj4, fun h => by omega⟩ hrl
  · have hx0 : x = 0 := by omega
    subst hx0
    refine ret0 ?_
    rw [← hg, Nat.gcd_zero_left]
    rw [hd rfl] at hj; exact hj
theorem c_remainders {a b : Nat} : CallZ Tryz.prog 136 #[.int .u64 (a : Int), .int .u64 (b : Int)] w (fun v w' => ∃ b1 b2, v = .func (.func 140) #[] #[ptr b1, ptr b2] ∧ Ext w w' ∧ Blk w' b1 154 [.int .u64 (a : Int)] ∧ Blk w' b2 154 [.int .u64 (b : Int)] ∧ w.heap.size ≤ b1 ∧ b1 < b2) := by
  refine fn_rule (args := [.int .u64 (a : Int), .int .u64 (b : Int)]) Tryz.func136 (by kernel_rfl) ?_
  refine box (fun b1 w1 h1 => ?_)
  refine box (fun b2 w2 h2 => ?_)
  have e1 := h1.at_
  have e2 := h2.at_
  have s1 := h1.size
  exact ret1 (.func (.func 140) #[] #[ptr b1, ptr b2]) rfl ⟨b1, b2, rfl, h1.ext.trans h2.ext, h1.blk.ext h2.ext, h2.blk, by omega, by omega⟩
theorem c_divisor {a b : Nat} : CallZ Tryz.prog 125 #[.int .u64 (a : Int), .int .u64 (b : Int)] w (fun v w' => v = .int .u64 (Nat.gcd a b : Int) ∧ Ext w w') := by
  refine fn_rule (args := [.int .u64 (a : Int), .int .u64 (b : Int)]) Tryz.func125 (by kernel_rfl) ?_
  refine alloc (fun r w1 h1 => ?_)
  refine cE (fun h0 => ?_) (fun h0 => ?_)
  · refine st1 h1.blk rfl (fun w2 hb2 k2 => ?_)
    refine ret ?_
    refine resL _ (holds_cell (hb2.cell rfl)) ?_
    have e1 := h1.at_
    have : b = 0 := by omega
    subst this
    rw [Nat.gcd_zero_right]
    exact ⟨rfl, h1.ext.then k2 fun b hb _ e => by omega⟩
  · refine st1 h1.blk rfl (fun w2 hb2 k2 => ?_)
    have e1 := h1.at_
    have x2 : Ext w w2 := h1.ext.then k2 fun b hb _ e => by omega
    refine call_of c_remainders ?_
    rintro _ w3 ⟨b1, b2, rfl, x3, g1, g2, hb1, hb12⟩
    have z2 := hb2.lt
    refine range (gf := 140) (lb := #[ptr b1, ptr b2]) rfl (fun fn tmps w4 R hR hF hwf x4 z4 hD4 hl4 => ?_)
    show CallZ _ _ #[.func (.yield (w3.heap.size + 1)) #[] #[], ptr b1, ptr b2] w4 _
    have l1 := g1.lt
    have l2 := g2.lt
    refine (c_remainders1 (D := fun x => x ≠ r ∧ x ≠ w3.heap.size + 1) (fun d w' => Kept (fun x => x ≠ r ∧ x ≠ b1 ∧ x ≠ b2 ∧ x ≠ w3.heap.size + 1) w4 w' ∧ LoopAt w' (w3.heap.size + 1) R ∧ Blk w' r 154 [.int .u64 (d : Int)]) (by omega)
      (fun d w5 w6 ⟨k5, l5, q5⟩ k6 => ⟨k5.then k6 fun _ _ h => ⟨h.2.1, h.2.2.1⟩, l5.kept k6 ⟨by omega, by omega⟩, q5.kept k6 ⟨by omega, by omega⟩⟩) ?_ ⟨by omega, by omega⟩ ⟨by omega, by omega⟩ (g1.ext x4) (g2.ext x4) (by omega) ⟨.refl _ _, hl4, (hb2.ext x3).ext x4⟩).mono ?_
    · rintro d x w5 ⟨k5, l5, q5⟩
      subst hR
      refine yield_rule (args := [.int .u64 (x : Int)]) l5 rfl rfl hF hwf ?_
      refine mid' l5 (fun w6 k6 _ l6 => ?_)
      refine st1 (q5.kept k6 (by omega)) rfl (fun w7 q7 k7 => ?_)
      refine roundN' _ (l6.kept k7 (by omega)) (fun w8 k8 l8 => ?_)
      have kk : Kept (fun x => x ≠ r ∧ x ≠ w3.heap.size + 1) w5 w8 := ((k6.weak fun _ _ h => h.2).trans (k7.weak fun _ _ h => h.1)).trans (k8.weak fun _ _ h => h.2)
      exact ⟨rfl, ⟨k5.then kk fun _ _ h => ⟨h.1, h.2.2.2⟩, l8, q7.kept k8 (by omega)⟩, kk⟩
    · rintro v w5 ⟨k5, l5, q5⟩
      subst hR
      refine range_end _ l5 (by simp) (fun w6 k6 => ?_)
      have q6 := q5.kept k6 (by omega)
      refine ld _ (q6.cell rfl) ?_
      refine st1 q6 rfl (fun w7 q7 k7 => ?_)
      have k47 : Kept (fun x => x ≠ r ∧ x ≠ b1 ∧ x ≠ b2 ∧ x ≠ w3.heap.size + 1) w4 w7 := (k5.then k6 fun _ _ h => h.2.2.2).then k7 fun _ _ h => h.1
      have hD7 : w7.heap[w3.heap.size]? = some (.deferred (some [])) := (k47.blk _ (by omega) ⟨by omega, by omega, by omega, by omega⟩).trans hD4
      refine retM hD7 ?_
      have k8 := Kept.putObj w7 w3.heap.size (.deferred none)
      refine resL _ (holds_cell ((q7.kept k8 (by have := x3.size; omega)).cell rfl)) ?_
      exact ⟨rfl, x2.then (((Ext.any (D := fun b => b < w.heap.size) (x3.trans x4)).then k47 (fun b _ h => ⟨by omega, by omega, by omega, by have := x2.size; have := x3.size; omega⟩)).then k8 (fun b _ h => by have := x2.size; have := x3.size; omega)) (fun b hb _ => hb)⟩
theorem c_qCheck {a : Q} : CallZ Tryz.prog 108 #[a.v] w (fun v w' => v = iv (qErr a) ∧ Ext w w') := by
  refine fn_rule (args := [.agg #[iv a.n, iv a.d]]) Tryz.func108 (by kernel_rfl) ?_
  refine box (fun b w1 h1 => ?_)
  have bad : qValid a = false → iv 120 = iv (qErr a) := fun h => by unfold qErr; rw [h]; rfl
  have h := h1.blk
  refine drawX [0, 1, 2, 3, 4, 5, 6, 7, 8, 9, 10, 11, 12, 13, 14, 15, 16, 17, 18, 19, 20, 21, 22, 23, 24, 25, 26, 27] [25] mx (by kernel_rfl) ?_
  refine fldA ?_
  refine ldX _ (h.cell rfl) (.refl _ _) ?_
  refine cD (fun g1 => ?_) (fun g1 => ?_)
  · refine strS (.refl _ _) ?_
    exact ret1 (iv 120) rfl ⟨bad (Bool.eq_false_iff.2 fun e => by have := qValid_iff.1 e; omega), h1.ext⟩
  refine fldA ?_
  refine ldX _ (h.cell rfl) (.refl _ _) ?_
  refine cD (fun g2 => ?_) (fun g2 => ?_)
  · refine strS (.refl _ _) ?_
    exact ret1 (iv 120) rfl ⟨bad (Bool.eq_false_iff.2 fun e => by have := qValid_iff.1 e; omega), h1.ext⟩
  refine fldA ?_
  refine ldX _ (h.cell rfl) (.refl _ _) ?_
  refine cD (fun g3 => ?_) (fun g3 => ?_)
  · refine strS (.refl _ _) ?_
    exact ret1 (iv 120) rfl ⟨bad (Bool.eq_false_iff.2 fun e => by have := qValid_iff.1 e; omega), h1.ext⟩
  refine fldA ?_
  refine ldX _ (h.cell rfl) (.refl _ _) ?_
  refine cD (fun g4 => ?_) (fun g4 => ?_)
  · refine strS (.refl _ _) ?_
    exact ret1 (iv 120) rfl ⟨bad (Bool.eq_false_iff.2 fun e => by have := qValid_iff.1 e; omega), h1.ext⟩
  refine fldA ?_
  refine ldX _ (h.cell rfl) (.refl _ _) ?_
  refine callQ (v := .int .u64 (a.n.natAbs : Int)) (fun u _ => c_magnitude (by omega)) ?_
  refine fldA ?_
  refine ldX _ (h.cell rfl) (.refl _ _) ?_
  refine convU (n := a.d.toNat) (by omega) (by omega) ?_
  refine call_of c_divisor ?_
  rintro _ w2 ⟨rfl, x2⟩
  refine strS x2 ?_
  refine cN (fun g5 => ?_) (fun g5 => ?_)
  · exact ret1 (iv 120) rfl ⟨bad (Bool.eq_false_iff.2 fun e => by have := qValid_iff.1 e; omega), h1.ext.trans x2⟩
  · refine ret1 (iv 0) rfl ⟨?_, h1.ext.trans x2⟩
    unfold qErr
    rw [qValid_iff.2 ⟨by omega, by omega, by omega, by omega, by omega⟩]; rfl
theorem qErr_ok {a : Q} : qErr a = 0 ↔ qValid a = true := by unfold qErr; cases qValid a <;> simp
theorem c_qCmp {a b : Q} : CallZ Tryz.prog 107 #[a.v, b.v] w (fun v w' => v = .tuple #[iv (qCmp a b).1, iv (qCmp a b).2] ∧ Ext w w') := by
  refine fn_rule (args := [.agg #[iv a.n, iv a.d], .agg #[iv b.n, iv b.d]]) Tryz.func107 (by kernel_rfl) ?_
  refine box (fun ga w1 h1 => ?_)
  refine box (fun gb w2 h2 => ?_)
  have x2 := h1.ext.trans h2.ext
  have ba := h1.blk.ext h2.ext
  refine ldA [_, _] (.blk ba) rfl ?_
  refine call_of (c_qCheck (a := a)) ?_
  rintro _ w3 ⟨rfl, x3⟩
  refine cN (fun g1 => ?_) (fun g1 => ?_)
  · refine ret2 (iv 0) (iv 120) rfl rfl ⟨?_, x2.trans x3⟩
    have : qValid a = false := Bool.eq_false_iff.2 fun e => g1 (qErr_ok.2 e)
    unfold qCmp; rw [this]; rfl
  refine ldA [_, _] (.blk (h2.blk.ext x3)) rfl ?_
  refine call_of (c_qCheck (a := b)) ?_
  rintro _ w4 ⟨rfl, x4⟩
  have ha := qErr_ok.1 g1
  have x24 := x3.trans x4
  refine cN (fun g2 => ?_) (fun g2 => ?_)
  · refine ret2 (iv 0) (iv 120) rfl rfl ⟨?_, x2.trans x24⟩
    have : qValid b = false := Bool.eq_false_iff.2 fun e => g2 (qErr_ok.2 e)
    unfold qCmp; rw [ha, this]; rfl
  have hb := qErr_ok.1 g2
  have va := qValid_iff.1 ha
  have vb := qValid_iff.1 hb
  have p1 := prod_lt (x := a.n) (y := b.d) (by omega) (by omega)
  have p2 := prod_lt (x := b.n) (y := a.d) (by omega) (by omega)
  have ba4 := ba.ext x24
  have bb4 := h2.blk.ext x24
  refine fldA ?_
  refine ld _ (ba4.cell rfl) ?_
  refine fldA ?_
  refine ld _ (bb4.cell rfl) ?_
  refine arI (by omega) ?_
  refine fldA ?_
  refine ld _ (bb4.cell rfl) ?_
  refine fldA ?_
  refine ld _ (ba4.cell rfl) ?_
  refine arI (by omega) ?_
  refine call_of c_Compare ?_
  rintro _ _ ⟨rfl, rfl⟩
  refine ret2 (iv (cmpI (a.n * b.d) (b.n * a.d))) (iv 0) rfl rfl ⟨?_, x2.trans x24⟩
  unfold qCmp; rw [ha, hb]; rfl
theorem floor_eq {n d : Int} (hd : 0 < d) : (n - (n.tmod d + d).tmod d).tdiv d = n / d := by
  have h1 : n.tmod d + d = n.tmod d + d := rfl
  have hr := Int.tmod_lt_of_pos n hd
  have hr2 := Int.lt_tmod_of_pos n hd
  have h3 : (n.tmod d + d).tmod d = n % d := by
    rw [Int.tmod_eq_emod_of_nonneg (by omega), Int.add_emod_right]
    have := Int.tmod_eq_emod (a := n) (b := d)
    rw [this]
    split
    · simp
    · rw [Int.natAbs_of_nonneg (by omega), Int.sub_emod, Int.emod_self, Int.sub_zero, Int.emod_emod_of_dvd _ (Int.dvd_refl d), Int.emod_emod_of_dvd _ (Int.dvd_refl d)]
  rw [h3]
  have h4 : n - n % d = d * (n / d) := by have := Int.emod_add_mul_ediv n d; omega
  rw [h4, Int.mul_tdiv_cancel_left _ (by omega)]
theorem c_down {n d : Int} (hd : 0 < d ∧ d ≤ 1073741824) (hn : -1152921504606846976 ≤ n ∧ n ≤ 1152921504606846976) : CallZ Tryz.prog 109 #[iv n, iv d] w (fun v w' => v = iv (n / d) ∧ w' = w) := by
  refine fn_rule (args := [iv n, iv d]) Tryz.func109 (by kernel_rfl) ?_
  have hr := Int.tmod_lt_of_pos n hd.1
  have hr2 := Int.lt_tmod_of_pos n hd.1
  refine remT (by omega) ?_
  refine arI (by omega) ?_
  have hs := Int.tmod_lt_of_pos (n.tmod d + d) hd.1
  have hs2 := Int.lt_tmod_of_pos (n.tmod d + d) hd.1
  refine remT (by omega) ?_
  refine arI (by omega) ?_
  have hf := floor_eq (n := n) hd.1
  have hb1 : -1152921504606846976 ≤ n / d := by
    have := Int.le_ediv_of_mul_le (a := -1152921504606846976) (b := n) hd.1 (by have : -1152921504606846976 * d ≤ -1152921504606846976 := by omega
                                                                                omega)
    exact this
  have hb2 : n / d ≤ 1152921504606846976 := by
    have h : n / d < 1152921504606846977 := Int.ediv_lt_of_lt_mul hd.1 (by have : 1152921504606846977 ≤ 1152921504606846977 * d := by omega
                                                                           omega)
    omega
  refine quoT (n / d) (by omega) hf (by omega) ?_
  exact ret1 (iv (n / d)) rfl ⟨rfl, rfl⟩
/-- The integers around a product. -/
def qTimes (a : Q) (n : Int) : Int × Int × Int := if qValid a then (if n < -1073741824 ∨ 1073741824 < n then (0, 0, 1) else (a.n * n / a.d, -(-a.n * n / a.d), 0)) else (0, 0, 120)
theorem c_Times {a : Q} {n : Int} : CallZ Tryz.prog 89 #[a.v, iv n] w (fun v w' => v = .tuple #[iv (qTimes a n).1, iv (qTimes a n).2.1, iv (qTimes a n).2.2] ∧ Ext w w') := by
  refine fn_rule (args := [.agg #[iv a.n, iv a.d], iv n]) Tryz.func89 (by kernel_rfl) ?_
  refine box (fun ga w1 h1 => ?_)
  refine ldA [_, _] (.blk h1.blk) rfl ?_
  refine call_of (c_qCheck (a := a)) ?_
  rintro _ w2 ⟨rfl, x2⟩
  have x02 := h1.ext.trans x2
  refine cN (fun g1 => ?_) (fun g1 => ?_)
  · have hv : qValid a = false := Bool.eq_false_iff.2 fun e => g1 (qErr_ok.2 e)
    refine ret3 (iv 0) (iv 0) (iv (qErr a)) rfl rfl rfl ⟨?_, x02⟩
    unfold qTimes qErr; rw [hv]; rfl
  have hv := qErr_ok.1 g1
  have va := qValid_iff.1 hv
  have b2 := h1.blk.ext x2
  refine cD (fun g2 => ?_) (fun g2 => ?_)
  · refine ret3 (iv 0) (iv 0) (iv 1) rfl rfl rfl ⟨?_, x02⟩
    unfold qTimes; rw [hv, if_pos rfl, if_pos (.inl g2)]
  refine cD (fun g3 => ?_) (fun g3 => ?_)
  · refine ret3 (iv 0) (iv 0) (iv 1) rfl rfl rfl ⟨?_, x02⟩
    unfold qTimes; rw [hv, if_pos rfl, if_pos (.inr g3)]
  have p1 := prod_lt (x := a.n) (y := n) (by omega) (by omega)
  have p2 := prod_lt (x := -a.n) (y := n) (by omega) (by omega)
  refine drawQ mx (by kernel_rfl) ?_
  refine fldA ?_
  refine ld _ (b2.cell rfl) ?_
  refine arI (by omega) ?_
  refine fldA ?_
  refine ld _ (b2.cell rfl) ?_
  refine callQ (v := iv (a.n * n / a.d)) (fun u _ => c_down (by omega) (by omega)) ?_
  refine fldA ?_
  refine ld _ (b2.cell rfl) ?_
  refine arI (by omega) ?_
  rw [show (0 : Int) - a.n = -a.n from by omega]
  refine arI (by omega) ?_
  refine fldA ?_
  refine ld _ (b2.cell rfl) ?_
  refine callQ (v := iv (-a.n * n / a.d)) (fun u _ => c_down (by omega) (by omega)) ?_
  have hb1 : -1152921504606846976 ≤ -a.n * n / a.d := by
    have := Int.le_ediv_of_mul_le (a := -1152921504606846976) (b := -a.n * n) (c := a.d) (by omega) (by have : -1152921504606846976 * a.d ≤ -1152921504606846976 := by omega
                                                                                                        omega)
    exact this
  have hb2 : -a.n * n / a.d ≤ 1152921504606846976 := by
    have h : -a.n * n / a.d < 1152921504606846977 := Int.ediv_lt_of_lt_mul (by omega) (by have : 1152921504606846977 ≤ 1152921504606846977 * a.d := by omega
                                                                                          omega)
    omega
  refine arI (by omega) ?_
  refine ret3 (iv (a.n * n / a.d)) (iv (0 - -a.n * n / a.d)) (iv 0) rfl rfl rfl ⟨?_, x02⟩
  unfold qTimes
  rw [hv, if_pos rfl, if_neg (by omega), Int.zero_sub]
end
end Go.Proofs.YtmjcaclakggafaaGreat
