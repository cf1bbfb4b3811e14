/- Parts of the proof: Facts Vi Vj Vk Vl Vm Vn. -/
import Derived.Test.YtclmnhijjhnggaaM2
import Derived.Test.YtclmnhijjhnggaaProg
import Derived.Laws.BitsAllLaws
import Derived.Laws.BitsLemmas
import Derived.Laws.Tables
import Derived.MapKept
import Derived.RangeFuncRecord
import Derived.OpenShut
import Derived.SizedLaws

/- Made by facts.py off the translation: what the rules ask of the program's types and functions. -/
namespace Go.Proofs.Ytclmnhijjhnggaa
open Go
theorem mx : Try.prog.follows .mixedOrders = true := by kernel_rfl
instance cellTy0 : CellTy Try.prog 0 := ⟨by kernel_rfl⟩
instance stoTy0 : StoTy Try.prog 0 := ⟨by kernel_rfl⟩
instance zeroTy0 : ZeroTy Try.prog 0 (.tuple #[]) := ⟨by kernel_rfl⟩
instance bytesTy0 : BytesTy Try.prog 0 0 := ⟨by kernel_rfl⟩
instance cellTy1 : CellTy Try.prog 1 := ⟨by kernel_rfl⟩
instance stoTy1 : StoTy Try.prog 1 := ⟨by kernel_rfl⟩
instance zeroTy1 : ZeroTy Try.prog 1 (.nilFunc) := ⟨by kernel_rfl⟩
instance bytesTy1 : BytesTy Try.prog 1 8 := ⟨by kernel_rfl⟩
instance cellTy2 : CellTy Try.prog 2 := ⟨by kernel_rfl⟩
instance stoTy2 : StoTy Try.prog 2 := ⟨by kernel_rfl⟩
instance intTy2 : IntTy Try.prog 2 .i64 := ⟨by kernel_rfl⟩
instance zeroTy2 : ZeroTy Try.prog 2 (.int .i64 0) := ⟨by kernel_rfl⟩
instance bytesTy2 : BytesTy Try.prog 2 8 := ⟨by kernel_rfl⟩
instance cellTy3 : CellTy Try.prog 3 := ⟨by kernel_rfl⟩
instance stoTy3 : StoTy Try.prog 3 := ⟨by kernel_rfl⟩
instance intTy3 : IntTy Try.prog 3 .i64 := ⟨by kernel_rfl⟩
instance zeroTy3 : ZeroTy Try.prog 3 (.int .i64 0) := ⟨by kernel_rfl⟩
instance bytesTy3 : BytesTy Try.prog 3 8 := ⟨by kernel_rfl⟩
instance cellTy4 : CellTy Try.prog 4 := ⟨by kernel_rfl⟩
instance stoTy4 : StoTy Try.prog 4 := ⟨by kernel_rfl⟩
instance boolTy4 : BoolTy Try.prog 4 := ⟨by kernel_rfl⟩
instance zeroTy4 : ZeroTy Try.prog 4 (.bool false) := ⟨by kernel_rfl⟩
instance bytesTy4 : BytesTy Try.prog 4 1 := ⟨by kernel_rfl⟩
instance cellTy5 : CellTy Try.prog 5 := ⟨by kernel_rfl⟩
instance stoTy5 : StoTy Try.prog 5 := ⟨by kernel_rfl⟩
instance intTy5 : IntTy Try.prog 5 .u8 := ⟨by kernel_rfl⟩
instance zeroTy5 : ZeroTy Try.prog 5 (.int .u8 0) := ⟨by kernel_rfl⟩
instance bytesTy5 : BytesTy Try.prog 5 1 := ⟨by kernel_rfl⟩
instance cellTy6 : CellTy Try.prog 6 := ⟨by kernel_rfl⟩
instance stoTy6 : StoTy Try.prog 6 := ⟨by kernel_rfl⟩
instance intTy6 : IntTy Try.prog 6 .u8 := ⟨by kernel_rfl⟩
instance zeroTy6 : ZeroTy Try.prog 6 (.int .u8 0) := ⟨by kernel_rfl⟩
instance bytesTy6 : BytesTy Try.prog 6 1 := ⟨by kernel_rfl⟩
instance aggTy7 : AggTy Try.prog 7 4 := ⟨by kernel_rfl⟩
instance fldTy7_0 : FldTy Try.prog 7 0 2 0 := ⟨by kernel_rfl⟩
instance fldTy7_1 : FldTy Try.prog 7 1 3 1 := ⟨by kernel_rfl⟩
instance fldTy7_2 : FldTy Try.prog 7 2 4 2 := ⟨by kernel_rfl⟩
instance fldTy7_3 : FldTy Try.prog 7 3 6 3 := ⟨by kernel_rfl⟩
instance zeroTy7 : ZeroTy Try.prog 7 (.agg #[.int .i64 0, .int .i64 0, .bool false, .int .u8 0]) := ⟨by kernel_rfl⟩
instance bytesTy7 : BytesTy Try.prog 7 24 := ⟨by kernel_rfl⟩
instance aggTy8 : AggTy Try.prog 8 4 := ⟨by kernel_rfl⟩
instance fldTy8_0 : FldTy Try.prog 8 0 2 0 := ⟨by kernel_rfl⟩
instance fldTy8_1 : FldTy Try.prog 8 1 3 1 := ⟨by kernel_rfl⟩
instance fldTy8_2 : FldTy Try.prog 8 2 4 2 := ⟨by kernel_rfl⟩
instance fldTy8_3 : FldTy Try.prog 8 3 6 3 := ⟨by kernel_rfl⟩
instance zeroTy8 : ZeroTy Try.prog 8 (.agg #[.int .i64 0, .int .i64 0, .bool false, .int .u8 0]) := ⟨by kernel_rfl⟩
instance bytesTy8 : BytesTy Try.prog 8 24 := ⟨by kernel_rfl⟩
instance cellTy9 : CellTy Try.prog 9 := ⟨by kernel_rfl⟩
instance stoTy9 : StoTy Try.prog 9 := ⟨by kernel_rfl⟩
instance strTy9 : StrTy Try.prog 9 := ⟨by kernel_rfl⟩
instance zeroTy9 : ZeroTy Try.prog 9 (.string ⟨#[]⟩) := ⟨by kernel_rfl⟩
instance bytesTy9 : BytesTy Try.prog 9 16 := ⟨by kernel_rfl⟩
instance cellTy10 : CellTy Try.prog 10 := ⟨by kernel_rfl⟩
instance stoTy10 : StoTy Try.prog 10 := ⟨by kernel_rfl⟩
instance strTy10 : StrTy Try.prog 10 := ⟨by kernel_rfl⟩
instance zeroTy10 : ZeroTy Try.prog 10 (.string ⟨#[]⟩) := ⟨by kernel_rfl⟩
instance bytesTy10 : BytesTy Try.prog 10 16 := ⟨by kernel_rfl⟩
instance cellTy11 : CellTy Try.prog 11 := ⟨by kernel_rfl⟩
instance stoTy11 : StoTy Try.prog 11 := ⟨by kernel_rfl⟩
instance strTy11 : StrTy Try.prog 11 := ⟨by kernel_rfl⟩
instance zeroTy11 : ZeroTy Try.prog 11 (.string ⟨#[]⟩) := ⟨by kernel_rfl⟩
instance bytesTy11 : BytesTy Try.prog 11 16 := ⟨by kernel_rfl⟩
instance cellTy12 : CellTy Try.prog 12 := ⟨by kernel_rfl⟩
instance stoTy12 : StoTy Try.prog 12 := ⟨by kernel_rfl⟩
instance intTy12 : IntTy Try.prog 12 .u64 := ⟨by kernel_rfl⟩
instance zeroTy12 : ZeroTy Try.prog 12 (.int .u64 0) := ⟨by kernel_rfl⟩
instance bytesTy12 : BytesTy Try.prog 12 8 := ⟨by kernel_rfl⟩
instance aggTy13 : AggTy Try.prog 13 2 := ⟨by kernel_rfl⟩
instance fldTy13_0 : FldTy Try.prog 13 0 9 0 := ⟨by kernel_rfl⟩
instance fldTy13_1 : FldTy Try.prog 13 1 12 1 := ⟨by kernel_rfl⟩
instance zeroTy13 : ZeroTy Try.prog 13 (.agg #[.string ⟨#[]⟩, .int .u64 0]) := ⟨by kernel_rfl⟩
instance bytesTy13 : BytesTy Try.prog 13 24 := ⟨by kernel_rfl⟩
instance aggTy14 : AggTy Try.prog 14 2 := ⟨by kernel_rfl⟩
instance fldTy14_0 : FldTy Try.prog 14 0 9 0 := ⟨by kernel_rfl⟩
instance fldTy14_1 : FldTy Try.prog 14 1 12 1 := ⟨by kernel_rfl⟩
instance zeroTy14 : ZeroTy Try.prog 14 (.agg #[.string ⟨#[]⟩, .int .u64 0]) := ⟨by kernel_rfl⟩
instance bytesTy14 : BytesTy Try.prog 14 24 := ⟨by kernel_rfl⟩
instance cellTy15 : CellTy Try.prog 15 := ⟨by kernel_rfl⟩
instance stoTy15 : StoTy Try.prog 15 := ⟨by kernel_rfl⟩
instance zeroTy15 : ZeroTy Try.prog 15 (.pointer none) := ⟨by kernel_rfl⟩
instance bytesTy15 : BytesTy Try.prog 15 8 := ⟨by kernel_rfl⟩
instance cellTy16 : CellTy Try.prog 16 := ⟨by kernel_rfl⟩
instance stoTy16 : StoTy Try.prog 16 := ⟨by kernel_rfl⟩
instance zeroTy16 : ZeroTy Try.prog 16 (.pointer none) := ⟨by kernel_rfl⟩
instance bytesTy16 : BytesTy Try.prog 16 8 := ⟨by kernel_rfl⟩
instance cellTy17 : CellTy Try.prog 17 := ⟨by kernel_rfl⟩
instance stoTy17 : StoTy Try.prog 17 := ⟨by kernel_rfl⟩
instance zeroTy17 : ZeroTy Try.prog 17 (.pointer none) := ⟨by kernel_rfl⟩
instance bytesTy17 : BytesTy Try.prog 17 8 := ⟨by kernel_rfl⟩
instance aggTy18 : AggTy Try.prog 18 1 := ⟨by kernel_rfl⟩
instance fldTy18_0 : FldTy Try.prog 18 0 17 0 := ⟨by kernel_rfl⟩
instance zeroTy18 : ZeroTy Try.prog 18 (.agg #[.pointer none]) := ⟨by kernel_rfl⟩
instance bytesTy18 : BytesTy Try.prog 18 8 := ⟨by kernel_rfl⟩
instance aggTy19 : AggTy Try.prog 19 1 := ⟨by kernel_rfl⟩
instance fldTy19_0 : FldTy Try.prog 19 0 17 0 := ⟨by kernel_rfl⟩
instance zeroTy19 : ZeroTy Try.prog 19 (.agg #[.pointer none]) := ⟨by kernel_rfl⟩
instance bytesTy19 : BytesTy Try.prog 19 8 := ⟨by kernel_rfl⟩
instance cellTy20 : CellTy Try.prog 20 := ⟨by kernel_rfl⟩
instance stoTy20 : StoTy Try.prog 20 := ⟨by kernel_rfl⟩
instance zeroTy20 : ZeroTy Try.prog 20 (.nilIface) := ⟨by kernel_rfl⟩
instance bytesTy20 : BytesTy Try.prog 20 16 := ⟨by kernel_rfl⟩
instance cellTy21 : CellTy Try.prog 21 := ⟨by kernel_rfl⟩
instance stoTy21 : StoTy Try.prog 21 := ⟨by kernel_rfl⟩
instance intTy21 : IntTy Try.prog 21 .i32 := ⟨by kernel_rfl⟩
instance zeroTy21 : ZeroTy Try.prog 21 (.int .i32 0) := ⟨by kernel_rfl⟩
instance bytesTy21 : BytesTy Try.prog 21 4 := ⟨by kernel_rfl⟩
instance cellTy22 : CellTy Try.prog 22 := ⟨by kernel_rfl⟩
instance stoTy22 : StoTy Try.prog 22 := ⟨by kernel_rfl⟩
instance sliceTy22 : SliceTy Try.prog 22 3 1 := ⟨by kernel_rfl⟩
instance zeroTy22 : ZeroTy Try.prog 22 (.slice none 0 0) := ⟨by kernel_rfl⟩
instance bytesTy22 : BytesTy Try.prog 22 24 := ⟨by kernel_rfl⟩
instance cellTy23 : CellTy Try.prog 23 := ⟨by kernel_rfl⟩
instance stoTy23 : StoTy Try.prog 23 := ⟨by kernel_rfl⟩
instance zeroTy23 : ZeroTy Try.prog 23 (.nilFunc) := ⟨by kernel_rfl⟩
instance bytesTy23 : BytesTy Try.prog 23 8 := ⟨by kernel_rfl⟩
instance cellTy24 : CellTy Try.prog 24 := ⟨by kernel_rfl⟩
instance stoTy24 : StoTy Try.prog 24 := ⟨by kernel_rfl⟩
instance zeroTy24 : ZeroTy Try.prog 24 (.nilFunc) := ⟨by kernel_rfl⟩
instance bytesTy24 : BytesTy Try.prog 24 8 := ⟨by kernel_rfl⟩
instance cellTy25 : CellTy Try.prog 25 := ⟨by kernel_rfl⟩
instance stoTy25 : StoTy Try.prog 25 := ⟨by kernel_rfl⟩
instance intTy25 : IntTy Try.prog 25 .i64 := ⟨by kernel_rfl⟩
instance zeroTy25 : ZeroTy Try.prog 25 (.int .i64 0) := ⟨by kernel_rfl⟩
instance bytesTy25 : BytesTy Try.prog 25 8 := ⟨by kernel_rfl⟩
instance cellTy26 : CellTy Try.prog 26 := ⟨by kernel_rfl⟩
instance stoTy26 : StoTy Try.prog 26 := ⟨by kernel_rfl⟩
instance zeroTy26 : ZeroTy Try.prog 26 (.tuple #[.slice none 0 0, .int .i64 0]) := ⟨by kernel_rfl⟩
instance bytesTy26 : BytesTy Try.prog 26 0 := ⟨by kernel_rfl⟩
instance cellTy27 : CellTy Try.prog 27 := ⟨by kernel_rfl⟩
instance stoTy27 : StoTy Try.prog 27 := ⟨by kernel_rfl⟩
instance zeroTy27 : ZeroTy Try.prog 27 (.nilFunc) := ⟨by kernel_rfl⟩
instance bytesTy27 : BytesTy Try.prog 27 8 := ⟨by kernel_rfl⟩
instance aggTy28 : AggTy Try.prog 28 4 := ⟨by kernel_rfl⟩
instance fldTy28_0 : FldTy Try.prog 28 0 4 0 := ⟨by kernel_rfl⟩
instance fldTy28_1 : FldTy Try.prog 28 1 3 1 := ⟨by kernel_rfl⟩
instance fldTy28_2 : FldTy Try.prog 28 2 3 2 := ⟨by kernel_rfl⟩
instance fldTy28_3 : FldTy Try.prog 28 3 3 3 := ⟨by kernel_rfl⟩
instance zeroTy28 : ZeroTy Try.prog 28 (.agg #[.bool false, .int .i64 0, .int .i64 0, .int .i64 0]) := ⟨by kernel_rfl⟩
instance bytesTy28 : BytesTy Try.prog 28 32 := ⟨by kernel_rfl⟩
instance aggTy29 : AggTy Try.prog 29 4 := ⟨by kernel_rfl⟩
instance fldTy29_0 : FldTy Try.prog 29 0 4 0 := ⟨by kernel_rfl⟩
instance fldTy29_1 : FldTy Try.prog 29 1 3 1 := ⟨by kernel_rfl⟩
instance fldTy29_2 : FldTy Try.prog 29 2 3 2 := ⟨by kernel_rfl⟩
instance fldTy29_3 : FldTy Try.prog 29 3 3 3 := ⟨by kernel_rfl⟩
instance zeroTy29 : ZeroTy Try.prog 29 (.agg #[.bool false, .int .i64 0, .int .i64 0, .int .i64 0]) := ⟨by kernel_rfl⟩
instance bytesTy29 : BytesTy Try.prog 29 32 := ⟨by kernel_rfl⟩
instance cellTy30 : CellTy Try.prog 30 := ⟨by kernel_rfl⟩
instance stoTy30 : StoTy Try.prog 30 := ⟨by kernel_rfl⟩
instance zeroTy30 : ZeroTy Try.prog 30 (.tuple #[.agg #[.bool false, .int .i64 0, .int .i64 0, .int .i64 0], .int .i64 0]) := ⟨by kernel_rfl⟩
instance bytesTy30 : BytesTy Try.prog 30 0 := ⟨by kernel_rfl⟩
instance cellTy31 : CellTy Try.prog 31 := ⟨by kernel_rfl⟩
instance stoTy31 : StoTy Try.prog 31 := ⟨by kernel_rfl⟩
instance zeroTy31 : ZeroTy Try.prog 31 (.nilFunc) := ⟨by kernel_rfl⟩
instance bytesTy31 : BytesTy Try.prog 31 8 := ⟨by kernel_rfl⟩
instance cellTy32 : CellTy Try.prog 32 := ⟨by kernel_rfl⟩
instance stoTy32 : StoTy Try.prog 32 := ⟨by kernel_rfl⟩
instance zeroTy32 : ZeroTy Try.prog 32 (.nilFunc) := ⟨by kernel_rfl⟩
instance bytesTy32 : BytesTy Try.prog 32 8 := ⟨by kernel_rfl⟩
instance cellTy33 : CellTy Try.prog 33 := ⟨by kernel_rfl⟩
instance stoTy33 : StoTy Try.prog 33 := ⟨by kernel_rfl⟩
instance zeroTy33 : ZeroTy Try.prog 33 (.nilFunc) := ⟨by kernel_rfl⟩
instance bytesTy33 : BytesTy Try.prog 33 8 := ⟨by kernel_rfl⟩
instance cellTy34 : CellTy Try.prog 34 := ⟨by kernel_rfl⟩
instance stoTy34 : StoTy Try.prog 34 := ⟨by kernel_rfl⟩
instance zeroTy34 : ZeroTy Try.prog 34 (.tuple #[.int .i64 0, .int .i64 0]) := ⟨by kernel_rfl⟩
instance bytesTy34 : BytesTy Try.prog 34 0 := ⟨by kernel_rfl⟩
instance cellTy35 : CellTy Try.prog 35 := ⟨by kernel_rfl⟩
instance stoTy35 : StoTy Try.prog 35 := ⟨by kernel_rfl⟩
instance zeroTy35 : ZeroTy Try.prog 35 (.nilFunc) := ⟨by kernel_rfl⟩
instance bytesTy35 : BytesTy Try.prog 35 8 := ⟨by kernel_rfl⟩
instance aggTy36 : AggTy Try.prog 36 2 := ⟨by kernel_rfl⟩
instance fldTy36_0 : FldTy Try.prog 36 0 3 0 := ⟨by kernel_rfl⟩
instance fldTy36_1 : FldTy Try.prog 36 1 3 1 := ⟨by kernel_rfl⟩
instance zeroTy36 : ZeroTy Try.prog 36 (.agg #[.int .i64 0, .int .i64 0]) := ⟨by kernel_rfl⟩
instance bytesTy36 : BytesTy Try.prog 36 16 := ⟨by kernel_rfl⟩
instance aggTy37 : AggTy Try.prog 37 2 := ⟨by kernel_rfl⟩
instance fldTy37_0 : FldTy Try.prog 37 0 3 0 := ⟨by kernel_rfl⟩
instance fldTy37_1 : FldTy Try.prog 37 1 3 1 := ⟨by kernel_rfl⟩
instance zeroTy37 : ZeroTy Try.prog 37 (.agg #[.int .i64 0, .int .i64 0]) := ⟨by kernel_rfl⟩
instance bytesTy37 : BytesTy Try.prog 37 16 := ⟨by kernel_rfl⟩
instance cellTy38 : CellTy Try.prog 38 := ⟨by kernel_rfl⟩
instance stoTy38 : StoTy Try.prog 38 := ⟨by kernel_rfl⟩
instance zeroTy38 : ZeroTy Try.prog 38 (.tuple #[.agg #[.int .i64 0, .int .i64 0], .int .i64 0]) := ⟨by kernel_rfl⟩
instance bytesTy38 : BytesTy Try.prog 38 0 := ⟨by kernel_rfl⟩
instance cellTy39 : CellTy Try.prog 39 := ⟨by kernel_rfl⟩
instance stoTy39 : StoTy Try.prog 39 := ⟨by kernel_rfl⟩
instance zeroTy39 : ZeroTy Try.prog 39 (.nilFunc) := ⟨by kernel_rfl⟩
instance bytesTy39 : BytesTy Try.prog 39 8 := ⟨by kernel_rfl⟩
instance cellTy40 : CellTy Try.prog 40 := ⟨by kernel_rfl⟩
instance stoTy40 : StoTy Try.prog 40 := ⟨by kernel_rfl⟩
instance zeroTy40 : ZeroTy Try.prog 40 (.nilFunc) := ⟨by kernel_rfl⟩
instance bytesTy40 : BytesTy Try.prog 40 8 := ⟨by kernel_rfl⟩
instance cellTy41 : CellTy Try.prog 41 := ⟨by kernel_rfl⟩
instance stoTy41 : StoTy Try.prog 41 := ⟨by kernel_rfl⟩
instance intTy41 : IntTy Try.prog 41 .u16 := ⟨by kernel_rfl⟩
instance zeroTy41 : ZeroTy Try.prog 41 (.int .u16 0) := ⟨by kernel_rfl⟩
instance bytesTy41 : BytesTy Try.prog 41 2 := ⟨by kernel_rfl⟩
instance cellTy42 : CellTy Try.prog 42 := ⟨by kernel_rfl⟩
instance stoTy42 : StoTy Try.prog 42 := ⟨by kernel_rfl⟩
instance intTy42 : IntTy Try.prog 42 .i16 := ⟨by kernel_rfl⟩
instance zeroTy42 : ZeroTy Try.prog 42 (.int .i16 0) := ⟨by kernel_rfl⟩
instance bytesTy42 : BytesTy Try.prog 42 2 := ⟨by kernel_rfl⟩
instance cellTy43 : CellTy Try.prog 43 := ⟨by kernel_rfl⟩
instance stoTy43 : StoTy Try.prog 43 := ⟨by kernel_rfl⟩
instance zeroTy43 : ZeroTy Try.prog 43 (.tuple #[.int .i64 0, .bool false]) := ⟨by kernel_rfl⟩
instance bytesTy43 : BytesTy Try.prog 43 0 := ⟨by kernel_rfl⟩
instance cellTy44 : CellTy Try.prog 44 := ⟨by kernel_rfl⟩
instance stoTy44 : StoTy Try.prog 44 := ⟨by kernel_rfl⟩
instance zeroTy44 : ZeroTy Try.prog 44 (.nilFunc) := ⟨by kernel_rfl⟩
instance bytesTy44 : BytesTy Try.prog 44 8 := ⟨by kernel_rfl⟩
instance cellTy45 : CellTy Try.prog 45 := ⟨by kernel_rfl⟩
instance stoTy45 : StoTy Try.prog 45 := ⟨by kernel_rfl⟩
instance zeroTy45 : ZeroTy Try.prog 45 (.nilFunc) := ⟨by kernel_rfl⟩
instance bytesTy45 : BytesTy Try.prog 45 8 := ⟨by kernel_rfl⟩
instance cellTy46 : CellTy Try.prog 46 := ⟨by kernel_rfl⟩
instance stoTy46 : StoTy Try.prog 46 := ⟨by kernel_rfl⟩
instance intTy46 : IntTy Try.prog 46 .u64 := ⟨by kernel_rfl⟩
instance zeroTy46 : ZeroTy Try.prog 46 (.int .u64 0) := ⟨by kernel_rfl⟩
instance bytesTy46 : BytesTy Try.prog 46 8 := ⟨by kernel_rfl⟩
instance cellTy47 : CellTy Try.prog 47 := ⟨by kernel_rfl⟩
instance stoTy47 : StoTy Try.prog 47 := ⟨by kernel_rfl⟩
instance zeroTy47 : ZeroTy Try.prog 47 (.nilFunc) := ⟨by kernel_rfl⟩
instance bytesTy47 : BytesTy Try.prog 47 8 := ⟨by kernel_rfl⟩
instance cellTy48 : CellTy Try.prog 48 := ⟨by kernel_rfl⟩
instance stoTy48 : StoTy Try.prog 48 := ⟨by kernel_rfl⟩
instance intTy48 : IntTy Try.prog 48 .u32 := ⟨by kernel_rfl⟩
instance zeroTy48 : ZeroTy Try.prog 48 (.int .u32 0) := ⟨by kernel_rfl⟩
instance bytesTy48 : BytesTy Try.prog 48 4 := ⟨by kernel_rfl⟩
instance cellTy49 : CellTy Try.prog 49 := ⟨by kernel_rfl⟩
instance stoTy49 : StoTy Try.prog 49 := ⟨by kernel_rfl⟩
instance intTy49 : IntTy Try.prog 49 .u64 := ⟨by kernel_rfl⟩
instance zeroTy49 : ZeroTy Try.prog 49 (.int .u64 0) := ⟨by kernel_rfl⟩
instance bytesTy49 : BytesTy Try.prog 49 8 := ⟨by kernel_rfl⟩
instance cellTy50 : CellTy Try.prog 50 := ⟨by kernel_rfl⟩
instance stoTy50 : StoTy Try.prog 50 := ⟨by kernel_rfl⟩
instance zeroTy50 : ZeroTy Try.prog 50 (.nilFunc) := ⟨by kernel_rfl⟩
instance bytesTy50 : BytesTy Try.prog 50 8 := ⟨by kernel_rfl⟩
instance cellTy51 : CellTy Try.prog 51 := ⟨by kernel_rfl⟩
instance stoTy51 : StoTy Try.prog 51 := ⟨by kernel_rfl⟩
instance zeroTy51 : ZeroTy Try.prog 51 (.nilFunc) := ⟨by kernel_rfl⟩
instance bytesTy51 : BytesTy Try.prog 51 8 := ⟨by kernel_rfl⟩
instance cellTy52 : CellTy Try.prog 52 := ⟨by kernel_rfl⟩
instance stoTy52 : StoTy Try.prog 52 := ⟨by kernel_rfl⟩
instance zeroTy52 : ZeroTy Try.prog 52 (.nilFunc) := ⟨by kernel_rfl⟩
instance bytesTy52 : BytesTy Try.prog 52 8 := ⟨by kernel_rfl⟩
instance aggTy53 : AggTy Try.prog 53 2 := ⟨by kernel_rfl⟩
instance fldTy53_0 : FldTy Try.prog 53 0 3 0 := ⟨by kernel_rfl⟩
instance fldTy53_1 : FldTy Try.prog 53 1 3 1 := ⟨by kernel_rfl⟩
instance zeroTy53 : ZeroTy Try.prog 53 (.agg #[.int .i64 0, .int .i64 0]) := ⟨by kernel_rfl⟩
instance bytesTy53 : BytesTy Try.prog 53 16 := ⟨by kernel_rfl⟩
instance aggTy54 : AggTy Try.prog 54 2 := ⟨by kernel_rfl⟩
instance fldTy54_0 : FldTy Try.prog 54 0 3 0 := ⟨by kernel_rfl⟩
instance fldTy54_1 : FldTy Try.prog 54 1 3 1 := ⟨by kernel_rfl⟩
instance zeroTy54 : ZeroTy Try.prog 54 (.agg #[.int .i64 0, .int .i64 0]) := ⟨by kernel_rfl⟩
instance bytesTy54 : BytesTy Try.prog 54 16 := ⟨by kernel_rfl⟩
instance cellTy55 : CellTy Try.prog 55 := ⟨by kernel_rfl⟩
instance stoTy55 : StoTy Try.prog 55 := ⟨by kernel_rfl⟩
instance zeroTy55 : ZeroTy Try.prog 55 (.nilFunc) := ⟨by kernel_rfl⟩
instance bytesTy55 : BytesTy Try.prog 55 8 := ⟨by kernel_rfl⟩
instance cellTy56 : CellTy Try.prog 56 := ⟨by kernel_rfl⟩
instance stoTy56 : StoTy Try.prog 56 := ⟨by kernel_rfl⟩
instance sliceTy56 : SliceTy Try.prog 56 54 2 := ⟨by kernel_rfl⟩
instance zeroTy56 : ZeroTy Try.prog 56 (.slice none 0 0) := ⟨by kernel_rfl⟩
instance bytesTy56 : BytesTy Try.prog 56 24 := ⟨by kernel_rfl⟩
instance cellTy57 : CellTy Try.prog 57 := ⟨by kernel_rfl⟩
instance stoTy57 : StoTy Try.prog 57 := ⟨by kernel_rfl⟩
instance zeroTy57 : ZeroTy Try.prog 57 (.tuple #[.slice none 0 0, .int .i64 0]) := ⟨by kernel_rfl⟩
instance bytesTy57 : BytesTy Try.prog 57 0 := ⟨by kernel_rfl⟩
instance cellTy58 : CellTy Try.prog 58 := ⟨by kernel_rfl⟩
instance stoTy58 : StoTy Try.prog 58 := ⟨by kernel_rfl⟩
instance zeroTy58 : ZeroTy Try.prog 58 (.nilFunc) := ⟨by kernel_rfl⟩
instance bytesTy58 : BytesTy Try.prog 58 8 := ⟨by kernel_rfl⟩
instance cellTy59 : CellTy Try.prog 59 := ⟨by kernel_rfl⟩
instance stoTy59 : StoTy Try.prog 59 := ⟨by kernel_rfl⟩
instance zeroTy59 : ZeroTy Try.prog 59 (.nilFunc) := ⟨by kernel_rfl⟩
instance bytesTy59 : BytesTy Try.prog 59 8 := ⟨by kernel_rfl⟩
instance cellTy60 : CellTy Try.prog 60 := ⟨by kernel_rfl⟩
instance stoTy60 : StoTy Try.prog 60 := ⟨by kernel_rfl⟩
instance zeroTy60 : ZeroTy Try.prog 60 (.nilFunc) := ⟨by kernel_rfl⟩
instance bytesTy60 : BytesTy Try.prog 60 8 := ⟨by kernel_rfl⟩
instance cellTy61 : CellTy Try.prog 61 := ⟨by kernel_rfl⟩
instance stoTy61 : StoTy Try.prog 61 := ⟨by kernel_rfl⟩
instance zeroTy61 : ZeroTy Try.prog 61 (.nilFunc) := ⟨by kernel_rfl⟩
instance bytesTy61 : BytesTy Try.prog 61 8 := ⟨by kernel_rfl⟩
instance cellTy62 : CellTy Try.prog 62 := ⟨by kernel_rfl⟩
instance stoTy62 : StoTy Try.prog 62 := ⟨by kernel_rfl⟩
instance zeroTy62 : ZeroTy Try.prog 62 (.nilFunc) := ⟨by kernel_rfl⟩
instance bytesTy62 : BytesTy Try.prog 62 8 := ⟨by kernel_rfl⟩
instance cellTy63 : CellTy Try.prog 63 := ⟨by kernel_rfl⟩
instance stoTy63 : StoTy Try.prog 63 := ⟨by kernel_rfl⟩
instance zeroTy63 : ZeroTy Try.prog 63 (.nilFunc) := ⟨by kernel_rfl⟩
instance bytesTy63 : BytesTy Try.prog 63 8 := ⟨by kernel_rfl⟩
instance cellTy64 : CellTy Try.prog 64 := ⟨by kernel_rfl⟩
instance stoTy64 : StoTy Try.prog 64 := ⟨by kernel_rfl⟩
instance zeroTy64 : ZeroTy Try.prog 64 (.nilFunc) := ⟨by kernel_rfl⟩
instance bytesTy64 : BytesTy Try.prog 64 8 := ⟨by kernel_rfl⟩
instance cellTy65 : CellTy Try.prog 65 := ⟨by kernel_rfl⟩
instance stoTy65 : StoTy Try.prog 65 := ⟨by kernel_rfl⟩
instance zeroTy65 : ZeroTy Try.prog 65 (.nilFunc) := ⟨by kernel_rfl⟩
instance bytesTy65 : BytesTy Try.prog 65 8 := ⟨by kernel_rfl⟩
instance cellTy66 : CellTy Try.prog 66 := ⟨by kernel_rfl⟩
instance stoTy66 : StoTy Try.prog 66 := ⟨by kernel_rfl⟩
instance zeroTy66 : ZeroTy Try.prog 66 (.nilFunc) := ⟨by kernel_rfl⟩
instance bytesTy66 : BytesTy Try.prog 66 8 := ⟨by kernel_rfl⟩
instance cellTy67 : CellTy Try.prog 67 := ⟨by kernel_rfl⟩
instance stoTy67 : StoTy Try.prog 67 := ⟨by kernel_rfl⟩
instance zeroTy67 : ZeroTy Try.prog 67 (.nilFunc) := ⟨by kernel_rfl⟩
instance bytesTy67 : BytesTy Try.prog 67 8 := ⟨by kernel_rfl⟩
instance cellTy68 : CellTy Try.prog 68 := ⟨by kernel_rfl⟩
instance stoTy68 : StoTy Try.prog 68 := ⟨by kernel_rfl⟩
instance zeroTy68 : ZeroTy Try.prog 68 (.nilFunc) := ⟨by kernel_rfl⟩
instance bytesTy68 : BytesTy Try.prog 68 8 := ⟨by kernel_rfl⟩
instance cellTy69 : CellTy Try.prog 69 := ⟨by kernel_rfl⟩
instance stoTy69 : StoTy Try.prog 69 := ⟨by kernel_rfl⟩
instance zeroTy69 : ZeroTy Try.prog 69 (.nilFunc) := ⟨by kernel_rfl⟩
instance bytesTy69 : BytesTy Try.prog 69 8 := ⟨by kernel_rfl⟩
instance cellTy70 : CellTy Try.prog 70 := ⟨by kernel_rfl⟩
instance stoTy70 : StoTy Try.prog 70 := ⟨by kernel_rfl⟩
instance zeroTy70 : ZeroTy Try.prog 70 (.nilFunc) := ⟨by kernel_rfl⟩
instance bytesTy70 : BytesTy Try.prog 70 8 := ⟨by kernel_rfl⟩
instance cellTy71 : CellTy Try.prog 71 := ⟨by kernel_rfl⟩
instance stoTy71 : StoTy Try.prog 71 := ⟨by kernel_rfl⟩
instance zeroTy71 : ZeroTy Try.prog 71 (.nilFunc) := ⟨by kernel_rfl⟩
instance bytesTy71 : BytesTy Try.prog 71 8 := ⟨by kernel_rfl⟩
instance cellTy72 : CellTy Try.prog 72 := ⟨by kernel_rfl⟩
instance stoTy72 : StoTy Try.prog 72 := ⟨by kernel_rfl⟩
instance zeroTy72 : ZeroTy Try.prog 72 (.nilFunc) := ⟨by kernel_rfl⟩
instance bytesTy72 : BytesTy Try.prog 72 8 := ⟨by kernel_rfl⟩
instance cellTy73 : CellTy Try.prog 73 := ⟨by kernel_rfl⟩
instance stoTy73 : StoTy Try.prog 73 := ⟨by kernel_rfl⟩
instance zeroTy73 : ZeroTy Try.prog 73 (.nilFunc) := ⟨by kernel_rfl⟩
instance bytesTy73 : BytesTy Try.prog 73 8 := ⟨by kernel_rfl⟩
instance cellTy74 : CellTy Try.prog 74 := ⟨by kernel_rfl⟩
instance stoTy74 : StoTy Try.prog 74 := ⟨by kernel_rfl⟩
instance zeroTy74 : ZeroTy Try.prog 74 (.nilFunc) := ⟨by kernel_rfl⟩
instance bytesTy74 : BytesTy Try.prog 74 8 := ⟨by kernel_rfl⟩
instance cellTy75 : CellTy Try.prog 75 := ⟨by kernel_rfl⟩
instance stoTy75 : StoTy Try.prog 75 := ⟨by kernel_rfl⟩
instance zeroTy75 : ZeroTy Try.prog 75 (.nilFunc) := ⟨by kernel_rfl⟩
instance bytesTy75 : BytesTy Try.prog 75 8 := ⟨by kernel_rfl⟩
instance cellTy76 : CellTy Try.prog 76 := ⟨by kernel_rfl⟩
instance stoTy76 : StoTy Try.prog 76 := ⟨by kernel_rfl⟩
instance zeroTy76 : ZeroTy Try.prog 76 (.nilFunc) := ⟨by kernel_rfl⟩
instance bytesTy76 : BytesTy Try.prog 76 8 := ⟨by kernel_rfl⟩
instance cellTy77 : CellTy Try.prog 77 := ⟨by kernel_rfl⟩
instance stoTy77 : StoTy Try.prog 77 := ⟨by kernel_rfl⟩
instance zeroTy77 : ZeroTy Try.prog 77 (.nilFunc) := ⟨by kernel_rfl⟩
instance bytesTy77 : BytesTy Try.prog 77 8 := ⟨by kernel_rfl⟩
instance cellTy78 : CellTy Try.prog 78 := ⟨by kernel_rfl⟩
instance stoTy78 : StoTy Try.prog 78 := ⟨by kernel_rfl⟩
instance zeroTy78 : ZeroTy Try.prog 78 (.nilFunc) := ⟨by kernel_rfl⟩
instance bytesTy78 : BytesTy Try.prog 78 8 := ⟨by kernel_rfl⟩
instance cellTy79 : CellTy Try.prog 79 := ⟨by kernel_rfl⟩
instance stoTy79 : StoTy Try.prog 79 := ⟨by kernel_rfl⟩
instance zeroTy79 : ZeroTy Try.prog 79 (.nilFunc) := ⟨by kernel_rfl⟩
instance bytesTy79 : BytesTy Try.prog 79 8 := ⟨by kernel_rfl⟩
instance cellTy80 : CellTy Try.prog 80 := ⟨by kernel_rfl⟩
instance stoTy80 : StoTy Try.prog 80 := ⟨by kernel_rfl⟩
instance zeroTy80 : ZeroTy Try.prog 80 (.nilFunc) := ⟨by kernel_rfl⟩
instance bytesTy80 : BytesTy Try.prog 80 8 := ⟨by kernel_rfl⟩
instance cellTy81 : CellTy Try.prog 81 := ⟨by kernel_rfl⟩
instance stoTy81 : StoTy Try.prog 81 := ⟨by kernel_rfl⟩
instance zeroTy81 : ZeroTy Try.prog 81 (.nilFunc) := ⟨by kernel_rfl⟩
instance bytesTy81 : BytesTy Try.prog 81 8 := ⟨by kernel_rfl⟩
instance cellTy82 : CellTy Try.prog 82 := ⟨by kernel_rfl⟩
instance stoTy82 : StoTy Try.prog 82 := ⟨by kernel_rfl⟩
instance zeroTy82 : ZeroTy Try.prog 82 (.nilFunc) := ⟨by kernel_rfl⟩
instance bytesTy82 : BytesTy Try.prog 82 8 := ⟨by kernel_rfl⟩
instance cellTy83 : CellTy Try.prog 83 := ⟨by kernel_rfl⟩
instance stoTy83 : StoTy Try.prog 83 := ⟨by kernel_rfl⟩
instance intTy83 : IntTy Try.prog 83 .i64 := ⟨by kernel_rfl⟩
instance zeroTy83 : ZeroTy Try.prog 83 (.int .i64 0) := ⟨by kernel_rfl⟩
instance bytesTy83 : BytesTy Try.prog 83 8 := ⟨by kernel_rfl⟩
instance cellTy84 : CellTy Try.prog 84 := ⟨by kernel_rfl⟩
instance stoTy84 : StoTy Try.prog 84 := ⟨by kernel_rfl⟩
instance zeroTy84 : ZeroTy Try.prog 84 (.tuple #[.int .i64 0, .int .i64 0]) := ⟨by kernel_rfl⟩
instance bytesTy84 : BytesTy Try.prog 84 0 := ⟨by kernel_rfl⟩
instance cellTy85 : CellTy Try.prog 85 := ⟨by kernel_rfl⟩
instance stoTy85 : StoTy Try.prog 85 := ⟨by kernel_rfl⟩
instance zeroTy85 : ZeroTy Try.prog 85 (.nilFunc) := ⟨by kernel_rfl⟩
instance bytesTy85 : BytesTy Try.prog 85 8 := ⟨by kernel_rfl⟩
instance cellTy86 : CellTy Try.prog 86 := ⟨by kernel_rfl⟩
instance stoTy86 : StoTy Try.prog 86 := ⟨by kernel_rfl⟩
instance zeroTy86 : ZeroTy Try.prog 86 (.nilFunc) := ⟨by kernel_rfl⟩
instance bytesTy86 : BytesTy Try.prog 86 8 := ⟨by kernel_rfl⟩
instance cellTy87 : CellTy Try.prog 87 := ⟨by kernel_rfl⟩
instance stoTy87 : StoTy Try.prog 87 := ⟨by kernel_rfl⟩
instance zeroTy87 : ZeroTy Try.prog 87 (.nilFunc) := ⟨by kernel_rfl⟩
instance bytesTy87 : BytesTy Try.prog 87 8 := ⟨by kernel_rfl⟩
instance cellTy88 : CellTy Try.prog 88 := ⟨by kernel_rfl⟩
instance stoTy88 : StoTy Try.prog 88 := ⟨by kernel_rfl⟩
instance zeroTy88 : ZeroTy Try.prog 88 (.nilFunc) := ⟨by kernel_rfl⟩
instance bytesTy88 : BytesTy Try.prog 88 8 := ⟨by kernel_rfl⟩
instance cellTy89 : CellTy Try.prog 89 := ⟨by kernel_rfl⟩
instance stoTy89 : StoTy Try.prog 89 := ⟨by kernel_rfl⟩
instance zeroTy89 : ZeroTy Try.prog 89 (.nilFunc) := ⟨by kernel_rfl⟩
instance bytesTy89 : BytesTy Try.prog 89 8 := ⟨by kernel_rfl⟩
instance cellTy90 : CellTy Try.prog 90 := ⟨by kernel_rfl⟩
instance stoTy90 : StoTy Try.prog 90 := ⟨by kernel_rfl⟩
instance zeroTy90 : ZeroTy Try.prog 90 (.nilFunc) := ⟨by kernel_rfl⟩
instance bytesTy90 : BytesTy Try.prog 90 8 := ⟨by kernel_rfl⟩
instance cellTy91 : CellTy Try.prog 91 := ⟨by kernel_rfl⟩
instance stoTy91 : StoTy Try.prog 91 := ⟨by kernel_rfl⟩
instance intTy91 : IntTy Try.prog 91 .u64 := ⟨by kernel_rfl⟩
instance zeroTy91 : ZeroTy Try.prog 91 (.int .u64 0) := ⟨by kernel_rfl⟩
instance bytesTy91 : BytesTy Try.prog 91 8 := ⟨by kernel_rfl⟩
instance cellTy92 : CellTy Try.prog 92 := ⟨by kernel_rfl⟩
instance stoTy92 : StoTy Try.prog 92 := ⟨by kernel_rfl⟩
instance zeroTy92 : ZeroTy Try.prog 92 (.nilFunc) := ⟨by kernel_rfl⟩
instance bytesTy92 : BytesTy Try.prog 92 8 := ⟨by kernel_rfl⟩
instance cellTy93 : CellTy Try.prog 93 := ⟨by kernel_rfl⟩
instance stoTy93 : StoTy Try.prog 93 := ⟨by kernel_rfl⟩
instance zeroTy93 : ZeroTy Try.prog 93 (.nilFunc) := ⟨by kernel_rfl⟩
instance bytesTy93 : BytesTy Try.prog 93 8 := ⟨by kernel_rfl⟩
instance cellTy94 : CellTy Try.prog 94 := ⟨by kernel_rfl⟩
instance stoTy94 : StoTy Try.prog 94 := ⟨by kernel_rfl⟩
instance zeroTy94 : ZeroTy Try.prog 94 (.nilFunc) := ⟨by kernel_rfl⟩
instance bytesTy94 : BytesTy Try.prog 94 8 := ⟨by kernel_rfl⟩
instance cellTy95 : CellTy Try.prog 95 := ⟨by kernel_rfl⟩
instance stoTy95 : StoTy Try.prog 95 := ⟨by kernel_rfl⟩
instance zeroTy95 : ZeroTy Try.prog 95 (.pointer none) := ⟨by kernel_rfl⟩
instance bytesTy95 : BytesTy Try.prog 95 8 := ⟨by kernel_rfl⟩
instance cellTy96 : CellTy Try.prog 96 := ⟨by kernel_rfl⟩
instance stoTy96 : StoTy Try.prog 96 := ⟨by kernel_rfl⟩
instance zeroTy96 : ZeroTy Try.prog 96 (.nilFunc) := ⟨by kernel_rfl⟩
instance bytesTy96 : BytesTy Try.prog 96 8 := ⟨by kernel_rfl⟩
instance cellTy97 : CellTy Try.prog 97 := ⟨by kernel_rfl⟩
instance stoTy97 : StoTy Try.prog 97 := ⟨by kernel_rfl⟩
instance zeroTy97 : ZeroTy Try.prog 97 (.pointer none) := ⟨by kernel_rfl⟩
instance bytesTy97 : BytesTy Try.prog 97 8 := ⟨by kernel_rfl⟩
instance cellTy98 : CellTy Try.prog 98 := ⟨by kernel_rfl⟩
instance stoTy98 : StoTy Try.prog 98 := ⟨by kernel_rfl⟩
instance zeroTy98 : ZeroTy Try.prog 98 (.tuple #[.int .i64 0, .int .i64 0]) := ⟨by kernel_rfl⟩
instance bytesTy98 : BytesTy Try.prog 98 0 := ⟨by kernel_rfl⟩
instance cellTy99 : CellTy Try.prog 99 := ⟨by kernel_rfl⟩
instance stoTy99 : StoTy Try.prog 99 := ⟨by kernel_rfl⟩
instance zeroTy99 : ZeroTy Try.prog 99 (.nilFunc) := ⟨by kernel_rfl⟩
instance bytesTy99 : BytesTy Try.prog 99 8 := ⟨by kernel_rfl⟩
instance cellTy100 : CellTy Try.prog 100 := ⟨by kernel_rfl⟩
instance stoTy100 : StoTy Try.prog 100 := ⟨by kernel_rfl⟩
instance zeroTy100 : ZeroTy Try.prog 100 (.nilFunc) := ⟨by kernel_rfl⟩
instance bytesTy100 : BytesTy Try.prog 100 8 := ⟨by kernel_rfl⟩
instance aggTy101 : AggTy Try.prog 101 4 := ⟨by kernel_rfl⟩
instance fldTy101_0 : FldTy Try.prog 101 0 17 0 := ⟨by kernel_rfl⟩
instance fldTy101_1 : FldTy Try.prog 101 1 17 1 := ⟨by kernel_rfl⟩
instance fldTy101_2 : FldTy Try.prog 101 2 17 2 := ⟨by kernel_rfl⟩
instance fldTy101_3 : FldTy Try.prog 101 3 9 3 := ⟨by kernel_rfl⟩
instance zeroTy101 : ZeroTy Try.prog 101 (.agg #[.pointer none, .pointer none, .pointer none, .string ⟨#[]⟩]) := ⟨by kernel_rfl⟩
instance bytesTy101 : BytesTy Try.prog 101 40 := ⟨by kernel_rfl⟩
instance aggTy102 : AggTy Try.prog 102 4 := ⟨by kernel_rfl⟩
instance fldTy102_0 : FldTy Try.prog 102 0 17 0 := ⟨by kernel_rfl⟩
instance fldTy102_1 : FldTy Try.prog 102 1 17 1 := ⟨by kernel_rfl⟩
instance fldTy102_2 : FldTy Try.prog 102 2 17 2 := ⟨by kernel_rfl⟩
instance fldTy102_3 : FldTy Try.prog 102 3 9 3 := ⟨by kernel_rfl⟩
instance zeroTy102 : ZeroTy Try.prog 102 (.agg #[.pointer none, .pointer none, .pointer none, .string ⟨#[]⟩]) := ⟨by kernel_rfl⟩
instance bytesTy102 : BytesTy Try.prog 102 40 := ⟨by kernel_rfl⟩
instance aggTy103 : AggTy Try.prog 103 0 := ⟨by kernel_rfl⟩
instance arrTy103 : ArrTy Try.prog 103 0 16 1 := ⟨by kernel_rfl⟩
instance zeroTy103 : ZeroTy Try.prog 103 (.agg #[]) := ⟨by kernel_rfl⟩
instance bytesTy103 : BytesTy Try.prog 103 0 := ⟨by kernel_rfl⟩
instance aggTy104 : AggTy Try.prog 104 0 := ⟨by kernel_rfl⟩
instance zeroTy104 : ZeroTy Try.prog 104 (.agg #[]) := ⟨by kernel_rfl⟩
instance bytesTy104 : BytesTy Try.prog 104 0 := ⟨by kernel_rfl⟩
instance aggTy105 : AggTy Try.prog 105 0 := ⟨by kernel_rfl⟩
instance zeroTy105 : ZeroTy Try.prog 105 (.agg #[]) := ⟨by kernel_rfl⟩
instance bytesTy105 : BytesTy Try.prog 105 0 := ⟨by kernel_rfl⟩
instance cellTy106 : CellTy Try.prog 106 := ⟨by kernel_rfl⟩
instance stoTy106 : StoTy Try.prog 106 := ⟨by kernel_rfl⟩
instance zeroTy106 : ZeroTy Try.prog 106 (.nilFunc) := ⟨by kernel_rfl⟩
instance bytesTy106 : BytesTy Try.prog 106 8 := ⟨by kernel_rfl⟩
instance cellTy107 : CellTy Try.prog 107 := ⟨by kernel_rfl⟩
instance stoTy107 : StoTy Try.prog 107 := ⟨by kernel_rfl⟩
instance intTy107 : IntTy Try.prog 107 .u8 := ⟨by kernel_rfl⟩
instance zeroTy107 : ZeroTy Try.prog 107 (.int .u8 0) := ⟨by kernel_rfl⟩
instance bytesTy107 : BytesTy Try.prog 107 1 := ⟨by kernel_rfl⟩
instance cellTy108 : CellTy Try.prog 108 := ⟨by kernel_rfl⟩
instance stoTy108 : StoTy Try.prog 108 := ⟨by kernel_rfl⟩
instance intTy108 : IntTy Try.prog 108 .u8 := ⟨by kernel_rfl⟩
instance zeroTy108 : ZeroTy Try.prog 108 (.int .u8 0) := ⟨by kernel_rfl⟩
instance bytesTy108 : BytesTy Try.prog 108 1 := ⟨by kernel_rfl⟩
instance cellTy109 : CellTy Try.prog 109 := ⟨by kernel_rfl⟩
instance stoTy109 : StoTy Try.prog 109 := ⟨by kernel_rfl⟩
instance zeroTy109 : ZeroTy Try.prog 109 (.nilFunc) := ⟨by kernel_rfl⟩
instance bytesTy109 : BytesTy Try.prog 109 8 := ⟨by kernel_rfl⟩
instance cellTy110 : CellTy Try.prog 110 := ⟨by kernel_rfl⟩
instance stoTy110 : StoTy Try.prog 110 := ⟨by kernel_rfl⟩
instance zeroTy110 : ZeroTy Try.prog 110 (.pointer none) := ⟨by kernel_rfl⟩
instance bytesTy110 : BytesTy Try.prog 110 8 := ⟨by kernel_rfl⟩
instance cellTy111 : CellTy Try.prog 111 := ⟨by kernel_rfl⟩
instance stoTy111 : StoTy Try.prog 111 := ⟨by kernel_rfl⟩
instance intTy111 : IntTy Try.prog 111 .i32 := ⟨by kernel_rfl⟩
instance zeroTy111 : ZeroTy Try.prog 111 (.int .i32 0) := ⟨by kernel_rfl⟩
instance bytesTy111 : BytesTy Try.prog 111 4 := ⟨by kernel_rfl⟩
instance cellTy112 : CellTy Try.prog 112 := ⟨by kernel_rfl⟩
instance stoTy112 : StoTy Try.prog 112 := ⟨by kernel_rfl⟩
instance intTy112 : IntTy Try.prog 112 .i32 := ⟨by kernel_rfl⟩
instance zeroTy112 : ZeroTy Try.prog 112 (.int .i32 0) := ⟨by kernel_rfl⟩
instance bytesTy112 : BytesTy Try.prog 112 4 := ⟨by kernel_rfl⟩
instance aggTy113 : AggTy Try.prog 113 11 := ⟨by kernel_rfl⟩
instance fldTy113_0 : FldTy Try.prog 113 0 12 0 := ⟨by kernel_rfl⟩
instance fldTy113_1 : FldTy Try.prog 113 1 12 1 := ⟨by kernel_rfl⟩
instance fldTy113_2 : FldTy Try.prog 113 2 48 2 := ⟨by kernel_rfl⟩
instance fldTy113_3 : FldTy Try.prog 113 3 107 3 := ⟨by kernel_rfl⟩
instance fldTy113_4 : FldTy Try.prog 113 4 5 4 := ⟨by kernel_rfl⟩
instance fldTy113_5 : FldTy Try.prog 113 5 5 5 := ⟨by kernel_rfl⟩
instance fldTy113_6 : FldTy Try.prog 113 6 108 6 := ⟨by kernel_rfl⟩
instance fldTy113_7 : FldTy Try.prog 113 7 109 7 := ⟨by kernel_rfl⟩
instance fldTy113_8 : FldTy Try.prog 113 8 110 8 := ⟨by kernel_rfl⟩
instance fldTy113_9 : FldTy Try.prog 113 9 111 9 := ⟨by kernel_rfl⟩
instance fldTy113_10 : FldTy Try.prog 113 10 112 10 := ⟨by kernel_rfl⟩
instance zeroTy113 : ZeroTy Try.prog 113 (.agg #[.int .u64 0, .int .u64 0, .int .u32 0, .int .u8 0, .int .u8 0, .int .u8 0, .int .u8 0, .nilFunc, .pointer none, .int .i32 0, .int .i32 0]) := ⟨by kernel_rfl⟩
instance bytesTy113 : BytesTy Try.prog 113 48 := ⟨by kernel_rfl⟩
instance aggTy114 : AggTy Try.prog 114 11 := ⟨by kernel_rfl⟩
instance fldTy114_0 : FldTy Try.prog 114 0 12 0 := ⟨by kernel_rfl⟩
instance fldTy114_1 : FldTy Try.prog 114 1 12 1 := ⟨by kernel_rfl⟩
instance fldTy114_2 : FldTy Try.prog 114 2 48 2 := ⟨by kernel_rfl⟩
instance fldTy114_3 : FldTy Try.prog 114 3 107 3 := ⟨by kernel_rfl⟩
instance fldTy114_4 : FldTy Try.prog 114 4 5 4 := ⟨by kernel_rfl⟩
instance fldTy114_5 : FldTy Try.prog 114 5 5 5 := ⟨by kernel_rfl⟩
instance fldTy114_6 : FldTy Try.prog 114 6 108 6 := ⟨by kernel_rfl⟩
instance fldTy114_7 : FldTy Try.prog 114 7 109 7 := ⟨by kernel_rfl⟩
instance fldTy114_8 : FldTy Try.prog 114 8 110 8 := ⟨by kernel_rfl⟩
instance fldTy114_9 : FldTy Try.prog 114 9 111 9 := ⟨by kernel_rfl⟩
instance fldTy114_10 : FldTy Try.prog 114 10 112 10 := ⟨by kernel_rfl⟩
instance zeroTy114 : ZeroTy Try.prog 114 (.agg #[.int .u64 0, .int .u64 0, .int .u32 0, .int .u8 0, .int .u8 0, .int .u8 0, .int .u8 0, .nilFunc, .pointer none, .int .i32 0, .int .i32 0]) := ⟨by kernel_rfl⟩
instance bytesTy114 : BytesTy Try.prog 114 48 := ⟨by kernel_rfl⟩
instance cellTy115 : CellTy Try.prog 115 := ⟨by kernel_rfl⟩
instance stoTy115 : StoTy Try.prog 115 := ⟨by kernel_rfl⟩
instance zeroTy115 : ZeroTy Try.prog 115 (.pointer none) := ⟨by kernel_rfl⟩
instance bytesTy115 : BytesTy Try.prog 115 8 := ⟨by kernel_rfl⟩
instance enters2 : Enters Try.prog 2 := Enters.of Try.func2 (by kernel_rfl) (by kernel_rfl)
instance enters3 : Enters Try.prog 3 := Enters.of Try.func3 (by kernel_rfl) (by kernel_rfl)
instance enters4 : Enters Try.prog 4 := Enters.of Try.func4 (by kernel_rfl) (by kernel_rfl)
instance enters5 : Enters Try.prog 5 := Enters.of Try.func5 (by kernel_rfl) (by kernel_rfl)
instance enters6 : Enters Try.prog 6 := Enters.of Try.func6 (by kernel_rfl) (by kernel_rfl)
instance enters7 : Enters Try.prog 7 := Enters.of Try.func7 (by kernel_rfl) (by kernel_rfl)
instance enters8 : Enters Try.prog 8 := Enters.of Try.func8 (by kernel_rfl) (by kernel_rfl)
instance enters9 : Enters Try.prog 9 := Enters.of Try.func9 (by kernel_rfl) (by kernel_rfl)
instance enters10 : Enters Try.prog 10 := Enters.of Try.func10 (by kernel_rfl) (by kernel_rfl)
instance enters11 : Enters Try.prog 11 := Enters.of Try.func11 (by kernel_rfl) (by kernel_rfl)
instance enters12 : Enters Try.prog 12 := Enters.of Try.func12 (by kernel_rfl) (by kernel_rfl)
instance enters13 : Enters Try.prog 13 := Enters.of Try.func13 (by kernel_rfl) (by kernel_rfl)
instance enters14 : Enters Try.prog 14 := Enters.of Try.func14 (by kernel_rfl) (by kernel_rfl)
instance enters15 : Enters Try.prog 15 := Enters.of Try.func15 (by kernel_rfl) (by kernel_rfl)
instance enters16 : Enters Try.prog 16 := Enters.of Try.func16 (by kernel_rfl) (by kernel_rfl)
instance enters17 : Enters Try.prog 17 := Enters.of Try.func17 (by kernel_rfl) (by kernel_rfl)
instance enters18 : Enters Try.prog 18 := Enters.of Try.func18 (by kernel_rfl) (by kernel_rfl)
instance enters19 : Enters Try.prog 19 := Enters.of Try.func19 (by kernel_rfl) (by kernel_rfl)
instance enters20 : Enters Try.prog 20 := Enters.of Try.func20 (by kernel_rfl) (by kernel_rfl)
instance enters21 : Enters Try.prog 21 := Enters.of Try.func21 (by kernel_rfl) (by kernel_rfl)
instance enters22 : Enters Try.prog 22 := Enters.of Try.func22 (by kernel_rfl) (by kernel_rfl)
instance enters23 : Enters Try.prog 23 := Enters.of Try.func23 (by kernel_rfl) (by kernel_rfl)
instance enters24 : Enters Try.prog 24 := Enters.of Try.func24 (by kernel_rfl) (by kernel_rfl)
instance enters25 : Enters Try.prog 25 := Enters.of Try.func25 (by kernel_rfl) (by kernel_rfl)
instance enters26 : Enters Try.prog 26 := Enters.of Try.func26 (by kernel_rfl) (by kernel_rfl)
instance enters27 : Enters Try.prog 27 := Enters.of Try.func27 (by kernel_rfl) (by kernel_rfl)
instance enters28 : Enters Try.prog 28 := Enters.of Try.func28 (by kernel_rfl) (by kernel_rfl)
instance enters29 : Enters Try.prog 29 := Enters.of Try.func29 (by kernel_rfl) (by kernel_rfl)
instance enters30 : Enters Try.prog 30 := Enters.of Try.func30 (by kernel_rfl) (by kernel_rfl)
instance enters31 : Enters Try.prog 31 := Enters.of Try.func31 (by kernel_rfl) (by kernel_rfl)
instance enters32 : Enters Try.prog 32 := Enters.of Try.func32 (by kernel_rfl) (by kernel_rfl)
instance enters33 : Enters Try.prog 33 := Enters.of Try.func33 (by kernel_rfl) (by kernel_rfl)
instance enters34 : Enters Try.prog 34 := Enters.of Try.func34 (by kernel_rfl) (by kernel_rfl)
instance enters35 : Enters Try.prog 35 := Enters.of Try.func35 (by kernel_rfl) (by kernel_rfl)
instance enters36 : Enters Try.prog 36 := Enters.of Try.func36 (by kernel_rfl) (by kernel_rfl)
instance enters37 : Enters Try.prog 37 := Enters.of Try.func37 (by kernel_rfl) (by kernel_rfl)
instance enters38 : Enters Try.prog 38 := Enters.of Try.func38 (by kernel_rfl) (by kernel_rfl)
instance enters39 : Enters Try.prog 39 := Enters.of Try.func39 (by kernel_rfl) (by kernel_rfl)
instance enters40 : Enters Try.prog 40 := Enters.of Try.func40 (by kernel_rfl) (by kernel_rfl)
instance enters41 : Enters Try.prog 41 := Enters.of Try.func41 (by kernel_rfl) (by kernel_rfl)
instance enters42 : Enters Try.prog 42 := Enters.of Try.func42 (by kernel_rfl) (by kernel_rfl)
instance enters43 : Enters Try.prog 43 := Enters.of Try.func43 (by kernel_rfl) (by kernel_rfl)
instance enters44 : Enters Try.prog 44 := Enters.of Try.func44 (by kernel_rfl) (by kernel_rfl)
instance enters45 : Enters Try.prog 45 := Enters.of Try.func45 (by kernel_rfl) (by kernel_rfl)
instance enters46 : Enters Try.prog 46 := Enters.of Try.func46 (by kernel_rfl) (by kernel_rfl)
instance enters47 : Enters Try.prog 47 := Enters.of Try.func47 (by kernel_rfl) (by kernel_rfl)
instance enters48 : Enters Try.prog 48 := Enters.of Try.func48 (by kernel_rfl) (by kernel_rfl)
instance enters49 : Enters Try.prog 49 := Enters.of Try.func49 (by kernel_rfl) (by kernel_rfl)
instance enters50 : Enters Try.prog 50 := Enters.of Try.func50 (by kernel_rfl) (by kernel_rfl)
instance enters51 : Enters Try.prog 51 := Enters.of Try.func51 (by kernel_rfl) (by kernel_rfl)
instance enters52 : Enters Try.prog 52 := Enters.of Try.func52 (by kernel_rfl) (by kernel_rfl)
instance enters53 : Enters Try.prog 53 := Enters.of Try.func53 (by kernel_rfl) (by kernel_rfl)
instance enters54 : Enters Try.prog 54 := Enters.of Try.func54 (by kernel_rfl) (by kernel_rfl)
instance enters55 : Enters Try.prog 55 := Enters.of Try.func55 (by kernel_rfl) (by kernel_rfl)
instance enters56 : Enters Try.prog 56 := Enters.of Try.func56 (by kernel_rfl) (by kernel_rfl)
instance enters57 : Enters Try.prog 57 := Enters.of Try.func57 (by kernel_rfl) (by kernel_rfl)
instance enters58 : Enters Try.prog 58 := Enters.of Try.func58 (by kernel_rfl) (by kernel_rfl)
instance enters59 : Enters Try.prog 59 := Enters.of Try.func59 (by kernel_rfl) (by kernel_rfl)
instance enters60 : Enters Try.prog 60 := Enters.of Try.func60 (by kernel_rfl) (by kernel_rfl)
instance enters61 : Enters Try.prog 61 := Enters.of Try.func61 (by kernel_rfl) (by kernel_rfl)
instance enters62 : Enters Try.prog 62 := Enters.of Try.func62 (by kernel_rfl) (by kernel_rfl)
instance enters63 : Enters Try.prog 63 := Enters.of Try.func63 (by kernel_rfl) (by kernel_rfl)
instance enters64 : Enters Try.prog 64 := Enters.of Try.func64 (by kernel_rfl) (by kernel_rfl)
instance enters65 : Enters Try.prog 65 := Enters.of Try.func65 (by kernel_rfl) (by kernel_rfl)
instance enters66 : Enters Try.prog 66 := Enters.of Try.func66 (by kernel_rfl) (by kernel_rfl)
instance enters67 : Enters Try.prog 67 := Enters.of Try.func67 (by kernel_rfl) (by kernel_rfl)
instance enters68 : Enters Try.prog 68 := Enters.of Try.func68 (by kernel_rfl) (by kernel_rfl)
end Go.Proofs.Ytclmnhijjhnggaa

/- Own layer, part i: integers' bits. Nothing of the program stands here. -/
namespace Go.Proofs.Ytclmnhijjhnggaa
open Go Go.RowKit
theorem ofInt_i64 (a : Nat) (ha : a < 9223372036854775808) : (BitVec.ofInt 64 (a : Int)).toNat = a := by
  rw [BitVec.ofInt_natCast, BitVec.toNat_ofNat]; exact Nat.mod_eq_of_lt (by omega)
theorem i64_and_nat (a b : Nat) (ha : a < 9223372036854775808) (hb : b < 9223372036854775808) : bits .and .i64 (a : Int) (b : Int) = ((a &&& b : Nat) : Int) := by
  have hx : a &&& b < 2 ^ 63 := Nat.and_lt_two_pow _ (by omega)
  show IntKind.i64.wrap ((BitVec.ofInt 64 (a : Int) &&& BitVec.ofInt 64 (b : Int)).toNat : Int) = _
  rw [BitVec.toNat_and, ofInt_i64 a ha, ofInt_i64 b hb, IntKind.wrap_i64]
  omega
theorem i64_or_nat (a b : Nat) (ha : a < 9223372036854775808) (hb : b < 9223372036854775808) : bits .or .i64 (a : Int) (b : Int) = ((a ||| b : Nat) : Int) := by
  have hx : a ||| b < 2 ^ 63 := Nat.or_lt_two_pow (by omega) (by omega)
  show IntKind.i64.wrap ((BitVec.ofInt 64 (a : Int) ||| BitVec.ofInt 64 (b : Int)).toNat : Int) = _
  rw [BitVec.toNat_or, ofInt_i64 a ha, ofInt_i64 b hb, IntKind.wrap_i64]
  omega
theorem i64_xor_nat (a b : Nat) (ha : a < 9223372036854775808) (hb : b < 9223372036854775808) : bits .xor .i64 (a : Int) (b : Int) = ((a ^^^ b : Nat) : Int) := by
  have hx : a ^^^ b < 2 ^ 63 := Nat.xor_lt_two_pow (by omega) (by omega)
  show IntKind.i64.wrap ((BitVec.ofInt 64 (a : Int) ^^^ BitVec.ofInt 64 (b : Int)).toNat : Int) = _
  rw [BitVec.toNat_xor, ofInt_i64 a ha, ofInt_i64 b hb, IntKind.wrap_i64]
  omega
/-- a &^ b, of numbers that are not below 0: what of a does not lie in b. -/
theorem i64_andnot_nat (a b : Nat) (ha : a < 9223372036854775808) (hb : b < 9223372036854775808) : bits .andNot .i64 (a : Int) (b : Int) = ((a - (a &&& b) : Nat) : Int) := by
  have h1 : (BitVec.ofInt 64 (a : Int) &&& ~~~ BitVec.ofInt 64 (b : Int)).toNat = a - (a &&& b) := by
    have hx := ofInt_i64 a ha
    have hy := ofInt_i64 b hb
    generalize BitVec.ofInt 64 (a : Int) = x at *
    generalize BitVec.ofInt 64 (b : Int) = y at *
    have hd : (x &&& y) &&& (x &&& ~~~ y) = 0#64 := by
      ext i; simp only [BitVec.getElem_and, BitVec.getElem_not, BitVec.getElem_zero]; cases x[i] <;> cases y[i] <;> rfl
    have ho : (x &&& y) ||| (x &&& ~~~ y) = x := by
      ext i; simp only [BitVec.getElem_and, BitVec.getElem_or, BitVec.getElem_not]; cases x[i] <;> cases y[i] <;> rfl
    have hs := BitVec.add_eq_or_of_and_eq_zero _ _ hd
    rw [ho] at hs
    have e := congrArg BitVec.toNat hs
    have hp : (x &&& y).toNat = a &&& b := by rw [BitVec.toNat_and, hx, hy]
    have hle1 : (x &&& ~~~ y).toNat ≤ a := by rw [BitVec.toNat_and, hx]; exact Nat.and_le_left
    have hle2 : a &&& b ≤ a := Nat.and_le_left
    rw [BitVec.toNat_add, hx, hp] at e
    rw [Nat.mod_eq_of_lt (by omega)] at e
    omega
  have hle : a - (a &&& b) ≤ a := Nat.sub_le _ _
  show IntKind.i64.wrap ((BitVec.ofInt 64 (a : Int) &&& ~~~ BitVec.ofInt 64 (b : Int)).toNat : Int) = _
  rw [h1, IntKind.wrap_i64]
  omega
theorem u64_wrap (n : Int) : IntKind.u64.wrap n = n % 18446744073709551616 := by
  simp [IntKind.wrap, IntKind.bits, IntKind.signed]
theorem u64_and_nat (a b : Nat) (ha : a < 18446744073709551616) (hb : b < 18446744073709551616) : bits .and .u64 (a : Int) (b : Int) = ((a &&& b : Nat) : Int) := by
  have hx : a &&& b < 2 ^ 64 := Nat.and_lt_two_pow _ (by omega)
  show IntKind.u64.wrap ((BitVec.ofInt 64 (a : Int) &&& BitVec.ofInt 64 (b : Int)).toNat : Int) = _
  have e : ∀ n : Nat, n < 18446744073709551616 → (BitVec.ofInt 64 (n : Int)).toNat = n := fun n hn => by rw [BitVec.ofInt_natCast, BitVec.toNat_ofNat]; exact Nat.mod_eq_of_lt (by omega)
  rw [BitVec.toNat_and, e a ha, e b hb, u64_wrap]
  omega

/-! The rules: what comes is a number of its own, with its equation beside it (so that nobody looks into it). -/
section
variable {K : Value → Prop}
theorem orV {a b : Nat} (k : ∀ c : Nat, c = a ||| b → K (.int .i64 (c : Int))) (ha : a < 9223372036854775808 := by omega) (hb : b < 9223372036854775808 := by omega) : BitP .or .i64 (a : Int) (b : Int) K := bitR _ (i64_or_nat a b ha hb) (k _ rfl)
theorem andV {a b : Nat} (k : ∀ c : Nat, c = a &&& b → K (.int .i64 (c : Int))) (ha : a < 9223372036854775808 := by omega) (hb : b < 9223372036854775808 := by omega) : BitP .and .i64 (a : Int) (b : Int) K := bitR _ (i64_and_nat a b ha hb) (k _ rfl)
theorem andNotV {a b : Nat} (k : ∀ c : Nat, c = a - (a &&& b) → K (.int .i64 (c : Int))) (ha : a < 9223372036854775808 := by omega) (hb : b < 9223372036854775808 := by omega) : BitP .andNot .i64 (a : Int) (b : Int) K := bitR _ (i64_andnot_nat a b ha hb) (k _ rfl)
theorem shl1 {x : Int} (k : ∀ c : Nat, c = 2 ^ x.toNat → c < 4611686018427387905 → K (.int .i64 (c : Int))) (hx : 0 ≤ x ∧ x < 63 := by omega) : ShlP .i64 1 x K := by
  rw [ShlP_eq]
  refine ⟨hx.1, ?_⟩
  have hp : 2 ^ x.toNat ≤ 2 ^ 62 := Nat.pow_le_pow_right (by omega) (by omega)
  have e1 : IntKind.i64.wrap (1 * 2 ^ (min x.toNat IntKind.i64.bits)) = ((2 ^ x.toNat : Nat) : Int) := by
    rw [show min x.toNat IntKind.i64.bits = x.toNat from by simp [IntKind.bits]; omega]
    have : ((2 : Int) ^ x.toNat) = ((2 ^ x.toNat : Nat) : Int) := by simp
    rw [Int.one_mul, this]
    generalize 2 ^ x.toNat = y at hp ⊢
    exact IntWalk.i64_in _ (by omega)
  rw [e1]
  generalize hy : 2 ^ x.toNat = y at hp ⊢
  exact k _ hy.symm (by omega)
theorem shrV {a : Nat} {x : Int} (k : ∀ c : Nat, c = a >>> x.toNat → K (.int .i64 (c : Int))) (hx : 0 ≤ x ∧ x < 64 := by omega) : ShrP .i64 (a : Int) x K := by
  rw [ShrP_eq]
  refine ⟨hx.1, ?_⟩
  have e1 : (a : Int).fdiv (2 ^ (min x.toNat IntKind.i64.bits)) = ((a >>> x.toNat : Nat) : Int) := by
    rw [show min x.toNat IntKind.i64.bits = x.toNat from by simp [IntKind.bits]; omega]
    have : ((2 : Int) ^ x.toNat) = ((2 ^ x.toNat : Nat) : Int) := by simp
    rw [this, Nat.shiftRight_eq_div_pow, Int.fdiv_eq_ediv_of_nonneg _ (Int.natCast_nonneg _)]
    rfl
  rw [e1]
  exact k _ rfl
end
end Go.Proofs.Ytclmnhijjhnggaa

/- Own layer, part j: rules put together. Nothing of the program stands here. -/
namespace Go.Proofs.Ytclmnhijjhnggaa
open Go Go.RowKit

section
variable {P : Program} {X : XK}
/-- A call that leaves the world alone and hands back a truth. -/
theorem callB {f : FuncId} [h : Enters P f] {args : Array Value} {w : World} {K : VK} {b : Bool} (c : CallZ P f args w (fun v w' => v = .bool b ∧ w' = w)) (k1 : b = true → K (.bool true) w) (k2 : b = false → K (.bool false) w) : CallP P f args K X w :=
  call_of c fun v w' ⟨e1, e2⟩ => by
    subst e1; subst e2
    cases b with
    | true => exact k1 rfl
    | false => exact k2 rfl
theorem callQB {S : World → Prop} {f : FuncId} [h : Enters P f] {args : Array Value} {K : Value → Prop} {b : Bool} (c : ∀ w, S w → CallZ P f args w (fun u w' => u = .bool b ∧ w' = w)) (k1 : b = true → K (.bool true)) (k2 : b = false → K (.bool false)) : CallQ P S f args K :=
  callQ (v := .bool b) c (by
    cases b with
    | true => exact k1 rfl
    | false => exact k2 rfl)
/-- .. that leaves alone what was there. -/
theorem callE {f : FuncId} [h : Enters P f] {args : Array Value} {w : World} {K : VK} {b : Bool} (c : CallZ P f args w (fun v w' => v = .bool b ∧ Ext w w')) (k1 : ∀ w', b = true → Ext w w' → K (.bool true) w') (k2 : ∀ w', b = false → Ext w w' → K (.bool false) w') : CallP P f args K X w :=
  call_of c fun v w' ⟨e1, e2⟩ => by
    subst e1
    cases b with
    | true => exact k1 w' rfl e2
    | false => exact k2 w' rfl e2

/-- Loads of what was there, under 'every block that was there is kept'. -/
theorem ldAX {t : TypeId} {n : Nat} [AggTy P t n] {w0 w : World} {b o : Nat} (cs : List Value) {K : Value → Prop} (hc : CellsAt w b o cs) (hn : cs.length = n) (hx : Ext w w0) (k : K (.agg cs.toArray)) : LoadG P (fun u => Ext w0 u) t (.pointer (some (ad b o))) K :=
  ldAS cs (fun _ hu => hc.kept (hx.ext hu) trivial) hn k
theorem CellsAt.blk {w : World} {g : Nat} {t : TypeId} {cs : List Value} (h : Blk w g t cs) : CellsAt w g 0 cs := fun j v hv => by rw [Nat.zero_add]; exact h.cell hv

theorem run_equalB {t : TypeId} [h : BoolTy P t] (a b : Bool) (w : World) : (Op.equal t (.bool a) (.bool b)).run P w = .ok (a == b) w := by
  have hu : P.underlying t = some .bool := by have := h.h; unfold isBoo at this; split at this <;> simp_all
  unfold Op.equal
  rw [show Op.maxDepth = (Op.maxDepth - 1) + 1 from rfl]
  rw [Op.equalIn, Sem.run_bind, run_underlying hu]
  rfl
theorem run_eqB {t : TypeId} [BoolTy P t] (xo yo : Operand) (a b : Bool) (w : World) : (do eqGuard .eql t xo yo (.bool a) (.bool b); binOp .eql t (.bool a) (.bool b) : Sem Value).run P w = .ok (.bool (a == b)) w := by
  have h1 : (eqGuard .eql t xo yo (.bool a) (.bool b)).run P w = .ok () w := rfl
  have h2 : binOp .eql t (.bool a) (.bool b) = (do pure (.bool (← Op.equal t (.bool a) (.bool b)))) := rfl
  rw [Sem.run_bind, h1, h2]
  simp only [Result.andThen_ok, Sem.run_bind, run_equalB, Sem.run_pure]
theorem run_neB {t : TypeId} [BoolTy P t] (xo yo : Operand) (a b : Bool) (w : World) : (do eqGuard .neq t xo yo (.bool a) (.bool b); binOp .neq t (.bool a) (.bool b) : Sem Value).run P w = .ok (.bool (!(a == b))) w := by
  have h1 : (eqGuard .neq t xo yo (.bool a) (.bool b)).run P w = .ok () w := rfl
  have h2 : binOp .neq t (.bool a) (.bool b) = (do pure (.bool (!(← Op.equal t (.bool a) (.bool b))))) := rfl
  rw [Sem.run_bind, h1, h2]
  simp only [Result.andThen_ok, Sem.run_bind, run_equalB, Sem.run_pure]
/-- Truths compared. -/
theorem eqB {t : TypeId} [h : BoolTy P t] {xo yo : Operand} {a b : Bool} {K : Value → Prop} (k1 : a = b → K (.bool true)) (k2 : a ≠ b → K (.bool false)) : BinP P .eql t xo yo (.bool a) (.bool b) K := by
  rw [BinP_eq]
  refine pure_vval (fun w => run_eqB xo yo a b w) ?_
  by_cases e : a = b
  · subst e; rw [beq_self_eq_true]; exact k1 rfl
  · rw [beq_eq_false_iff_ne.2 e]; exact k2 e
theorem neB {t : TypeId} [h : BoolTy P t] {xo yo : Operand} {a b : Bool} {K : Value → Prop} (k1 : a ≠ b → K (.bool true)) (k2 : a = b → K (.bool false)) : BinP P .neq t xo yo (.bool a) (.bool b) K := by
  rw [BinP_eq]
  refine pure_vval (fun w => run_neB xo yo a b w) ?_
  by_cases e : a = b
  · subst e; rw [beq_self_eq_true]; exact k2 rfl
  · rw [beq_eq_false_iff_ne.2 e]; exact k1 e

/-- A struct or an array put together. -/
theorem bld {t : TypeId} {ps : Array (Nat × Value)} {K : Value → Prop} (cs : List Value) (h : P.built t ps.toList = some cs.toArray) (k : K (.agg cs.toArray)) : BldP P t ps K := by
  rw [BldP_eq]
  exact pure_vval (fun w => run_build w t ps cs.toArray h) k

/-- A drawn region, what lies in D kept: the order, and what of it is no read. -/
theorem drawK (D : Nat → Prop) (os es : List Nat) {ops : Array Oper} {K : Fr → World → Prop} {F : Fr} {w : World} (hm : P.follows .mixedOrders = true) (hok : drawOk ops [] (ordPlan es os) = true)
    (h : VPlan P ops.toList K X (ordPlan es os) (fun u => Kept D w u) F w) : DrawH P ops K X F w := drawO os es _ hm hok (Kept.refl _ _) h
theorem ldK {t : TypeId} [CellTy P t] {D : Nat → Prop} {w0 w : World} {a : Addr} (v : Value) {K : Value → Prop} (hc : w.cell? a = some v) (hD : D a.block) (hx : Kept D w w0) (k : K v) : LoadG P (fun u => Kept D w0 u) t (.pointer (some a)) K :=
  ldS v (fun _ hu => (hx.trans hu).cell hc hD) k
theorem ldAK {t : TypeId} {n : Nat} [AggTy P t n] {D : Nat → Prop} {w0 w : World} {b o : Nat} (cs : List Value) {K : Value → Prop} (hc : CellsAt w b o cs) (hn : cs.length = n) (hD : D b) (hx : Kept D w w0) (k : K (.agg cs.toArray)) : LoadG P (fun u => Kept D w0 u) t (.pointer (some (ad b o))) K :=
  ldAS cs (fun _ hu => hc.kept (hx.trans hu) hD) hn k
/-- On from the world that has come. -/
theorem strK {D : Nat → Prop} {w0 w : World} {C : (World → Prop) → Prop} (h : Kept D w0 w) (c : C (fun u => Kept D w u)) : StrP (fun u => Kept D w0 u) w C := strT _ (Kept.refl _ _) (fun _ hu => h.trans hu) c
theorem arN {n : Int} {K : Value → Prop} (k : Nat) (h : n = k) (hk : k ≤ 9223372036854775807) (kk : K (.int .i64 (k : Int))) : ArP .i64 n K := by subst h; exact arI (by omega) kk

theorem arrOf_spec {t e : TypeId} {n sz : Nat} (h : arrOf P t = some (n, e, sz)) : P.underlying t = some (.array n e) ∧ ∃ i, P.info? e = some i ∧ i.size = sz := by
  unfold arrOf at h
  split at h
  · rename_i n' e' he
    cases hi : P.info? e' with
    | none => rw [hi] at h; cases h
    | some i => rw [hi] at h; simp at h; obtain ⟨rfl, rfl, rfl⟩ := h; exact ⟨he, i, hi, rfl⟩
  · cases h
/-- The address of an array's element. -/
theorem idxR {t e : TypeId} {n sz : Nat} [h : ArrTy P t n e sz] {b o : Nat} {kd : IntKind} {i : Int} {K : Value → Prop} (k : Nat) (hi : i = k) (hk : k < n) (kk : K (.pointer (some (ad b (o + k * sz))))) :
    IdxAP P t (.pointer (some (ad b o))) (.int kd i) K := by
  rw [IdxAP_eq]
  obtain ⟨hu, inf, hinf, hs⟩ := arrOf_spec h.h
  subst hi
  refine pure_vval (fun w => ?_) kk
  simp [Instr.indexAt, asIntOf, run_underlying hu, run_sizeOf hinf, hs, add_ad, hk, Instr.sureAddr]

/-- An element of an array at hand, of one cell. -/
theorem idxVc {t e : TypeId} {n sz : Nat} [h : ArrTy P t n e sz] [he : CellTy P e] {cs : List Value} {kd : IntKind} {i : Int} {K : Value → Prop} (k : Nat) (v : Value) (hi : i = k) (hk : k < n) (hv : cs[k * sz]? = some v) (kk : K v) :
    IdxVP P t (.agg cs.toArray) (.int kd i) K := by
  rw [IdxVP_eq]
  obtain ⟨hu, inf, hinf, hs⟩ := arrOf_spec h.h
  subst hi
  refine pure_vval (fun w => ?_) kk
  simp [Instr.index, asIntOf, run_underlying hu, run_sizeOf hinf, hs, part, run_isAgg_cell he, hk, hv]

/-! ### slices of the function's own -/
structure OwnF (w0 w : World) (A : Option Addr) (n c : Nat) (e : TypeId) (sz : Nat) (cs : List Value) : Prop where
  own : Own w (.slice A n c) e sz n cs
  ext : Ext w0 w
  new : ∀ g, A = some (ad g 0) → w0.heap.size ≤ g
theorem OwnF.nil {w0 w : World} {e : TypeId} {sz : Nat} (h : Ext w0 w) : OwnF w0 w none 0 0 e sz [] := ⟨Own.nil w e sz, h, fun g hg => by cases hg⟩
theorem OwnF.lit {w0 w w' : World} {e : TypeId} {sz g n : Nat} {cs : List Value} (h : Ext w0 w) (hb : NewB w e cs g w') (hl : cs.length = n * sz) (hn : n ≤ maxLen := by decide) : OwnF w0 w' (some (ad g 0)) n n e sz cs :=
  ⟨Own.of_blk (rest := []) (by simpa using hb.blk) hl (by simpa using hl) (Nat.le_refl _) hn, h.trans hb.ext, fun g' hg => by simp only [Option.some.injEq, Addr.mk.injEq] at hg; rw [← hg.1, hb.at_]; exact h.size⟩
theorem OwnF.then {w0 w w' : World} {A : Option Addr} {n c : Nat} {e : TypeId} {sz : Nat} {cs : List Value} (h : OwnF w0 w A n c e sz cs) (k : Ext w w') : OwnF w0 w' A n c e sz cs := ⟨h.own.ext k, h.ext.trans k, h.new⟩
/-- .. where what is changed is not its block. -/
theorem OwnF.thenK {w0 w w' : World} {D : Nat → Prop} {A : Option Addr} {n c : Nat} {e : TypeId} {sz : Nat} {cs : List Value} (h : OwnF w0 w A n c e sz cs) (k : Kept D w w') (hD : ∀ g, A = some (ad g 0) → D g) (hx : Ext w0 w') : OwnF w0 w' A n c e sz cs :=
  ⟨h.own.kept k (fun g hg => by
    cases hA : A with
    | none => rw [hA] at hg; cases hg
    | some a =>
      rcases h.own.form with ⟨hv, _⟩ | ⟨g', cap, hv, _⟩
      · rw [hA] at hv; cases hv
      · injection hv with hv; subst hv; injection hg with hg; subst hg; exact hD _ rfl), hx, h.new⟩
theorem OwnF.base {v0 w0 w : World} {A : Option Addr} {n c : Nat} {e : TypeId} {sz : Nat} {cs : List Value} (h : OwnF w0 w A n c e sz cs) (k : Ext v0 w0) : OwnF v0 w A n c e sz cs := ⟨h.own, k.trans h.ext, fun g hg => Nat.le_trans k.size (h.new g hg)⟩
theorem OwnF.form {w0 w : World} {A : Option Addr} {n c : Nat} {e : TypeId} {sz : Nat} {cs : List Value} (h : OwnF w0 w A n c e sz cs) : (A = none ∧ n = 0 ∧ c = 0) ∨ ∃ g, A = some (ad g 0) ∧ w0.heap.size ≤ g ∧ g < w.heap.size ∧ n ≤ c := by
  rcases h.own.form with ⟨hv, h0⟩ | ⟨g', cap, hv, hc⟩
  · injection hv with h1 h2 h3; exact .inl ⟨h1, h2, h3⟩
  · injection hv with h1 h2 h3; subst h3; exact .inr ⟨g', h1, h.new _ h1, h.own.lt (by rw [h1]; rfl), hc⟩
theorem OwnF.le {w0 w : World} {A : Option Addr} {n c : Nat} {e : TypeId} {sz : Nat} {cs : List Value} (h : OwnF w0 w A n c e sz cs) : n ≤ c := by
  rcases h.form with ⟨_, h1, h2⟩ | ⟨_, _, _, _, h4⟩
  · omega
  · exact h4
/-- An append to it. -/
theorem appF {t e : TypeId} {sz by_ : Nat} {zv : Value} [h : SliceTy P t e sz] [hz : ZeroTy P e zv] [hby : BytesTy P e by_] {ty : TypeId} {cst : Array Bool} {n m c c2 : Nat} {A B : Option Addr} {cs news : List Value} {w0 w : World} {K : VK}
    (hown : OwnF w0 w A n c e sz cs) (hs : Src w B m sz news) (hb : (n + m) * by_ ≤ 140737488355328)
    (kk : ∀ A' c' w', OwnF w0 w' A' (n + m) c' e sz (cs ++ news) → Kept (fun b => A ≠ some (ad b 0)) w w' → (A' = A ∨ A' = none ∨ A' = some (ad w.heap.size 0)) → K (.slice A' (n + m) c') w')
    (h63 : n + m ≤ 9223372036854775807 := by omega) (h1 : (news.all fun u => u.oneCell') = true := by rfl) (hzs : (cellsL zv).length = sz := by rfl) (hpos : Nat.blt 0 sz = true := by rfl) : BuiP P .append #[t, t] ty cst #[.slice A n c, .slice B m c2] K X w := by
  refine app hown.own hs (fun u hu => List.all_eq_true.1 h1 u hu) hzs (Nat.le_of_ble_eq_true hpos) hb h63 fun v' w' ha => ?_
  have hk : Kept (fun b => A ≠ some (ad b 0)) w w' := ha.kept.weak fun i _ hne e => by
    apply hne
    rcases hown.form with ⟨hA, _⟩ | ⟨g', hA, _⟩
    · rw [hA] at e; cases e
    · rw [hA] at e ⊢; injection e with e; rw [← e]
  have hx : Ext w0 w' := ⟨hk.os.trans hown.ext.os, hk.tape.trans hown.ext.tape, hk.output.trans hown.ext.output, Nat.le_trans hown.ext.size hk.size, fun i hi _ => by
    rw [hk.blk i (Nat.lt_of_lt_of_le hi hown.ext.size) (fun e => by have := hown.new i e; omega)]
    exact hown.ext.blk i hi trivial⟩
  rcases ha.own.form with ⟨rfl, h0⟩ | ⟨g, cap, rfl, hc⟩
  · have hh := kk none 0 w' ⟨by have := ha.own; rw [h0] at this ⊢; exact this, hx, fun g hg => by cases hg⟩ hk (.inr (.inl rfl))
    rw [h0] at hh; exact hh
  · have hg : A = some (ad g 0) ∨ g = w.heap.size := by
      rcases ha.at_ with h | h
      · left
        rcases hown.form with ⟨hA, _⟩ | ⟨g', hA, _⟩
        · rw [hA] at h; cases h
        · rw [hA] at h; injection h with h; rw [hA]; have h : g = g' := h; rw [h]
      · right; injection h
    refine kk (some (ad g 0)) cap w' ⟨ha.own, hx, fun g' e' => ?_⟩ hk ?_
    · simp only [Option.some.injEq, Addr.mk.injEq] at e'
      obtain ⟨rfl, _⟩ := e'
      rcases hg with h | h
      · exact hown.new _ h
      · rw [h]; exact hown.ext.size
    · rcases hg with h | h
      · exact .inl h.symm
      · right; right; rw [h]
/-- A slice written out. -/
theorem lit {t e : TypeId} {sz : Nat} {zv : Value} [h : SliceTy P t e sz] [hz : ZeroTy P e zv] (vs : List Value) {n : Nat} {ps : Array (Nat × Value)} {w : World} {K : VK}
    (kk : ∀ g w', NewB w e (vs.flatMap cellsL) g w' → K (.slice (some (ad g 0)) n n) w')
    (hp : ps = ((vs.zipIdx 0).map fun p => (p.2, p.1)).toArray := by rfl) (hn : n = vs.length := by rfl) (hv : (vs.all fun v => Nat.beq (cellsL v).length sz) = true := by rfl) (hzs : (cellsL zv).length = sz := by rfl) (hbig : Nat.ble (vs.length * sz) 16777216 = true := by rfl) : BSlcP P t n ps K w :=
  bslc vs hp hn (fun v hvm => Nat.eq_of_beq_eq_true (List.all_eq_true.1 hv v hvm)) hzs (Nat.le_of_ble_eq_true hbig) kk
theorem NewB.src {w w' : World} {e : TypeId} {sz g n : Nat} {cs : List Value} (hb : NewB w e cs g w') (hl : cs.length = n * sz) : Src w' (some (ad g 0)) n sz cs :=
  ⟨hl, fun _ => ⟨g, 0, rfl, fun j v hv => by rw [Nat.zero_add]; exact hb.blk.cell hv⟩⟩
end

/-! ### numbers that are not below 0 -/
abbrev nv (k : Nat) : Value := .int .i64 (k : Int)
def tNat : Ty Nat := tMap tInt (fun n => (n : Int))
theorem tNat_rep {D : Nat → Prop} {w : World} {cs : List Value} {k : Nat} (h : tNat.rep D w cs k) : cs = [.int .i64 (k : Int)] ∧ I64 (k : Int) := h
theorem flat_nats {D : Nat → Prop} {w : World} : ∀ {xs : List Nat}, (∀ x ∈ xs, x ≤ 9223372036854775807) → FlatR tNat D w xs (xs.map nv)
  | [], _ => rfl
  | x :: xs, h => ⟨[.int .i64 (x : Int)], xs.map nv, rfl, ⟨rfl, show I64 (x : Int) from by have := h x List.mem_cons_self; unfold I64; constructor <;> omega⟩, flat_nats fun y hy => h y (List.mem_cons_of_mem _ hy)⟩
theorem OwnF.nats {w0 w : World} {A : Option Addr} {n c : Nat} {e : TypeId} {xs : List Nat} {D : Nat → Prop} (h : OwnF w0 w A n c e 1 (xs.map nv)) (hx : ∀ x ∈ xs, x ≤ 9223372036854775807) (hle : n ≤ 140737488355328) (hD : ∀ b, w0.heap.size ≤ b → D b) : SlR tNat D w A n xs :=
  Own.rd (a := tNat) (e := e) h.own (flat_nats hx) (by have := h.own.len; simpa using this.symm) hle fun g hg => hD g (h.new g hg)
theorem OwnF.ints {w0 w : World} {A : Option Addr} {n c : Nat} {e : TypeId} {xs : List Int} {D : Nat → Prop} (h : OwnF w0 w A n c e 1 (xs.map fun k => .int .i64 k)) (hx : ∀ x ∈ xs, I64 x) (hle : n ≤ 140737488355328) (hD : ∀ b, w0.heap.size ≤ b → D b) : SlR tInt D w A n xs :=
  Own.rd (a := tInt) (e := e) h.own (flat_ints hx) (by have := h.own.len; simpa using this.symm) hle fun g hg => hD g (h.new g hg)
theorem SlR.nats {D : Nat → Prop} {w : World} {A : Option Addr} {n : Nat} {xs : List Nat} (h : SlR tNat D w A n xs) : SlR tInt D w A n (xs.map fun k : Nat => (k : Int)) :=
  ⟨by rw [List.length_map]; exact h.1, h.2.1, fun k x hx => by
    rw [List.getElem?_map] at hx
    cases hk : xs[k]? with
    | none => rw [hk] at hx; cases hx
    | some y =>
      rw [hk] at hx
      obtain ⟨b, o, cs, h1, h2, h3, h4⟩ := h.2.2 k y hk
      simp only [Option.map_some, Option.some.injEq] at hx
      subst hx
      exact ⟨b, o, cs, h1, h2, h3, h4⟩⟩
/-- A new list of numbers. -/
def NewL (w w' : World) (v : Value) (xs : List Nat) : Prop := Ext w w' ∧ ∃ A k c, v = .slice A k c ∧ k ≤ c ∧ SlR tNat (fun b => w.heap.size ≤ b) w' A k xs
theorem OwnF.newL {w0 w : World} {A : Option Addr} {n c : Nat} {e : TypeId} {xs : List Nat} (h : OwnF w0 w A n c e 1 (xs.map nv)) (hx : ∀ x ∈ xs, x ≤ 9223372036854775807) (hle : n ≤ 140737488355328) : NewL w0 w (.slice A n c) xs :=
  ⟨h.ext, A, n, c, rfl, h.le, h.nats hx hle fun _ hb => hb⟩
theorem OwnF.cnt {w0 w : World} {A : Option Addr} {n c : Nat} {e : TypeId} {xs : List Nat} (h : OwnF w0 w A n c e 1 (xs.map nv)) : n = xs.length := by have := h.own.len; simpa using this.symm
end Go.Proofs.Ytclmnhijjhnggaa

/- Own layer, part k: maps whose keys are numbers. Nothing of the program stands here. -/
namespace Go.Proofs.Ytclmnhijjhnggaa
open Go Go.RowKit Classical

/-- What a map's entries say of a key. -/
noncomputable def look (kd : IntKind) : List MapEntry → Int → Option Value
  | [], _ => none
  | e :: r, k => if e.key = .int kd k then some e.val else look kd r k
def KeysI (kd : IntKind) (L : List MapEntry) : Prop := ∀ e ∈ L, ∃ a, e.key = .int kd a
/-- Block g is a map that says f. -/
def MapFn (kd : IntKind) (w : World) (g : Nat) (f : Int → Option Value) : Prop := ∃ (L : List MapEntry) (clock : Nat), w.heap[g]? = some (.map L.toArray clock) ∧ KeysI kd L ∧ ∀ k, look kd L k = f k
theorem MapFn.lt {kd : IntKind} {w : World} {g : Nat} {f : Int → Option Value} (h : MapFn kd w g f) : g < w.heap.size := by obtain ⟨L, c, h, _⟩ := h; exact (Array.getElem?_eq_some_iff.1 h).1
theorem MapFn.kept {kd : IntKind} {D : Nat → Prop} {w w' : World} {g : Nat} {f : Int → Option Value} (h : MapFn kd w g f) (k : Kept D w w') (hD : D g) : MapFn kd w' g f := by
  have hlt := h.lt
  obtain ⟨L, c, h1, h2⟩ := h
  exact ⟨L, c, (k.blk g hlt hD).trans h1, h2⟩
theorem MapFn.new (kd : IntKind) (w : World) : MapFn kd (w.alloc (.map #[] 0)) w.heap.size (fun _ => none) := ⟨[], 0, by unfold World.alloc; simp, fun _ h => (by cases h), fun _ => rfl⟩

section
variable {P : Program}
def intKey (P : Program) (t : TypeId) (kd : IntKind) : Bool := match P.underlying t with | some (.map k _) => (match P.underlying k with | some (.int d) => Nat.beq (kno d) (kno kd) | _ => false) | _ => false
theorem intKey_spec {t k e : TypeId} {kd : IntKind} (hm : mapOf P t = some (k, e)) (h : intKey P t kd = true) : P.underlying t = some (.map k e) ∧ P.underlying k = some (.int kd) := by
  unfold mapOf at hm
  split at hm
  · rename_i k' e' hu
    simp only [Option.some.injEq, Prod.mk.injEq] at hm
    obtain ⟨rfl, rfl⟩ := hm
    unfold intKey at h
    rw [hu] at h
    refine ⟨hu, ?_⟩
    dsimp only at h
    split at h
    · rename_i d hd; rw [hd, kno_inj h]
    · cases h
  · cases hm

theorem findNow_int {kd : IntKind} {k : Int} : ∀ (L : List MapEntry) (i : Nat), KeysI kd L →
    (look kd L k = none ∧ Instr.findNow (.int kd) (.int kd k) L i = some none) ∨
    (∃ j v, look kd L k = some v ∧ Instr.findNow (.int kd) (.int kd k) L i = some (some (i + j, v)) ∧ ∃ e, L[j]? = some e ∧ e.key = .int kd k)
  | [], i, _ => .inl ⟨rfl, rfl⟩
  | e :: r, i, h => by
    obtain ⟨a, ha⟩ := h e List.mem_cons_self
    have hr : KeysI kd r := fun x hx => h x (List.mem_cons_of_mem _ hx)
    unfold look Instr.findNow
    rw [ha]
    simp only [Instr.sameNow, if_true]
    by_cases hk : k = a
    · subst hk
      right
      refine ⟨0, e.val, by simp, by simp, e, rfl, ha⟩
    · have h1 : ¬ (Value.int kd a = Value.int kd k) := fun e => by injection e with _ e; exact hk e.symm
      have h2 : (k == a) = false := beq_eq_false_iff_ne.2 hk
      rw [if_neg h1, h2]
      rcases findNow_int r (i + 1) hr with h | ⟨j, v, h3, h4, x, h5, h6⟩
      · exact .inl h
      · refine .inr ⟨j + 1, v, h3, ?_, x, by simpa using h5, h6⟩
        rw [h4, show i + 1 + j = i + (j + 1) from by omega]

theorem run_checkKey_int {key : TypeId} {kd : IntKind} (hk : P.underlying key = some (.int kd)) (b : Bool) (k : Int) (w : World) : (Instr.checkKey b 10000 key (.int kd k)).run P w = .ok () w := by
  rw [show (10000 : Nat) = 9999 + 1 from rfl]
  unfold Instr.checkKey
  rw [Sem.run_bind, run_underlying hk]
  rfl
theorem run_findKey_int {key : TypeId} {kd : IntKind} (hk : P.underlying key = some (.int kd)) {k : Int} {L : List MapEntry} {r : Option (Nat × Value)} (h : Instr.findNow (.int kd) (.int kd k) L 0 = some r) (w : World) : (Instr.findKey key (.int kd k) L).run P w = .ok r w := by
  unfold Instr.findKey
  rw [Sem.run_bind, run_underlying hk]
  simp only [Result.andThen_ok, h, Sem.run_pure]

/-- A look into a map: the key is there, or not. -/
theorem run_lookup_int {t k e : TypeId} {kd : IntKind} {zv : Value} (hm : P.underlying t = some (.map k e)) (hk : P.underlying k = some (.int kd)) (hz : zeroOf P e = some zv) {w : World} {g : Nat} {f : Int → Option Value} (h : MapFn kd w g f) (i : Int) (ok : Bool) :
    (Instr.lookup t (.map (some g)) (.int kd i) ok).run P w = .ok (match f i with | some v => (if ok then .tuple #[v, .bool true] else v) | none => (if ok then .tuple #[zv, .bool false] else zv)) w := by
  obtain ⟨L, c, hb, hL, hf⟩ := h
  unfold Instr.lookup
  simp only [Sem.run_bind, run_underlying hm, Result.andThen_ok, MapKept.run_getObj_map hb, Sem.run_pure, run_checkKey_int hk]
  rcases findNow_int (kd := kd) (k := i) L 0 hL with ⟨h1, h2⟩ | ⟨j, v, h1, h2, _⟩
  · rw [← hf, h1, run_findKey_int hk h2]
    simp only [Result.andThen_ok, Sem.run_bind, run_zeroValue' hz, Sem.run_pure]
  · rw [← hf, h1, run_findKey_int hk h2]
    simp only [Result.andThen_ok, Sem.run_bind, Sem.run_pure]

theorem lookT {S : World → Prop} {t k e : TypeId} {kd : IntKind} {zv : Value} [hm : MapTy P t k e] [hz : ZeroTy P e zv] {g : Nat} {f : Int → Option Value} {i : Int} {K : Value → Prop} (v : Value) (h : ∀ u, S u → MapFn kd u g f) (hi : f i = some v) (kk : K (.tuple #[v, .bool true])) (hk : intKey P t kd = true := by kernel_rfl) : LookG P S t (.map (some g)) (.int kd i) true K := by
  rw [LookG_eq]
  obtain ⟨h1, h2⟩ := intKey_spec hm.h hk
  refine ⟨_, fun w hw w0 e0 => ?_, kk⟩
  subst e0
  have := run_lookup_int h1 h2 hz.h (w := w0) (show MapFn kd w0 g f from h (z w0) hw) i true
  rw [hi] at this
  rw [run_vS, this]; exact ⟨rfl, rfl⟩
theorem lookF {S : World → Prop} {t k e : TypeId} {kd : IntKind} {zv : Value} [hm : MapTy P t k e] [hz : ZeroTy P e zv] {g : Nat} {f : Int → Option Value} {i : Int} {K : Value → Prop} (h : ∀ u, S u → MapFn kd u g f) (hi : f i = none) (kk : K (.tuple #[zv, .bool false])) (hk : intKey P t kd = true := by kernel_rfl) : LookG P S t (.map (some g)) (.int kd i) true K := by
  rw [LookG_eq]
  obtain ⟨h1, h2⟩ := intKey_spec hm.h hk
  refine ⟨_, fun w hw w0 e0 => ?_, kk⟩
  subst e0
  have := run_lookup_int h1 h2 hz.h (w := w0) (show MapFn kd w0 g f from h (z w0) hw) i true
  rw [hi] at this
  rw [run_vS, this]; exact ⟨rfl, rfl⟩
/-- .. the value alone. -/
theorem look1 {S : World → Prop} {t k e : TypeId} {kd : IntKind} {zv : Value} [hm : MapTy P t k e] [hz : ZeroTy P e zv] {g : Nat} {f : Int → Option Value} {i : Int} {K : Value → Prop} (v : Value) (h : ∀ u, S u → MapFn kd u g f) (hi : (f i).getD zv = v) (kk : K v) (hk : intKey P t kd = true := by kernel_rfl) : LookG P S t (.map (some g)) (.int kd i) false K := by
  rw [LookG_eq]
  obtain ⟨h1, h2⟩ := intKey_spec hm.h hk
  refine ⟨v, fun w hw w0 e0 => ?_, kk⟩
  subst e0
  have := run_lookup_int h1 h2 hz.h (w := w0) (show MapFn kd w0 g f from h (z w0) hw) i false
  rw [run_vS, this]
  cases hf : f i with
  | none => rw [hf] at hi; exact ⟨hi, rfl⟩
  | some x => rw [hf] at hi; exact ⟨hi, rfl⟩

/-! ### a map's entry set -/
def fset (f : Int → Option Value) (k : Int) (v : Value) : Int → Option Value := fun j => if j = k then some v else f j
theorem look_push {kd : IntKind} {x : MapEntry} {i : Int} (hx : x.key = .int kd i) : ∀ (L : List MapEntry), look kd L i = none → ∀ j, look kd (L ++ [x]) j = fset (look kd L) i x.val j
  | [], _, j => by
    unfold fset
    show (if x.key = .int kd j then some x.val else none) = if j = i then some x.val else none
    rw [hx]
    by_cases h : j = i
    · subst h; simp
    · have : ¬ (Value.int kd i = Value.int kd j) := fun e => by injection e with _ e; exact h e.symm
      rw [if_neg this, if_neg h]
  | e :: r, hn, j => by
    rw [look] at hn
    split at hn
    · cases hn
    rename_i hne
    rw [List.cons_append, look, look_push hx r hn j]
    unfold fset
    rw [look]
    by_cases h : j = i
    · subst h; rw [if_neg hne, if_pos rfl, if_pos rfl]
    · simp only [if_neg h]
theorem look_modify {kd : IntKind} {i : Int} {v : Value} : ∀ (L : List MapEntry) (j : Nat) (x : MapEntry), L[j]? = some x → x.key = .int kd i → (∀ m y, m < j → L[m]? = some y → y.key ≠ .int kd i) →
    ∀ k, look kd (L.modify j fun e => { e with key := .int kd i, val := v }) k = fset (look kd L) i v k
  | [], j, x, h, _, _, k => by simp at h
  | e :: r, 0, x, h, hx, _, k => by
    simp at h; subst h
    show (if Value.int kd i = .int kd k then some v else look kd r k) = fset (look kd (e :: r)) i v k
    unfold fset
    by_cases hk : k = i
    · subst hk; simp
    · have : ¬ (Value.int kd i = Value.int kd k) := fun e => by injection e with _ e; exact hk e.symm
      rw [if_neg this, if_neg hk, look, hx, if_neg this]
  | e :: r, j + 1, x, h, hx, hn, k => by
    have hne := hn 0 e (by omega) rfl
    show (if e.key = .int kd k then some e.val else look kd (r.modify j _) k) = fset (look kd (e :: r)) i v k
    rw [look_modify r j x (by simpa using h) hx (fun m y hm hy => hn (m + 1) y (by omega) (by simpa using hy)) k]
    unfold fset
    by_cases hk : k = i
    · subst hk; rw [if_neg hne, if_pos rfl, if_pos rfl]
    · simp only [if_neg hk]; rfl
theorem findNow_first {kd : IntKind} {k : Int} : ∀ (L : List MapEntry) (i j : Nat) (v : Value), KeysI kd L → Instr.findNow (.int kd) (.int kd k) L i = some (some (i + j, v)) → ∀ m y, m < j → L[m]? = some y → y.key ≠ .int kd k
  | [], i, j, v, _, h => by simp [Instr.findNow] at h
  | e :: r, i, j, v, hL, h => by
    obtain ⟨a, ha⟩ := hL e List.mem_cons_self
    unfold Instr.findNow at h
    rw [ha] at h
    simp only [Instr.sameNow, if_true] at h
    by_cases hk : k = a
    · subst hk
      simp at h
      intro m y hm; omega
    · have h2 : (k == a) = false := beq_eq_false_iff_ne.2 hk
      rw [h2] at h
      intro m y hm hy
      cases m with
      | zero => simp at hy; subst hy; rw [ha]; intro e; injection e with _ e; exact hk e.symm
      | succ m =>
        have hj : i + j = i + 1 + (j - 1) := by omega
        rw [hj] at h
        exact findNow_first r (i + 1) (j - 1) v (fun x hx => hL x (List.mem_cons_of_mem _ hx)) h m y (by omega) (by simpa using hy)

theorem mupd {t k e : TypeId} {kd : IntKind} [hm : MapTy P t k e] {g : Nat} {f : Int → Option Value} {i : Int} {v : Value} {w : World} {K : VK} (h : MapFn kd w g f) (kk : ∀ w', MapFn kd w' g (fset f i v) → Kept (fun b => b ≠ g) w w' → w'.heap.size = w.heap.size → K undef w') (hk : intKey P t kd = true := by kernel_rfl) : MUpdP P t (.map (some g)) (.int kd i) v K w := by
  rw [MUpdP_eq]
  intro w0 hw
  subst hw
  obtain ⟨h1, h2⟩ := intKey_spec hm.h hk
  obtain ⟨L, c, hb, hL, hf⟩ := h
  have hb : w0.heap[g]? = some (.map L.toArray c) := hb
  have hlt := (Array.getElem?_eq_some_iff.1 hb).1
  have key : ∀ (L' : List MapEntry) (c' : Nat), KeysI kd L' → (∀ j, look kd L' j = fset (look kd L) i v j) → (uS (Instr.mapUpdate t (.map (some g)) (.int kd i) v)).run P w0 = .ok .skip { w0 with heap := w0.heap.setIfInBounds g (.map L'.toArray c') } → uponZ P K ((uS (Instr.mapUpdate t (.map (some g)) (.int kd i) v)).run P w0) := by
    intro L' c' hL' hf' hr
    rw [hr]
    refine kk (z { w0 with heap := w0.heap.setIfInBounds g (.map L'.toArray c') }) ⟨L', c', by simp [z, hlt], hL', fun j => ?_⟩ ⟨rfl, rfl, rfl, by simp [z], fun b hb1 hne => ?_⟩ (by simp [z])
    · rw [hf']; unfold fset; rw [hf]
    · show (w0.heap.setIfInBounds g _)[b]? = w0.heap[b]?
      rw [Array.getElem?_setIfInBounds_ne (fun e => hne e.symm)]
  rcases findNow_int (kd := kd) (k := i) L 0 hL with ⟨h3, h4⟩ | ⟨j, v0, h3, h4, x, h5, h6⟩
  · refine key (L ++ [{ key := .int kd i, val := v, born := c }]) (c + 1) (fun y hy => ?_) (look_push (x := { key := .int kd i, val := v, born := c }) rfl L h3) ?_
    · rcases List.mem_append.1 hy with h | h
      · exact hL y h
      · simp at h; subst h; exact ⟨i, rfl⟩
    · unfold uS Instr.mapUpdate
      simp only [Sem.run_bind, run_underlying h1, Result.andThen_ok, MapKept.run_getObj_map hb, run_checkKey_int h2, run_findKey_int h2 h4, MapKept.run_setObj_map _ hb, Sem.run_pure]
      simp
  · have hfst := findNow_first L 0 j v0 hL h4
    rw [Nat.zero_add] at h4
    refine key (L.modify j fun e => { e with key := .int kd i, val := v }) c (fun y hy => ?_) (look_modify L j x h5 h6 hfst) ?_
    · obtain ⟨m, hm'⟩ := List.getElem?_of_mem hy
      rw [List.getElem?_modify] at hm'
      cases hLm : L[m]? with
      | none => rw [hLm] at hm'; cases hm'
      | some y0 =>
        rw [hLm] at hm'
        simp only [Option.map_eq_map, Option.map_some, Option.some.injEq] at hm'
        subst hm'
        split
        · exact ⟨i, rfl⟩
        · exact hL y0 (List.mem_of_getElem? hLm)
    · unfold uS Instr.mapUpdate
      have hkey : ((L.toArray[j]?).map (·.key)).getD (.int kd i) = .int kd i := by simp [h5, h6]
      have hsame : Instr.sameBits 10000 (.int kd i) (.int kd i) = true := by simp [Instr.sameBits]
      simp only [Sem.run_bind, run_underlying h1, Result.andThen_ok, MapKept.run_getObj_map hb, run_checkKey_int h2, run_findKey_int h2 h4, hkey, Instr.keyThatStays, hsame, if_true, Sem.run_pure, MapKept.run_setObj_map _ hb]
      simp
end
end Go.Proofs.Ytclmnhijjhnggaa

/- Own layer, part l: ranges over functions. Nothing of the program stands here. -/
namespace Go.Proofs.Ytclmnhijjhnggaa
open Go Go.RowKit

section
variable {P : Program}
def LoopAt (w : World) (l : Nat) (r : Loop) : Prop := w.heap[l]? = some (.loop r)
def updZ : Fr → List (Nat × Value) → Fr
  | F, [] => F
  | F, p :: r => updZ (upd F p.1 p.2) r
theorem fold_frame : ∀ (l : List (Nat × Value)) (tmps : Array Value) (F : Fr), (∀ t, tmps.getD t undef = F t) → (∀ p ∈ l, p.1 < tmps.size) →
    (l.foldl (fun (t : Array Value) (p : Nat × Value) => t.setIfInBounds p.1 p.2) tmps).size = tmps.size ∧ ∀ t, (l.foldl (fun (t : Array Value) (p : Nat × Value) => t.setIfInBounds p.1 p.2) tmps).getD t undef = updZ F l t
  | [], tmps, F, h, _ => ⟨rfl, h⟩
  | p :: l, tmps, F, h, hb => by
    have h1 : ∀ t, (tmps.setIfInBounds p.1 p.2).getD t undef = upd F p.1 p.2 t := fun t => by
      show _ = (bif Nat.beq t p.1 then p.2 else F t)
      cases hbq : Nat.beq t p.1 with
      | true => obtain rfl := Nat.eq_of_beq_eq_true hbq; simp [hb p List.mem_cons_self]
      | false =>
        have hne : p.1 ≠ t := fun e => by rw [← e, Nat.beq_refl] at hbq; cases hbq
        rw [← h t]; simp [Array.getElem?_setIfInBounds_ne hne]
    obtain ⟨h2, h3⟩ := fold_frame l (tmps.setIfInBounds p.1 p.2) (upd F p.1 p.2) h1 (fun q hq => by simpa using hb q (List.mem_cons_of_mem _ hq))
    exact ⟨by rw [List.foldl_cons, h2]; simp, fun t => by rw [List.foldl_cons, h3]; rfl⟩

/-- The end of a round. -/
structure RoundE (l : Nat) (K : VK) (e : Exit) (w : World) : Prop where
  of_ ::
  un_ : ∃ r, LoopAt w l r ∧ match e with
    | .normal => K (.bool true) (w.putObj l (.loop { r with state := .ready, pending := none }))
    | .ret => K (.bool false) (w.putObj l (.loop { r with state := .done, pending := some .ret }))
    | .exit id => K (.bool false) (w.putObj l (.loop { r with state := .done, pending := some (.exit id) }))
    | _ => False
theorem roundN {l : Nat} {K : VK} {w : World} (r : Loop) (h : LoopAt w l r) (k : K (.bool true) (w.putObj l (.loop { r with state := .ready, pending := none }))) : RoundE l K .normal w := ⟨r, h, k⟩
theorem roundR {l : Nat} {K : VK} {w : World} (r : Loop) (h : LoopAt w l r) (k : K (.bool false) (w.putObj l (.loop { r with state := .done, pending := some .ret }))) : RoundE l K .ret w := ⟨r, h, k⟩
theorem roundX {l id : Nat} {K : VK} {w : World} (r : Loop) (h : LoopAt w l r) (k : K (.bool false) (w.putObj l (.loop { r with state := .done, pending := some (.exit id) }))) : RoundE l K (.exit id) w := ⟨r, h, k⟩
def Kround (l : Nat) (K : VK) : KK := fun e _ _ w => RoundE l K e w
/-- Between the assignment to the loop's variables and its body. -/
structure MidP (P : Program) (l : Nat) (r : Loop) (K : VK) (F : Fr) (ds : List Deferred) (w : World) : Prop where
  of_ ::
  un_ : LoopAt w l r ∧ V P r.body (Kround l K) F ds (w.putObj l (.loop { r with state := .busy }))
def Kmid (P : Program) (l : Nat) (r : Loop) (K : VK) : KK := fun e F ds w => match e with | .normal => MidP P l r K F ds w | _ => False
theorem mid {l : Nat} {r : Loop} {K : VK} {F : Fr} {ds : List Deferred} {w : World} (h : LoopAt w l r) (k : V P r.body (Kround l K) F ds (w.putObj l (.loop { r with state := .busy }))) : MidP P l r K F ds w := ⟨h, k⟩

/-- A call of yield: one round. -/
theorem yield_rule {l : Nat} {r : Loop} {g : Operand} {args : List Value} {K : VK} {w : World} {F : Fr} (hl : LoopAt w l r) (hr : r.state = .ready) (hsz : args.length = r.params.toList.length) (hF : ∀ t, r.tmps.getD t undef = F t)
    (hwf : wfC r.tmps.size (.rangeFunc g r.params r.assign r.body) = true)
    (h : V P r.assign (Kmid P l r K) (updZ F (r.params.toList.zip args)) [] w) : YieldP P l args.toArray K w := by
  rw [YieldP_eq]
  intro w0 hw
  subst hw
  have hl0 : w0.heap[l]? = some (.loop r) := hl
  obtain ⟨⟨hw1, hw2⟩, hps⟩ : ((wfC r.tmps.size r.assign && wfC r.tmps.size r.body) = true ∧ (noRange r.assign && noRange r.body) = true) ∧ (r.params.toList.all fun t => Nat.blt t r.tmps.size) = true := by
    have := bothT hwf; exact ⟨bothT this.1, this.2⟩
  obtain ⟨hwa, hwb⟩ := bothT hw1
  obtain ⟨hna, hnb⟩ := bothT hw2
  rw [run_yield hl0 (by simpa using hsz)]
  show RoundIn Fence.wide 0 P l r.fn _ r.assign r.body w0 _
  have hfold : ((r.params.zip args.toArray).foldl (fun tmps (t, a) => tmps.setIfInBounds t a) r.tmps) = (r.params.toList.zip args).foldl (fun (t : Array Value) (p : Nat × Value) => t.setIfInBounds p.1 p.2) r.tmps := by
    rw [← Array.foldl_toList, Array.toList_zip]
  have hlt : ∀ p ∈ r.params.toList.zip args, p.1 < r.tmps.size := fun p hp => by
    have := List.all_eq_true.1 hps p.1 (List.of_mem_zip hp).1
    simpa using this
  obtain ⟨f1, f2⟩ := fold_frame (r.params.toList.zip args) r.tmps F hF hlt
  rw [hfold]
  refine roundIn_of_wpIn (F := Fence.wide) trivial (wpIn_mono (V_sound (n := r.tmps.size) r.assign hwa (Kmid P l r K) _ [] w0 (some l) _ (.inr hna) ⟨f1, f2, rfl⟩ h) fun e a' w' hq => ?_)
  obtain ⟨F', hg', hk⟩ := hq
  cases e with
  | normal =>
    obtain ⟨⟨hl1, hbody⟩⟩ := hk
    have hl1 : w'.heap[l]? = some (.loop r) := hl1
    refine ⟨_, run_beginRound hl1 hr, ?_⟩
    refine wpIn_mono (V_sound (n := r.tmps.size) r.body hwb (Kround l K) F' _ (w'.putObj l (.loop { r with state := .busy })) (some l) a' (.inr hnb) hg' hbody) fun e a2 w2 hq2 => ?_
    obtain ⟨F2, _, ⟨⟨r2, hl2, hk2⟩⟩⟩ := hq2
    have hl2 : w2.heap[l]? = some (.loop r2) := hl2
    cases e with
    | normal => exact ⟨_, _, run_endRound none hl2, _, rfl, hk2⟩
    | ret => exact ⟨_, _, run_endRound (some .ret) hl2, _, rfl, hk2⟩
    | exit id => exact ⟨_, _, run_endRound (some (.exit id)) hl2, _, rfl, hk2⟩
    | _ => exact hk2.elim
  | _ => exact hk.elim

/-- Behind the loop. -/
def RangeE (K : KK) (F : Fr) (ds : List Deferred) (pending : Option Code) (w : World) : Prop := match pending with
  | none => K .normal F ds w
  | some .ret => K .ret F ds w
  | some (.exit id) => K (.exit id) F ds w
  | some _ => False
abbrev markD (w : World) : Deferred := { target := .collected w.heap.size, args := #[] }
abbrev loopR (w : World) (fn : FuncId) (tmps : Array Value) (ps : Array Tmp) (assign body : Code) : Loop := { state := .ready, pending := none, fn, tmps, params := ps, assign, body, defers := w.heap.size }

theorem range {g : Operand} {ps : Array Tmp} {assign body : Code} {K : KK} {F : Fr} {ds : List Deferred} {w : World} {gf : FuncId} {lb : Array Value} [he : Enters P gf] (hg : ev F g = .func (.func gf) #[] lb)
    (h : ∀ (fn : FuncId) (tmps : Array Value) (w1 : World) (R : Loop), R = loopR w fn tmps ps assign body → (∀ t, tmps.getD t undef = F t) → wfC tmps.size (.rangeFunc g ps assign body) = true → Ext w w1 → w1.heap.size = w.heap.size + 2 → w1.heap[w.heap.size]? = some (.deferred (some [])) →
      LoopAt w1 (w.heap.size + 1) R →
      CallZ P gf (#[.func (.yield (w.heap.size + 1)) #[] #[]] ++ lb) w1 (fun _ w2 => ∃ r, LoopAt w2 (w.heap.size + 1) r ∧ r.state ≠ .busy ∧ RangeE K F (markD w :: ds) r.pending (w2.putObj (w.heap.size + 1) (.loop { r with state := .exhausted })))) :
    RangeH P (.rangeFunc g ps assign body) K F ds w := by
  rw [RangeH_eq]
  intro a w0 hw hF hd hwf
  subst hw; subst hd
  refine wpIn_rangeFunc (F := Fw none) (fun fn hfn => ?_)
  have hev : a.eval = ev F := funext fun x => by
    cases x with
    | tmp t => exact hF t
    | _ => rfl
  have hga : a.eval g = .func (.func gf) #[] lb := by rw [hev]; exact hg
  obtain ⟨W1, hW1⟩ : ∃ W1, W1 = (w0.alloc (.deferred (some []))).alloc (.loop (loopR w0 fn a.tmps ps assign body)) := ⟨_, rfl⟩
  have hent := run_enterLoop_outer (P := P) (w := w0) fn a.tmps ps assign body
  rw [← hW1] at hent
  refine ⟨w0.heap.size + 1, [{ target := .collected w0.heap.size, args := #[] }], W1, { target := .fn (.func gf) lb, args := #[.func (.yield (w0.heap.size + 1)) #[] #[]] }, W1, gf, #[.func (.yield (w0.heap.size + 1)) #[] #[]] ++ lb, W1, hent, ?_, fun _ _ => trivial, ?_, fun hh => (by cases hh), ?_⟩
  · simp only [resolve, hga]
    simp [go_sem]
  · simp [invoke, go_sem, he.h]
  · have h1 := h fn a.tmps (z W1) _ rfl hF hwf (by rw [hW1]; exact (Kept.alloc _ (z w0) _).trans (Kept.alloc _ _ _)) (by rw [hW1]; simp) (by
      rw [hW1]
      show ((w0.alloc (.deferred (some []))).alloc (.loop (loopR w0 fn a.tmps ps assign body))).heap[w0.heap.size]? = _
      rw [Below.heap_alloc _ _ _ (by simp)]
      exact World.alloc_heap_new w0 _) (by
      have := World.alloc_heap_new (w0.alloc (.deferred (some []))) (.loop (loopR w0 fn a.tmps ps assign body))
      rw [World.size_alloc, ← hW1] at this
      exact this)
    refine (h1 _ rfl).mono ?_
    rintro e w3 ⟨v, rfl, r, hl, hb, hE⟩
    have hl : w3.heap[w0.heap.size + 1]? = some (.loop r) := hl
    refine ⟨r.pending, _, run_endLoop hl hb, ?_⟩
    cases hp : r.pending with
    | none => rw [hp] at hE; exact ⟨rfl, hE⟩
    | some c =>
      rw [hp] at hE
      cases c with
      | ret => exact wpIn_ret ⟨rfl, hE⟩
      | exit id => exact wpIn_exit ⟨rfl, hE⟩
      | _ => exact hE.elim

/-- The return of a function that has ranged over a function. -/
theorem retM {rs : List ResultVar} {F : Fr} {R : VK} {D : Nat} {w : World} (hD : w.heap[D]? = some (.deferred (some []))) (h : VRes P F (w.putObj D (.deferred none)) rs [] (fun vs => R (resV vs) (w.putObj D (.deferred none)))) : RetP P rs F [{ target := .collected D, args := #[] }] R w := by
  rw [RetP_eq]
  refine ⟨_, ?_, h⟩
  simp only [shutMarks, hD]
  rfl
/-- A block is turned that is no cells. -/
theorem Kept.putObj (w : World) (l : Nat) (o : Obj) : Kept (fun b => b ≠ l) w (w.putObj l o) := ⟨rfl, rfl, rfl, by simp, fun i _ hD => World.putObj_heap_other hD⟩
theorem LoopAt.kept {D : Nat → Prop} {w w' : World} {l : Nat} {r : Loop} (h : LoopAt w l r) (k : Kept D w w') (hD : D l) : LoopAt w' l r := (k.blk l (Array.getElem?_eq_some_iff.1 h).1 hD).trans h
theorem LoopAt.put {w : World} {l : Nat} {r : Loop} (h : LoopAt w l r) (r' : Loop) : LoopAt (w.putObj l (.loop r')) l r' := World.putObj_heap_same (Array.getElem?_eq_some_iff.1 h).1
theorem LoopAt.lt {w : World} {l : Nat} {r : Loop} (h : LoopAt w l r) : l < w.heap.size := (Array.getElem?_eq_some_iff.1 h).1
/-! The same, with a name for the world that comes. -/
theorem mid' {l : Nat} {r : Loop} {K : VK} {F : Fr} {ds : List Deferred} {w : World} (h : LoopAt w l r) (k : ∀ w', Kept (fun b => b ≠ l) w w' → w'.heap.size = w.heap.size → LoopAt w' l { r with state := .busy } → V P r.body (Kround l K) F ds w') : MidP P l r K F ds w :=
  mid h (k _ (Kept.putObj _ _ _) (by simp) (h.put _))
theorem roundN' {l : Nat} {K : VK} {w : World} (r : Loop) (h : LoopAt w l r) (k : ∀ w', Kept (fun b => b ≠ l) w w' → LoopAt w' l { r with state := .ready, pending := none } → K (.bool true) w') : RoundE l K .normal w := roundN r h (k _ (Kept.putObj _ _ _) (h.put _))
theorem roundR' {l : Nat} {K : VK} {w : World} (r : Loop) (h : LoopAt w l r) (k : ∀ w', Kept (fun b => b ≠ l) w w' → LoopAt w' l { r with state := .done, pending := some .ret } → K (.bool false) w') : RoundE l K .ret w := roundR r h (k _ (Kept.putObj _ _ _) (h.put _))
theorem roundX' {l id : Nat} {K : VK} {w : World} (r : Loop) (h : LoopAt w l r) (k : ∀ w', Kept (fun b => b ≠ l) w w' → LoopAt w' l { r with state := .done, pending := some (.exit id) } → K (.bool false) w') : RoundE l K (.exit id) w := roundX r h (k _ (Kept.putObj _ _ _) (h.put _))
/-- The loop has come to its end. -/
theorem range_end {K : KK} {F : Fr} {ds : List Deferred} {l : Nat} {w : World} (r : Loop) (h : LoopAt w l r) (hs : r.state ≠ .busy) (k : ∀ w', Kept (fun b => b ≠ l) w w' → RangeE K F ds r.pending w') :
    ∃ r, LoopAt w l r ∧ r.state ≠ .busy ∧ RangeE K F ds r.pending (w.putObj l (.loop { r with state := .exhausted })) := ⟨r, h, hs, k _ (Kept.putObj _ _ _)⟩
end
end Go.Proofs.Ytclmnhijjhnggaa

/- Own layer, part m: what an argument that reads as data is in this layer's words. Nothing of the program stands here. -/
namespace Go.Proofs.Ytclmnhijjhnggaa
open Go Go.RowKit

abbrev AnyB : Nat → Prop := fun _ => True
/-- Whatever of type t reads as data, with n steps, reads as a value of a's. -/
structure RdN {α : Type} (P : Program) (n : Nat) (t : TypeId) (a : Ty α) : Prop where
  h : ∀ {H : Type} {enc : TypeId × Value → H} {W : World} {cs : List Value} {x : DataW H × List MemPlace}, DataW.trod enc P W 0 (fun _ => true) true n t cs = some x → (x.1.weights P t).all (· ≤ reachBytes) = true → ∃ y, a.rep AnyB W cs y
class Rd {α : Type} (P : Program) (t : TypeId) (a : Ty α) : Prop where
  h : ∀ n, RdN P n t a

section
variable {P : Program} {α β : Type} {a : Ty α} {b : Ty β}

theorem intOf_spec {t : TypeId} {k : IntKind} (h : intOf P t = some k) : P.underlying t = some (.int k) := by
  unfold intOf at h; split at h <;> simp_all
theorem isBoo_spec {t : TypeId} (h : isBoo P t = true) : P.underlying t = some .bool := by
  unfold isBoo at h; split at h <;> simp_all
instance rd_int {t : TypeId} [h : IntTy P t .i64] : Rd P t tInt := ⟨fun n => ⟨fun {H enc W cs x} hx _ => by
  obtain ⟨k, rfl, _, hw⟩ := DataW.trod_int (intOf_spec h.h) hx
  refine ⟨k, rfl, ?_⟩
  simp [Lit.wf, IntKind.min, IntKind.max, IntKind.signed, IntKind.bits] at hw
  unfold I64; omega⟩⟩
/-- Numbers of another kind. -/
def tK (k : IntKind) : Ty Int where
  sz := 1
  rep _ _ cs x := cs = [.int k x] ∧ (Lit.int k x).wf = true
  len h := by rw [h.1]; rfl
  keep _ h := h
  more _ h := h
instance rd_k {t : TypeId} {k : IntKind} [h : IntTy P t k] : Rd P t (tK k) := ⟨fun n => ⟨fun {H enc W cs x} hx _ => by
  obtain ⟨z, rfl, _, hw⟩ := DataW.trod_int (intOf_spec h.h) hx
  exact ⟨z, rfl, hw⟩⟩⟩
instance rd_bool {t : TypeId} [h : BoolTy P t] : Rd P t tBool := ⟨fun n => ⟨fun {H enc W cs x} hx _ => by
  have key : ∃ bb, cs = [.bool bb] := by
    cases n with
    | zero => simp [DataW.trod] at hx
    | succ n =>
      unfold DataW.trod at hx
      rw [isBoo_spec h.h] at hx
      split at hx <;> simp_all
  exact key⟩⟩

theorem list_choose {Q : Nat → α → Prop} : ∀ (n : Nat), (∀ i, i < n → ∃ y, Q i y) → ∃ ys : List α, ys.length = n ∧ ∀ k y, ys[k]? = some y → Q k y
  | 0, _ => ⟨[], rfl, fun k y h => by simp at h⟩
  | n + 1, h => by
    obtain ⟨ys, h1, h2⟩ := list_choose n fun i hi => h i (by omega)
    obtain ⟨y, hy⟩ := h n (by omega)
    refine ⟨ys ++ [y], by simp [h1], fun k z hz => ?_⟩
    by_cases hk : k < n
    · rw [List.getElem?_append_left (by omega)] at hz; exact h2 k z hz
    · rw [List.getElem?_append_right (by omega)] at hz
      have : k = n := by
        have := (List.getElem?_eq_some_iff.1 hz).1
        simp at this; omega
      subst this
      simp [h1] at hz; subst hz; exact hy
theorem cells_at {w : World} {A : Addr} {n : Nat} {cs : List Value} (h : w.cells? 0 A n = some cs) : cs.length = n ∧ ∀ j v, cs[j]? = some v → w.cell? (A.add j) = some v := by
  unfold World.cells? at h
  rw [if_pos (Nat.zero_le _)] at h
  refine ⟨by simpa using mapM_some_length h, fun j v hv => ?_⟩
  have hl := mapM_some_length h
  have hj : j < n := by have := (List.getElem?_eq_some_iff.1 hv).1; simp at hl; omega
  rw [mapM_some_get h j j (by simp [hj]), hv]
theorem weightsAll_mem {H : Type} {e : TypeId} : ∀ {l : List (DataW H)} {d : DataW H}, d ∈ l → (DataW.weightsAll P e l).all (· ≤ reachBytes) = true → (d.weights P e).all (· ≤ reachBytes) = true
  | x :: r, d, hd, h => by
    unfold DataW.weightsAll at h
    rw [List.all_append, Bool.and_eq_true] at h
    rcases List.mem_cons.1 hd with rfl | hd
    · exact h.1
    · exact weightsAll_mem hd h.2
theorem rd_slice {n : Nat} {t e : TypeId} {sz by_ : Nat} [hs : SliceTy P t e sz] [hb : BytesTy P e by_] (hpos : 0 < a.sz) (hr : RdN P n e a) (hby : 0 < by_) : RdN P (n + 1) t (tSl a hpos) := ⟨fun {H enc W cs x} hx hw => by
  obtain ⟨hu, i, hi, _⟩ := sliceOf_spec hs.h
  rcases DataW.trod_slice hu hx with ⟨rfl, rfl⟩ | ⟨A, len, cap, elems, rest, m, hm, rfl, rfl, _, hle, _, hlen, hel, hsp, _⟩
  · exact ⟨[], none, 0, 0, rfl, .nil, Nat.le_refl _⟩
  · obtain rfl : n = m := by omega
    dsimp only at hw
    rw [DataW.weights, hu] at hw
    dsimp only at hw
    rw [List.all_cons, Bool.and_eq_true, List.all_append, Bool.and_eq_true] at hw
    obtain ⟨hw1, hw2, _⟩ := hw
    have hbe : P.bytesOf e = by_ := by have := hb.h; unfold bytesOf at this; unfold Program.bytesOf; rw [this]; rfl
    rw [hbe, List.length_map, List.length_map, decide_eq_true_eq] at hw1
    have hbound : len ≤ 140737488355328 := by
      have h1 : len * 1 ≤ (elems.length + rest.length) * by_ := Nat.mul_le_mul (by omega) hby
      have h2 : reachBytes ≤ 140737488355328 := by decide
      omega
    have hel' : ∀ k, k < len → ∃ y, ∃ cs, W.cells? 0 (A.add (k * P.cellsOf e)) (P.cellsOf e) = some cs ∧ a.rep AnyB W cs y := fun k hk => by
      have h1 := hel k hk
      have hk' : k < elems.length := by omega
      rw [List.getElem?_eq_getElem hk', Option.bind_eq_some_iff] at h1
      obtain ⟨c, hc, ht⟩ := h1
      obtain ⟨y, hy⟩ := hr.h ht (weightsAll_mem (List.mem_map_of_mem (List.getElem_mem hk')) hw2)
      exact ⟨y, c, hc, hy⟩
    obtain ⟨ys, hyl, hy⟩ := list_choose len hel'
    refine ⟨ys, some A, len, cap, rfl, ⟨hyl.symm, hbound, fun k y hky => ?_⟩, hle⟩
    obtain ⟨c, hc, hrep⟩ := hy k y hky
    obtain ⟨hc1, hc2⟩ := cells_at hc
    have hca : P.cellsOf e = a.sz := by rw [← hc1]; exact a.len hrep
    -- the first element's first cell tells the address's form
    have h0 : 0 < len := by have := (List.getElem?_eq_some_iff.1 hky).1; omega
    obtain ⟨y0, c0, hc0, hrep0⟩ := hel' 0 h0
    obtain ⟨hl0, hcell0⟩ := cells_at hc0
    have hl0' : 0 < c0.length := by omega
    have hsp0 := World.cell?_spot (hcell0 0 _ (List.getElem?_eq_getElem hl0'))
    obtain ⟨bk, off, spot⟩ := A
    have hspot : spot = none := by simpa [Addr.add] using hsp0
    subst hspot
    refine ⟨bk, off, c, rfl, trivial, fun j v hv => ?_, hrep⟩
    have := hc2 j v hv
    rw [show (⟨bk, off, none⟩ : Addr) = ad bk off from rfl, add_ad, add_ad, hca] at this
    exact this⟩
instance rd_sl {t e : TypeId} {sz by_ : Nat} [hs : SliceTy P t e sz] [hb : BytesTy P e by_] [hr : Rd P e a] {hpos : 0 < a.sz} [hby : NeZero by_] : Rd P t (tSl a hpos) := ⟨fun n => by
  cases n with
  | zero => exact ⟨fun {H enc W cs x} hx _ => by simp [DataW.trod] at hx⟩
  | succ n => exact rd_slice hpos (hr.h n) (Nat.pos_of_ne_zero hby.out)⟩

/-- A struct's fields, from cell o on. -/
structure RdF (P : Program) (n : Nat) (fs : List Field) (o : Nat) (a : Ty α) : Prop where
  h : ∀ {H : Type} {enc : TypeId × Value → H} {W : World} {cs : List Value}, (∀ f ∈ fs, ∃ x, DataW.trod enc P W 0 (fun _ => true) true n f.type ((cs.drop f.offset).take (P.cellsOf f.type)) = some x ∧ (x.1.weights P f.type).all (· ≤ reachBytes) = true) →
    cs.length = o + a.sz → ∃ y, a.rep AnyB W (cs.drop o) y
theorem take_same {l : List Value} {n m : Nat} (h : (l.take n).length = m) : l.take n = l.take m := by
  rw [List.length_take] at h
  by_cases hn : n ≤ l.length
  · rw [Nat.min_eq_left hn] at h; rw [h]
  · rw [Nat.min_eq_right (by omega)] at h
    rw [List.take_of_length_le (by omega), List.take_of_length_le (by omega)]
theorem RdF.one {n : Nat} {f : Field} {o : Nat} (hr : RdN P n f.type a) (ho : f.offset = o) : RdF P n [f] o a := ⟨fun {H enc W cs} hf hl => by
  obtain ⟨x, hx, hw⟩ := hf f List.mem_cons_self
  obtain ⟨y, hy⟩ := hr.h hx hw
  rw [ho] at hy
  have h2 := take_same (a.len hy)
  rw [h2, List.take_of_length_le (by rw [List.length_drop]; omega)] at hy
  exact ⟨y, hy⟩⟩
theorem RdF.cons {n : Nat} {f : Field} {fs : List Field} {o : Nat} (hr : RdN P n f.type a) (ho : f.offset = o) (hs : RdF P n fs (o + a.sz) b) : RdF P n (f :: fs) o (tPair a b) := ⟨fun {H enc W cs} hf hl => by
  obtain ⟨x, hx, hw⟩ := hf f List.mem_cons_self
  obtain ⟨y, hy⟩ := hr.h hx hw
  rw [ho] at hy
  have h2 := take_same (a.len hy)
  rw [h2] at hy
  obtain ⟨z, hz⟩ := hs.h (fun g hg => hf g (List.mem_cons_of_mem _ hg)) (by rw [hl]; show o + (a.sz + b.sz) = _; omega)
  refine ⟨(y, z), (cs.drop o).take a.sz, cs.drop (o + a.sz), ?_, hy, hz⟩
  rw [← List.drop_drop, List.take_append_drop]⟩
theorem weightsEach_mem {H : Type} : ∀ {ts : List TypeId} {ds : List (DataW H)} {j : Nat} {t : TypeId} {d : DataW H}, ts[j]? = some t → ds[j]? = some d → (DataW.weightsEach P ts ds).all (· ≤ reachBytes) = true → (d.weights P t).all (· ≤ reachBytes) = true := fun h1 h2 h => by
  rw [List.all_eq_true] at h ⊢
  exact fun n hn => h n (DataW.weights_mem_each h1 h2 n hn)
theorem rd_struct {n : Nat} {t : TypeId} {fs : Array Field} (hu : P.underlying t = some (.struct fs)) (hc : P.cellsOf t = a.sz) (hf : RdF P n fs.toList 0 a) : RdN P (n + 1) t a := ⟨fun {H enc W cs x} hx hw => by
  obtain ⟨xs, m, hm, rfl, hl, hxl, hxs⟩ := DataW.trod_struct hu hx
  obtain rfl : n = m := by omega
  dsimp only at hw
  rw [DataW.weights, hu] at hw
  dsimp only at hw
  obtain ⟨y, hy⟩ := hf.h (W := W) (cs := cs) (enc := enc) (fun f hfm => by
    obtain ⟨i, hi⟩ := List.getElem?_of_mem hfm
    have hi' : fs[i]? = some f := by simpa using hi
    have h1 := hxs i f hi'
    have hil : i < xs.length := by have := (Array.getElem?_eq_some_iff.1 hi').1; omega
    rw [List.getElem?_eq_getElem hil] at h1
    exact ⟨_, h1, weightsEach_mem (j := i) (by rw [List.getElem?_map, hi]; rfl) (by rw [List.getElem?_map, List.getElem?_eq_getElem hil]; rfl) hw⟩) (by rw [Nat.zero_add, hl, hc])
  exact ⟨y, by rwa [List.drop_zero] at hy⟩⟩
theorem Rd.struct {t : TypeId} {fs : Array Field} (hu : P.underlying t = some (.struct fs)) (hc : P.cellsOf t = a.sz) (hf : ∀ n, RdF P n fs.toList 0 a) : Rd P t a := ⟨fun n => by
  cases n with
  | zero => exact ⟨fun {H enc W cs x} hx _ => by simp [DataW.trod] at hx⟩
  | succ n => exact rd_struct hu hc (hf n)⟩
/-- The same cells, another Lean type. -/
theorem RdN.map {n : Nat} {t : TypeId} {f : β → α} {g : α → β} (hr : RdN P n t a) (hfg : ∀ x, f (g x) = x) : RdN P n t (tMap a f) := ⟨fun {H enc W cs x} hx hw => by
  obtain ⟨y, hy⟩ := hr.h hx hw
  exact ⟨g y, show a.rep AnyB W cs (f (g y)) from by rw [hfg]; exact hy⟩⟩
theorem Rd.map {t : TypeId} {f : β → α} {g : α → β} (hr : Rd P t a) (hfg : ∀ x, f (g x) = x) : Rd P t (tMap a f) := ⟨fun n => (hr.h n).map hfg⟩

/-! ### an argument -/
variable {H : Type} {enc : TypeId × Value → H} {W : World} {base : Nat} {t : TypeId} {v : Value} {d : DataW H} {ps : List MemPlace}
theorem Rd.arg (hr : Rd P t a) (h : DataW.Trod enc P W 0 (fun _ => true) true t v d ps) (hw : (d.weights P t).all (· ≤ reachBytes) = true) : ∃ y, a.rep AnyB W v.cells.toList y := by
  obtain ⟨n, hn⟩ := h
  exact (hr.h n).h hn hw
theorem arg_slice {e : TypeId} {sz : Nat} [hs : SliceTy P t e sz] {hpos : 0 < a.sz} (hr : Rd P t (tSl a hpos)) (hv : Value.okWide P W .any base t v) (h : DataW.Trod enc P W 0 (fun _ => true) true t v d ps) (hw : (d.weights P t).all (· ≤ reachBytes) = true) :
    ∃ A n c xs, v = .slice A n c ∧ SlR a AnyB W A n xs ∧ n ≤ c := by
  obtain ⟨hu, _⟩ := sliceOf_spec hs.h
  obtain ⟨xs, A, n, c, hcs, h1, h2⟩ := hr.arg h hw
  obtain ⟨A', n', c', rfl⟩ := Go.WideShapes.okWide_slice hu hv
  have : Value.slice A' n' c' = .slice A n c := by simpa [Value.cells] using hcs
  exact ⟨A, n, c, xs, this, h1, h2⟩
theorem arg_agg {n : Nat} [ht : AggTy P t n] (hr : Rd P t a) (hv : Value.okWide P W .any base t v) (h : DataW.Trod enc P W 0 (fun _ => true) true t v d ps) (hw : (d.weights P t).all (· ≤ reachBytes) = true) :
    ∃ cs y, v = .agg cs.toArray ∧ a.rep AnyB W cs y := by
  obtain ⟨⟨dd, hu, hd⟩, _⟩ := aggSize_spec ht.h
  obtain ⟨y, hy⟩ := hr.arg h hw
  unfold Value.okWide at hv
  rw [hu] at hv
  have : ∃ cs, v = .agg cs := by
    cases dd <;> simp at hd
    all_goals (obtain ⟨cs, h1, _⟩ := hv; exact ⟨cs, h1⟩)
  obtain ⟨cs, rfl⟩ := this
  exact ⟨cs.toList, y, by simp, by simpa [Value.cells] using hy⟩
theorem arg_k {k : IntKind} [ht : IntTy P t k] (hv : Value.okWide P W .any base t v) (h : DataW.Trod enc P W 0 (fun _ => true) true t v d ps) : ∃ z, v = .int k z ∧ (Lit.int k z).wf = true := by
  obtain ⟨n, hn⟩ := h
  obtain ⟨z, e1, _, hw⟩ := DataW.trod_int (intOf_spec ht.h) hn
  obtain ⟨z', rfl⟩ := Go.WideShapes.okWide_int (intOf_spec ht.h) hv
  have : Value.int k z' = .int k z := by simpa [Value.cells] using e1
  exact ⟨z, this, hw⟩
end

/-! ### from a contract of this layer to the kit's -/
section
variable {P : Program}
theorem CallZ.calls {f : FuncId} {args : Array Value} {W : World} {R : VK} (h : CallZ P f args (z W) R) : Calls P f args W (fun e W' => ∃ v, e = .returned v ∧ R v (z W')) := callsIn_wide.1 (h W rfl)
theorem Ext.below {W W' : World} (h : Ext (z W) (z W')) : Below W.heap.size W W' := ⟨h.os, h.tape, h.output, h.size, fun k hk => h.blk k hk trivial⟩
end
end Go.Proofs.Ytclmnhijjhnggaa

/- Own layer, part n: slices of slices; lists written out. Nothing of the program stands here. -/
namespace Go.Proofs.Ytclmnhijjhnggaa
open Go Go.RowKit

/-- A bound that is written, or is not. -/
def IsB (o : Option Value) (k d : Nat) : Prop := match o with | none => k = d | some (.int _ i) => i = (k : Int) | _ => False
section
variable {P : Program}
theorem run_sliceBound {kd : IntKind} {i : Int} {k y : Nat} (code : BoundsCode) (hi : i = (k : Int)) (hk : k ≤ y) (w : World) : (Instr.sliceBound (.int kd i) y code).run P w = .ok k w := by
  subst hi
  simp [Instr.sliceBound, asIntOf, hk]
theorem run_sliceBounds {isS : Bool} {n c : Nat} {lo hi : Option Value} {l h : Nat} (hl : IsB lo l 0) (hh : IsB hi h n) (h1 : l ≤ h) (h2 : h ≤ c) (w : World) : (Instr.sliceBounds isS n c lo hi none).run P w = .ok (l, h, c) w := by
  cases hi with
  | none =>
    obtain rfl : h = n := hh
    cases lo with
    | none => obtain rfl : l = 0 := hl; simp [Instr.sliceBounds]
    | some v => cases v <;> first | exact hl.elim | simp [Instr.sliceBounds, run_sliceBound _ hl h1]
  | some u =>
    cases u <;> first | exact hh.elim | skip
    cases lo with
    | none => obtain rfl : l = 0 := hl; simp [Instr.sliceBounds, run_sliceBound _ hh h2]
    | some v => cases v <;> first | exact hl.elim | simp [Instr.sliceBounds, run_sliceBound _ hh h2, run_sliceBound _ hl h1]
theorem SlR.sub {α : Type} {a : Ty α} {D : Nat → Prop} {w : World} {b o n : Nat} {xs : List α} {l h o' : Nat} (hs : SlR a D w (some (ad b o)) n xs) (h1 : l ≤ h) (h2 : h ≤ n) (ho : l < h → o' = o + l * a.sz) : SlR a D w (some (ad b o')) (h - l) ((xs.take h).drop l) := by
  obtain ⟨hn, hle, hx⟩ := hs
  refine ⟨by rw [List.length_drop, List.length_take]; omega, by omega, fun k x hk => ?_⟩
  rw [List.getElem?_drop, List.getElem?_take] at hk
  split at hk
  · rename_i hlt
    obtain ⟨b', o2, cs, e, hD, hc, hr⟩ := hx _ _ hk
    simp only [Option.some.injEq, Addr.mk.injEq] at e
    obtain ⟨rfl, rfl, _⟩ := e
    refine ⟨b, o', cs, rfl, hD, ?_, hr⟩
    rw [ho (by omega)]
    rwa [show o + l * a.sz + k * a.sz = o + (l + k) * a.sz from by rw [Nat.add_mul]; omega]
  · cases hk
/-- xs[l:h]. -/
theorem slcR {α : Type} {a : Ty α} {D : Nat → Prop} {w : World} {t e : TypeId} {sz : Nat} [hst : SliceTy P t e sz] {A : Option Addr} {n c : Nat} {lo hi : Option Value} {K : Value → Prop} {xs : List α} (l h : Nat) (hs : SlR a D w A n xs) (hc : n ≤ c) (hlo : IsB lo l 0) (hhi : IsB hi h n) (h1 : l ≤ h) (h2 : h ≤ n) (hsz : a.sz = sz)
    (kk : ∀ A' : Option Addr, (∀ (D' : Nat → Prop) (w' : World), SlR a D' w' A n xs → SlR a D' w' A' (h - l) ((xs.take h).drop l)) → K (.slice A' (h - l) (c - l))) : SlcP P t (.slice A n c) lo hi none K := by
  rw [SlcP_eq]
  obtain ⟨hu, inf, hinf, hs'⟩ := sliceOf_spec hst.h
  have hrun : ∀ w, (Instr.sliceAt t (.slice A n c) lo hi none).run P w = .ok (.slice (if c = l then A else A.map (·.add (l * sz))) (h - l) (c - l)) w := fun w => by
    unfold Instr.sliceAt
    rw [Sem.run_bind, run_underlying hu]
    simp only [Result.andThen_ok]
    unfold Instr.slice
    rw [Sem.run_bind, run_underlying hu]
    simp only [Result.andThen_ok]
    rw [Sem.run_bind, run_sliceBounds hlo hhi h1 (by omega)]
    simp only [Result.andThen_ok]
    rw [Sem.run_bind, run_sizeOf hinf, hs']
    rfl
  refine pure_vval hrun (kk _ fun D' w' hx => ?_)
  cases A with
  | none =>
    have hxs : xs = [] := by
      cases xs with
      | nil => rfl
      | cons x r => obtain ⟨_, _, _, e, _⟩ := hx.2.2 0 x rfl; cases e
    have hn : n = 0 := by have := hx.1; rw [hxs] at this; exact this
    subst hxs
    obtain rfl : l = 0 := by omega
    obtain rfl : h = 0 := by omega
    simp only [List.take_nil, List.drop_nil, Nat.sub_self]
    split <;> exact .nil
  | some q =>
    by_cases h0 : l < h
    · obtain ⟨b, o, _, _, e, _⟩ := hx.at_ (k := 0) (by omega)
      obtain rfl : q = ad b o := Option.some.inj e
      rw [if_neg (by omega)]
      show SlR a D' w' (some ((ad b o).add (l * sz))) (h - l) _
      rw [add_ad, ← hsz]
      exact hx.sub h1 h2 fun _ => rfl
    · have e : (xs.take h).drop l = [] := List.drop_eq_nil_of_le (by rw [List.length_take]; omega)
      rw [e, show h - l = 0 from by omega]
      exact .nil

/-- A list of numbers written out. -/
theorem NewB.sl {D : Nat → Prop} {w w' : World} {e : TypeId} {g : Nat} {xs : List Int} (hb : NewB w e (xs.map fun x => .int .i64 x) g w') (hD : D g) (hx : (xs.all fun x => decide (-9223372036854775808 ≤ x ∧ x ≤ 9223372036854775807)) = true := by decide) (hl : Nat.ble xs.length 1000 = true := by rfl) : SlR tInt D w' (some (ad g 0)) xs.length xs :=
  SlR.of_cells rfl (by have := Nat.le_of_ble_eq_true hl; omega) hD (.blk hb.blk) (flat_ints fun x hm => by have := List.all_eq_true.1 hx x hm; rw [decide_eq_true_iff] at this; exact this)
end
end Go.Proofs.Ytclmnhijjhnggaa
