/- The types of the program, as the executor sees them. Written by sxtab.py. -/
import Derived.Test.YtgdlbpihkodeoaaFwE
import Derived.Test.YtgdlbpihkodeoaaRows
namespace Go.Proofs.Ytgdlbpihkodeoaa
open Go.RowKit
set_option maxRecDepth 100000

def ti1 : TI := { size := 1, agg := false, bytes := 8, kind := .other, zc := [.nilFunc], ty := none } -- func()
theorem ti1_ok : ti1.ok Try.prog 1 := ⟨by kernel_rfl, ⟨_, Try.underlying1, rfl⟩, ⟨rfl, rfl⟩⟩
def ti2 : TI := { size := 1, agg := false, bytes := 8, kind := .int .i64, zc := [.int .i64 0], ty := none } -- int64
theorem ti2_ok : ti2.ok Try.prog 2 := ⟨by kernel_rfl, ⟨_, Try.underlying2, ⟨rfl, rfl⟩⟩, ⟨rfl, rfl⟩⟩
def ty2 : Ty := .int .i64
theorem ty2_ok : TyOk Try.prog 2 ti2 ty2 := ⟨ti2_ok, rfl, rfl⟩
def ti3 : TI := { size := 1, agg := false, bytes := 8, kind := .int .i64, zc := [.int .i64 0], ty := none } -- int
theorem ti3_ok : ti3.ok Try.prog 3 := ⟨by kernel_rfl, ⟨_, Try.underlying3, ⟨rfl, rfl⟩⟩, ⟨rfl, rfl⟩⟩
def ty3 : Ty := .int .i64
theorem ty3_ok : TyOk Try.prog 3 ti3 ty3 := ⟨ti3_ok, rfl, rfl⟩
def ti4 : TI := { size := 1, agg := false, bytes := 1, kind := .bool, zc := [.bool false], ty := none } -- bool
theorem ti4_ok : ti4.ok Try.prog 4 := ⟨by kernel_rfl, ⟨_, Try.underlying4, ⟨rfl, rfl⟩⟩, ⟨rfl, rfl⟩⟩
def ty4 : Ty := .bool
theorem ty4_ok : TyOk Try.prog 4 ti4 ty4 := ⟨ti4_ok, rfl, rfl⟩
def ti5 : TI := { size := 1, agg := false, bytes := 1, kind := .int .u8, zc := [.int .u8 0], ty := none } -- uint8
theorem ti5_ok : ti5.ok Try.prog 5 := ⟨by kernel_rfl, ⟨_, Try.underlying5, ⟨rfl, rfl⟩⟩, ⟨rfl, rfl⟩⟩
def ty5 : Ty := .int .u8
theorem ty5_ok : TyOk Try.prog 5 ti5 ty5 := ⟨ti5_ok, rfl, rfl⟩
def ti6 : TI := { size := 1, agg := false, bytes := 1, kind := .int .u8, zc := [.int .u8 0], ty := none } -- abi.BoundsErrorCode
theorem ti6_ok : ti6.ok Try.prog 6 := ⟨by kernel_rfl, ⟨_, Try.underlying6, ⟨rfl, rfl⟩⟩, ⟨rfl, rfl⟩⟩
def ty6 : Ty := .int .u8
theorem ty6_ok : TyOk Try.prog 6 ti6 ty6 := ⟨ti6_ok, rfl, rfl⟩
def ti7 : TI := { size := 4, agg := true, bytes := 24, kind := .struct [(0, 2), (1, 3), (2, 4), (3, 6)], zc := [.int .i64 0, .int .i64 0, .bool false, .int .u8 0], ty := none } -- struct { x int64; y int; signed bool; code abi.BoundsErrorCo
theorem ti7_ok : ti7.ok Try.prog 7 := ⟨by kernel_rfl, ⟨_, Try.underlying7, ⟨rfl, _, rfl, rfl⟩⟩, ⟨rfl, rfl⟩⟩
def ty7 : Ty := .st (.pair (.int .i64) (.pair (.int .i64) (.pair (.bool) (.int .u8))))
theorem ty7_ok : TyOk Try.prog 7 ti7 ty7 := ⟨ti7_ok, rfl, rfl⟩
def ti8 : TI := { size := 4, agg := true, bytes := 24, kind := .struct [(0, 2), (1, 3), (2, 4), (3, 6)], zc := [.int .i64 0, .int .i64 0, .bool false, .int .u8 0], ty := none } -- runtime.boundsError
theorem ti8_ok : ti8.ok Try.prog 8 := ⟨by kernel_rfl, ⟨_, Try.underlying8, ⟨rfl, _, rfl, rfl⟩⟩, ⟨rfl, rfl⟩⟩
def ty8 : Ty := .st (.pair (.int .i64) (.pair (.int .i64) (.pair (.bool) (.int .u8))))
theorem ty8_ok : TyOk Try.prog 8 ti8 ty8 := ⟨ti8_ok, rfl, rfl⟩
def ti9 : TI := { size := 1, agg := false, bytes := 16, kind := .str, zc := [.string .empty], ty := none } -- string
theorem ti9_ok : ti9.ok Try.prog 9 := ⟨by kernel_rfl, ⟨_, Try.underlying9, ⟨rfl, rfl⟩⟩, ⟨rfl, rfl⟩⟩
def ty9 : Ty := .str
theorem ty9_ok : TyOk Try.prog 9 ti9 ty9 := ⟨ti9_ok, rfl, rfl⟩
def ti10 : TI := { size := 1, agg := false, bytes := 16, kind := .str, zc := [.string .empty], ty := none } -- runtime.errorString
theorem ti10_ok : ti10.ok Try.prog 10 := ⟨by kernel_rfl, ⟨_, Try.underlying10, ⟨rfl, rfl⟩⟩, ⟨rfl, rfl⟩⟩
def ty10 : Ty := .str
theorem ty10_ok : TyOk Try.prog 10 ti10 ty10 := ⟨ti10_ok, rfl, rfl⟩
def ti11 : TI := { size := 1, agg := false, bytes := 16, kind := .str, zc := [.string .empty], ty := none } -- runtime.plainError
theorem ti11_ok : ti11.ok Try.prog 11 := ⟨by kernel_rfl, ⟨_, Try.underlying11, ⟨rfl, rfl⟩⟩, ⟨rfl, rfl⟩⟩
def ty11 : Ty := .str
theorem ty11_ok : TyOk Try.prog 11 ti11 ty11 := ⟨ti11_ok, rfl, rfl⟩
def ti12 : TI := { size := 1, agg := false, bytes := 8, kind := .int .u64, zc := [.int .u64 0], ty := none } -- uintptr
theorem ti12_ok : ti12.ok Try.prog 12 := ⟨by kernel_rfl, ⟨_, Try.underlying12, ⟨rfl, rfl⟩⟩, ⟨rfl, rfl⟩⟩
def ty12 : Ty := .int .u64
theorem ty12_ok : TyOk Try.prog 12 ti12 ty12 := ⟨ti12_ok, rfl, rfl⟩
def ti13 : TI := { size := 2, agg := true, bytes := 24, kind := .struct [(0, 9), (1, 12)], zc := [.string .empty, .int .u64 0], ty := none } -- struct { msg string; addr uintptr }
theorem ti13_ok : ti13.ok Try.prog 13 := ⟨by kernel_rfl, ⟨_, Try.underlying13, ⟨rfl, _, rfl, rfl⟩⟩, ⟨rfl, rfl⟩⟩
def ty13 : Ty := .st (.pair (.str) (.int .u64))
theorem ty13_ok : TyOk Try.prog 13 ti13 ty13 := ⟨ti13_ok, rfl, rfl⟩
def ti14 : TI := { size := 2, agg := true, bytes := 24, kind := .struct [(0, 9), (1, 12)], zc := [.string .empty, .int .u64 0], ty := none } -- runtime.errorAddressString
theorem ti14_ok : ti14.ok Try.prog 14 := ⟨by kernel_rfl, ⟨_, Try.underlying14, ⟨rfl, _, rfl, rfl⟩⟩, ⟨rfl, rfl⟩⟩
def ty14 : Ty := .st (.pair (.str) (.int .u64))
theorem ty14_ok : TyOk Try.prog 14 ti14 ty14 := ⟨ti14_ok, rfl, rfl⟩
def ti15 : TI := { size := 1, agg := false, bytes := 8, kind := .other, zc := [.pointer none], ty := none } -- *runtime.TypeAssertionError
theorem ti15_ok : ti15.ok Try.prog 15 := ⟨by kernel_rfl, ⟨_, Try.underlying15, rfl⟩, ⟨rfl, rfl⟩⟩
def ti16 : TI := { size := 1, agg := false, bytes := 8, kind := .other, zc := [.pointer none], ty := none } -- *runtime.PanicNilError
theorem ti16_ok : ti16.ok Try.prog 16 := ⟨by kernel_rfl, ⟨_, Try.underlying16, rfl⟩, ⟨rfl, rfl⟩⟩
def ti17 : TI := { size := 1, agg := false, bytes := 8, kind := .other, zc := [.pointer none], ty := none } -- *abi.Type
theorem ti17_ok : ti17.ok Try.prog 17 := ⟨by kernel_rfl, ⟨_, Try.underlying17, rfl⟩, ⟨rfl, rfl⟩⟩
def ti18 : TI := { size := 1, agg := true, bytes := 8, kind := .struct [(0, 17)], zc := [.pointer none], ty := none } -- struct { typ *abi.Type }
theorem ti18_ok : ti18.ok Try.prog 18 := ⟨by kernel_rfl, ⟨_, Try.underlying18, ⟨rfl, _, rfl, rfl⟩⟩, ⟨rfl, rfl⟩⟩
def ti19 : TI := { size := 1, agg := true, bytes := 8, kind := .struct [(0, 17)], zc := [.pointer none], ty := none } -- maps.unhashableTypeError
theorem ti19_ok : ti19.ok Try.prog 19 := ⟨by kernel_rfl, ⟨_, Try.underlying19, ⟨rfl, _, rfl, rfl⟩⟩, ⟨rfl, rfl⟩⟩
def ti21 : TI := { size := 1, agg := false, bytes := 4, kind := .int .i32, zc := [.int .i32 0], ty := none } -- int32
theorem ti21_ok : ti21.ok Try.prog 21 := ⟨by kernel_rfl, ⟨_, Try.underlying21, ⟨rfl, rfl⟩⟩, ⟨rfl, rfl⟩⟩
def ty21 : Ty := .int .i32
theorem ty21_ok : TyOk Try.prog 21 ti21 ty21 := ⟨ti21_ok, rfl, rfl⟩
def ti22 : TI := { size := 1, agg := false, bytes := 24, kind := .slice 61, zc := [.slice none 0 0], ty := none } -- []api.Commit
theorem ti22_ok : ti22.ok Try.prog 22 := ⟨by kernel_rfl, ⟨_, Try.underlying22, ⟨rfl, rfl⟩⟩, ⟨rfl, rfl⟩⟩
def ty22 : Ty := .slice (.st (.pair (.slice (.int .i64)) (.pair (.int .i64) (.pair (.int .i64) (.pair (.int .i64) (.str))))))
theorem ty22_ok : TyOk Try.prog 22 ti22 ty22 := ⟨ti22_ok, rfl, rfl⟩
def ti23 : TI := { size := 2, agg := true, bytes := 16, kind := .struct [(0, 3), (1, 3)], zc := [.int .i64 0, .int .i64 0], ty := none } -- struct { Code int; Index int }
theorem ti23_ok : ti23.ok Try.prog 23 := ⟨by kernel_rfl, ⟨_, Try.underlying23, ⟨rfl, _, rfl, rfl⟩⟩, ⟨rfl, rfl⟩⟩
def ty23 : Ty := .st (.pair (.int .i64) (.int .i64))
theorem ty23_ok : TyOk Try.prog 23 ti23 ty23 := ⟨ti23_ok, rfl, rfl⟩
def ti24 : TI := { size := 2, agg := true, bytes := 16, kind := .struct [(0, 3), (1, 3)], zc := [.int .i64 0, .int .i64 0], ty := none } -- api.Fault
theorem ti24_ok : ti24.ok Try.prog 24 := ⟨by kernel_rfl, ⟨_, Try.underlying24, ⟨rfl, _, rfl, rfl⟩⟩, ⟨rfl, rfl⟩⟩
def ty24 : Ty := .st (.pair (.int .i64) (.int .i64))
theorem ty24_ok : TyOk Try.prog 24 ti24 ty24 := ⟨ti24_ok, rfl, rfl⟩
def ti26 : TI := { size := 1, agg := false, bytes := 8, kind := .other, zc := [.nilFunc], ty := none } -- func([]int) (int, api.Fault)
theorem ti26_ok : ti26.ok Try.prog 26 := ⟨by kernel_rfl, ⟨_, Try.underlying26, rfl⟩, ⟨rfl, rfl⟩⟩
def ti27 : TI := { size := 1, agg := false, bytes := 24, kind := .slice 3, zc := [.slice none 0 0], ty := none } -- []int
theorem ti27_ok : ti27.ok Try.prog 27 := ⟨by kernel_rfl, ⟨_, Try.underlying27, ⟨rfl, rfl⟩⟩, ⟨rfl, rfl⟩⟩
def ty27 : Ty := .slice (.int .i64)
theorem ty27_ok : TyOk Try.prog 27 ti27 ty27 := ⟨ti27_ok, rfl, rfl⟩
def ti29 : TI := { size := 1, agg := false, bytes := 8, kind := .other, zc := [.nilFunc], ty := none } -- func([]api.Commit) ([]int, api.Fault)
theorem ti29_ok : ti29.ok Try.prog 29 := ⟨by kernel_rfl, ⟨_, Try.underlying29, rfl⟩, ⟨rfl, rfl⟩⟩
def ti30 : TI := { size := 1, agg := false, bytes := 8, kind := .other, zc := [.nilFunc], ty := none } -- func(int, int, int) bool
theorem ti30_ok : ti30.ok Try.prog 30 := ⟨by kernel_rfl, ⟨_, Try.underlying30, rfl⟩, ⟨rfl, rfl⟩⟩
def ti31 : TI := { size := 1, agg := false, bytes := 8, kind := .other, zc := [.nilFunc], ty := none } -- func([]int, int) ([]int, api.Fault)
theorem ti31_ok : ti31.ok Try.prog 31 := ⟨by kernel_rfl, ⟨_, Try.underlying31, rfl⟩, ⟨rfl, rfl⟩⟩
def ti32 : TI := { size := 1, agg := false, bytes := 8, kind := .other, zc := [.nilFunc], ty := none } -- func([]int, []int) bool
theorem ti32_ok : ti32.ok Try.prog 32 := ⟨by kernel_rfl, ⟨_, Try.underlying32, rfl⟩, ⟨rfl, rfl⟩⟩
def ti34 : TI := { size := 1, agg := false, bytes := 8, kind := .other, zc := [.nilFunc], ty := none } -- func(int, int, int, int, []int) (bool, api.Fault)
theorem ti34_ok : ti34.ok Try.prog 34 := ⟨by kernel_rfl, ⟨_, Try.underlying34, rfl⟩, ⟨rfl, rfl⟩⟩
def ti35 : TI := { size := 1, agg := false, bytes := 8, kind := .other, zc := [.nilFunc], ty := none } -- func([]api.Commit, int) bool
theorem ti35_ok : ti35.ok Try.prog 35 := ⟨by kernel_rfl, ⟨_, Try.underlying35, rfl⟩, ⟨rfl, rfl⟩⟩
def ti37 : TI := { size := 1, agg := false, bytes := 8, kind := .other, zc := [.nilFunc], ty := none } -- func() ([]api.Commit, bool)
theorem ti37_ok : ti37.ok Try.prog 37 := ⟨by kernel_rfl, ⟨_, Try.underlying37, rfl⟩, ⟨rfl, rfl⟩⟩
def ti38 : TI := { size := 1, agg := false, bytes := 8, kind := .other, zc := [.nilFunc], ty := none } -- func([]api.Commit, []int, int) ([]int, api.Fault)
theorem ti38_ok : ti38.ok Try.prog 38 := ⟨by kernel_rfl, ⟨_, Try.underlying38, rfl⟩, ⟨rfl, rfl⟩⟩
def ti39 : TI := { size := 1, agg := false, bytes := 8, kind := .other, zc := [.nilFunc], ty := none } -- func([]api.Commit, []int, int) api.Fault
theorem ti39_ok : ti39.ok Try.prog 39 := ⟨by kernel_rfl, ⟨_, Try.underlying39, rfl⟩, ⟨rfl, rfl⟩⟩
def ti40 : TI := { size := 1, agg := false, bytes := 24, kind := .slice 77, zc := [.slice none 0 0], ty := none } -- []api.RevNode
theorem ti40_ok : ti40.ok Try.prog 40 := ⟨by kernel_rfl, ⟨_, Try.underlying40, ⟨rfl, rfl⟩⟩, ⟨rfl, rfl⟩⟩
def ty40 : Ty := .slice (.st (.pair (.int .i64) (.pair (.int .i64) (.pair (.int .i64) (.int .i64)))))
theorem ty40_ok : TyOk Try.prog 40 ti40 ty40 := ⟨ti40_ok, rfl, rfl⟩
def ti41 : TI := { size := 1, agg := true, bytes := 24, kind := .struct [(0, 40)], zc := [.slice none 0 0], ty := none } -- struct { Nodes []api.RevNode }
theorem ti41_ok : ti41.ok Try.prog 41 := ⟨by kernel_rfl, ⟨_, Try.underlying41, ⟨rfl, _, rfl, rfl⟩⟩, ⟨rfl, rfl⟩⟩
def ty41 : Ty := .st (.slice (.st (.pair (.int .i64) (.pair (.int .i64) (.pair (.int .i64) (.int .i64))))))
theorem ty41_ok : TyOk Try.prog 41 ti41 ty41 := ⟨ti41_ok, rfl, rfl⟩
def ti42 : TI := { size := 1, agg := true, bytes := 24, kind := .struct [(0, 40)], zc := [.slice none 0 0], ty := none } -- api.RevQuery
theorem ti42_ok : ti42.ok Try.prog 42 := ⟨by kernel_rfl, ⟨_, Try.underlying42, ⟨rfl, _, rfl, rfl⟩⟩, ⟨rfl, rfl⟩⟩
def ty42 : Ty := .st (.slice (.st (.pair (.int .i64) (.pair (.int .i64) (.pair (.int .i64) (.int .i64))))))
theorem ty42_ok : TyOk Try.prog 42 ti42 ty42 := ⟨ti42_ok, rfl, rfl⟩
def ti43 : TI := { size := 1, agg := false, bytes := 8, kind := .other, zc := [.nilFunc], ty := none } -- func(int, api.RevQuery, api.RevQuery) api.RevQuery
theorem ti43_ok : ti43.ok Try.prog 43 := ⟨by kernel_rfl, ⟨_, Try.underlying43, rfl⟩, ⟨rfl, rfl⟩⟩
def ti44 : TI := { size := 1, agg := false, bytes := 8, kind := .other, zc := [.nilFunc], ty := none } -- func(int, api.RevQuery) api.RevQuery
theorem ti44_ok : ti44.ok Try.prog 44 := ⟨by kernel_rfl, ⟨_, Try.underlying44, rfl⟩, ⟨rfl, rfl⟩⟩
def ti45 : TI := { size := 1, agg := false, bytes := 8, kind := .other, zc := [.nilFunc], ty := none } -- func([]int) api.RevQuery
theorem ti45_ok : ti45.ok Try.prog 45 := ⟨by kernel_rfl, ⟨_, Try.underlying45, rfl⟩, ⟨rfl, rfl⟩⟩
def ti47 : TI := { size := 1, agg := false, bytes := 8, kind := .other, zc := [.nilFunc], ty := none } -- func([]api.Commit, api.RevQuery) ([]int, bool)
theorem ti47_ok : ti47.ok Try.prog 47 := ⟨by kernel_rfl, ⟨_, Try.underlying47, rfl⟩, ⟨rfl, rfl⟩⟩
def ti48 : TI := { size := 1, agg := false, bytes := 8, kind := .other, zc := [.nilFunc], ty := none } -- func([]api.Commit, []int, int) bool
theorem ti48_ok : ti48.ok Try.prog 48 := ⟨by kernel_rfl, ⟨_, Try.underlying48, rfl⟩, ⟨rfl, rfl⟩⟩
def ti49 : TI := { size := 1, agg := false, bytes := 8, kind := .other, zc := [.nilFunc], ty := none } -- func([]api.Commit, int, int) ([]int, api.Fault)
theorem ti49_ok : ti49.ok Try.prog 49 := ⟨by kernel_rfl, ⟨_, Try.underlying49, rfl⟩, ⟨rfl, rfl⟩⟩
def ti50 : TI := { size := 1, agg := false, bytes := 8, kind := .other, zc := [.nilFunc], ty := none } -- func([]api.Commit, int, int) bool
theorem ti50_ok : ti50.ok Try.prog 50 := ⟨by kernel_rfl, ⟨_, Try.underlying50, rfl⟩, ⟨rfl, rfl⟩⟩
def ti51 : TI := { size := 1, agg := false, bytes := 24, kind := .slice 4, zc := [.slice none 0 0], ty := none } -- []bool
theorem ti51_ok : ti51.ok Try.prog 51 := ⟨by kernel_rfl, ⟨_, Try.underlying51, ⟨rfl, rfl⟩⟩, ⟨rfl, rfl⟩⟩
def ty51 : Ty := .slice (.bool)
theorem ty51_ok : TyOk Try.prog 51 ti51 ty51 := ⟨ti51_ok, rfl, rfl⟩
def ti52 : TI := { size := 1, agg := false, bytes := 24, kind := .slice 27, zc := [.slice none 0 0], ty := none } -- [][]int
theorem ti52_ok : ti52.ok Try.prog 52 := ⟨by kernel_rfl, ⟨_, Try.underlying52, ⟨rfl, rfl⟩⟩, ⟨rfl, rfl⟩⟩
def ty52 : Ty := .slice (.slice (.int .i64))
theorem ty52_ok : TyOk Try.prog 52 ti52 ty52 := ⟨ti52_ok, rfl, rfl⟩
def ti54 : TI := { size := 1, agg := false, bytes := 8, kind := .other, zc := [.nilFunc], ty := none } -- func([]api.Commit, []bool, []bool, []int) ([][]int, []int, a
theorem ti54_ok : ti54.ok Try.prog 54 := ⟨by kernel_rfl, ⟨_, Try.underlying54, rfl⟩, ⟨rfl, rfl⟩⟩
def ti55 : TI := { size := 1, agg := false, bytes := 8, kind := .other, zc := [.nilFunc], ty := none } -- func([]api.Commit, []bool, []bool, []int) api.Fault
theorem ti55_ok : ti55.ok Try.prog 55 := ⟨by kernel_rfl, ⟨_, Try.underlying55, rfl⟩, ⟨rfl, rfl⟩⟩
def ti56 : TI := { size := 1, agg := false, bytes := 8, kind := .other, zc := [.nilFunc], ty := none } -- func([]api.Commit, []bool, []bool, []int) bool
theorem ti56_ok : ti56.ok Try.prog 56 := ⟨by kernel_rfl, ⟨_, Try.underlying56, rfl⟩, ⟨rfl, rfl⟩⟩
def ti57 : TI := { size := 1, agg := false, bytes := 8, kind := .other, zc := [.nilFunc], ty := none } -- func([]int) api.Fault
theorem ti57_ok : ti57.ok Try.prog 57 := ⟨by kernel_rfl, ⟨_, Try.underlying57, rfl⟩, ⟨rfl, rfl⟩⟩
def ti58 : TI := { size := 1, agg := false, bytes := 8, kind := .other, zc := [.nilFunc], ty := none } -- func([]int) int
theorem ti58_ok : ti58.ok Try.prog 58 := ⟨by kernel_rfl, ⟨_, Try.underlying58, rfl⟩, ⟨rfl, rfl⟩⟩
def ti59 : TI := { size := 1, agg := false, bytes := 8, kind := .other, zc := [.nilFunc], ty := none } -- func([]api.Commit) api.Fault
theorem ti59_ok : ti59.ok Try.prog 59 := ⟨by kernel_rfl, ⟨_, Try.underlying59, rfl⟩, ⟨rfl, rfl⟩⟩
def ti60 : TI := { size := 5, agg := true, bytes := 64, kind := .struct [(0, 27), (1, 3), (2, 3), (3, 3), (4, 9)], zc := [.slice none 0 0, .int .i64 0, .int .i64 0, .int .i64 0, .string .empty], ty := none } -- struct { Parents []int; Author int; Time int; Tree int; Mess
theorem ti60_ok : ti60.ok Try.prog 60 := ⟨by kernel_rfl, ⟨_, Try.underlying60, ⟨rfl, _, rfl, rfl⟩⟩, ⟨rfl, rfl⟩⟩
def ty60 : Ty := .st (.pair (.slice (.int .i64)) (.pair (.int .i64) (.pair (.int .i64) (.pair (.int .i64) (.str)))))
theorem ty60_ok : TyOk Try.prog 60 ti60 ty60 := ⟨ti60_ok, rfl, rfl⟩
def ti61 : TI := { size := 5, agg := true, bytes := 64, kind := .struct [(0, 27), (1, 3), (2, 3), (3, 3), (4, 9)], zc := [.slice none 0 0, .int .i64 0, .int .i64 0, .int .i64 0, .string .empty], ty := none } -- api.Commit
theorem ti61_ok : ti61.ok Try.prog 61 := ⟨by kernel_rfl, ⟨_, Try.underlying61, ⟨rfl, _, rfl, rfl⟩⟩, ⟨rfl, rfl⟩⟩
def ty61 : Ty := .st (.pair (.slice (.int .i64)) (.pair (.int .i64) (.pair (.int .i64) (.pair (.int .i64) (.str)))))
theorem ty61_ok : TyOk Try.prog 61 ti61 ty61 := ⟨ti61_ok, rfl, rfl⟩
def ti62 : TI := { size := 1, agg := false, bytes := 8, kind := .other, zc := [.nilFunc], ty := none } -- func([]uint8) (int, api.Fault)
theorem ti62_ok : ti62.ok Try.prog 62 := ⟨by kernel_rfl, ⟨_, Try.underlying62, rfl⟩, ⟨rfl, rfl⟩⟩
def ti63 : TI := { size := 1, agg := false, bytes := 24, kind := .slice 5, zc := [.slice none 0 0], ty := none } -- []uint8
theorem ti63_ok : ti63.ok Try.prog 63 := ⟨by kernel_rfl, ⟨_, Try.underlying63, ⟨rfl, rfl⟩⟩, ⟨rfl, rfl⟩⟩
def ty63 : Ty := .slice (.int .u8)
theorem ty63_ok : TyOk Try.prog 63 ti63 ty63 := ⟨ti63_ok, rfl, rfl⟩
def ti64 : TI := { size := 1, agg := false, bytes := 8, kind := .other, zc := [.nilFunc], ty := none } -- func(int, int) (int, api.Fault)
theorem ti64_ok : ti64.ok Try.prog 64 := ⟨by kernel_rfl, ⟨_, Try.underlying64, rfl⟩, ⟨rfl, rfl⟩⟩
def ti65 : TI := { size := 1, agg := false, bytes := 8, kind := .other, zc := [.nilFunc], ty := none } -- func([]int, int, bool) []int
theorem ti65_ok : ti65.ok Try.prog 65 := ⟨by kernel_rfl, ⟨_, Try.underlying65, rfl⟩, ⟨rfl, rfl⟩⟩
def ti66 : TI := { size := 1, agg := false, bytes := 8, kind := .other, zc := [.nilFunc], ty := none } -- func(int) bool
theorem ti66_ok : ti66.ok Try.prog 66 := ⟨by kernel_rfl, ⟨_, Try.underlying66, rfl⟩, ⟨rfl, rfl⟩⟩
def ti67 : TI := { size := 4, agg := true, bytes := 4, kind := .array 4 4, zc := [.bool false, .bool false, .bool false, .bool false], ty := none } -- [4]bool
theorem ti67_ok : ti67.ok Try.prog 67 := ⟨by kernel_rfl, ⟨_, Try.underlying67, ⟨rfl, rfl⟩⟩, ⟨rfl, rfl⟩⟩
def ty67 : Ty := .st (.pair (.bool) (.pair (.bool) (.pair (.bool) (.bool))))
theorem ty67_ok : TyOk Try.prog 67 ti67 ty67 := ⟨ti67_ok, rfl, rfl⟩
def ti68 : TI := { size := 1, agg := false, bytes := 8, kind := .other, zc := [.pointer none], ty := none } -- *translog.reader
theorem ti68_ok : ti68.ok Try.prog 68 := ⟨by kernel_rfl, ⟨_, Try.underlying68, rfl⟩, ⟨rfl, rfl⟩⟩
def ti69 : TI := { size := 2, agg := true, bytes := 32, kind := .struct [(0, 27), (1, 4)], zc := [.slice none 0 0, .bool false], ty := none } -- struct { proof []int; short bool }
theorem ti69_ok : ti69.ok Try.prog 69 := ⟨by kernel_rfl, ⟨_, Try.underlying69, ⟨rfl, _, rfl, rfl⟩⟩, ⟨rfl, rfl⟩⟩
def ty69 : Ty := .st (.pair (.slice (.int .i64)) (.bool))
theorem ty69_ok : TyOk Try.prog 69 ti69 ty69 := ⟨ti69_ok, rfl, rfl⟩
def ti70 : TI := { size := 2, agg := true, bytes := 32, kind := .struct [(0, 27), (1, 4)], zc := [.slice none 0 0, .bool false], ty := none } -- translog.reader
theorem ti70_ok : ti70.ok Try.prog 70 := ⟨by kernel_rfl, ⟨_, Try.underlying70, ⟨rfl, _, rfl, rfl⟩⟩, ⟨rfl, rfl⟩⟩
def ty70 : Ty := .st (.pair (.slice (.int .i64)) (.bool))
theorem ty70_ok : TyOk Try.prog 70 ti70 ty70 := ⟨ti70_ok, rfl, rfl⟩
def ti72 : TI := { size := 1, agg := false, bytes := 8, kind := .other, zc := [.nilFunc], ty := none } -- func(int, int, int, bool) (int, int)
theorem ti72_ok : ti72.ok Try.prog 72 := ⟨by kernel_rfl, ⟨_, Try.underlying72, rfl⟩, ⟨rfl, rfl⟩⟩
def ti73 : TI := { size := 1, agg := false, bytes := 8, kind := .other, zc := [.nilFunc], ty := none } -- func() bool
theorem ti73_ok : ti73.ok Try.prog 73 := ⟨by kernel_rfl, ⟨_, Try.underlying73, rfl⟩, ⟨rfl, rfl⟩⟩
def ti75 : TI := { size := 1, agg := false, bytes := 8, kind := .other, zc := [.nilFunc], ty := none } -- func([]api.Commit, api.RevQuery) ([]bool, api.Fault)
theorem ti75_ok : ti75.ok Try.prog 75 := ⟨by kernel_rfl, ⟨_, Try.underlying75, rfl⟩, ⟨rfl, rfl⟩⟩
def ti76 : TI := { size := 4, agg := true, bytes := 32, kind := .struct [(0, 3), (1, 3), (2, 3), (3, 3)], zc := [.int .i64 0, .int .i64 0, .int .i64 0, .int .i64 0], ty := none } -- struct { Kind int; Number int; Left int; Right int }
theorem ti76_ok : ti76.ok Try.prog 76 := ⟨by kernel_rfl, ⟨_, Try.underlying76, ⟨rfl, _, rfl, rfl⟩⟩, ⟨rfl, rfl⟩⟩
def ty76 : Ty := .st (.pair (.int .i64) (.pair (.int .i64) (.pair (.int .i64) (.int .i64))))
theorem ty76_ok : TyOk Try.prog 76 ti76 ty76 := ⟨ti76_ok, rfl, rfl⟩
def ti77 : TI := { size := 4, agg := true, bytes := 32, kind := .struct [(0, 3), (1, 3), (2, 3), (3, 3)], zc := [.int .i64 0, .int .i64 0, .int .i64 0, .int .i64 0], ty := none } -- api.RevNode
theorem ti77_ok : ti77.ok Try.prog 77 := ⟨by kernel_rfl, ⟨_, Try.underlying77, ⟨rfl, _, rfl, rfl⟩⟩, ⟨rfl, rfl⟩⟩
def ty77 : Ty := .st (.pair (.int .i64) (.pair (.int .i64) (.pair (.int .i64) (.int .i64))))
theorem ty77_ok : TyOk Try.prog 77 ti77 ty77 := ⟨ti77_ok, rfl, rfl⟩
def ti78 : TI := { size := 1, agg := false, bytes := 8, kind := .other, zc := [.nilFunc], ty := none } -- func([]bool, []bool) bool
theorem ti78_ok : ti78.ok Try.prog 78 := ⟨by kernel_rfl, ⟨_, Try.underlying78, rfl⟩, ⟨rfl, rfl⟩⟩
def ti79 : TI := { size := 1, agg := false, bytes := 8, kind := .other, zc := [.nilFunc], ty := none } -- func([]api.Commit, []int, int) []int
theorem ti79_ok : ti79.ok Try.prog 79 := ⟨by kernel_rfl, ⟨_, Try.underlying79, rfl⟩, ⟨rfl, rfl⟩⟩
def ti80 : TI := { size := 1, agg := false, bytes := 8, kind := .other, zc := [.nilFunc], ty := none } -- func(int, int) api.Fault
theorem ti80_ok : ti80.ok Try.prog 80 := ⟨by kernel_rfl, ⟨_, Try.underlying80, rfl⟩, ⟨rfl, rfl⟩⟩
def ti81 : TI := { size := 1, agg := false, bytes := 24, kind := .slice 51, zc := [.slice none 0 0], ty := none } -- [][]bool
theorem ti81_ok : ti81.ok Try.prog 81 := ⟨by kernel_rfl, ⟨_, Try.underlying81, ⟨rfl, rfl⟩⟩, ⟨rfl, rfl⟩⟩
def ty81 : Ty := .slice (.slice (.bool))
theorem ty81_ok : TyOk Try.prog 81 ti81 ty81 := ⟨ti81_ok, rfl, rfl⟩
def ti82 : TI := { size := 1, agg := false, bytes := 8, kind := .other, zc := [.nilFunc], ty := none } -- func([]api.Commit) [][]bool
theorem ti82_ok : ti82.ok Try.prog 82 := ⟨by kernel_rfl, ⟨_, Try.underlying82, rfl⟩, ⟨rfl, rfl⟩⟩
def ti83 : TI := { size := 1, agg := false, bytes := 8, kind := .other, zc := [.nilFunc], ty := none } -- func(int, []api.RevNode, []api.RevNode) []api.RevNode
theorem ti83_ok : ti83.ok Try.prog 83 := ⟨by kernel_rfl, ⟨_, Try.underlying83, rfl⟩, ⟨rfl, rfl⟩⟩
def ti84 : TI := { size := 1, agg := false, bytes := 8, kind := .other, zc := [.nilFunc], ty := none } -- func([]api.Commit, int, int) api.Fault
theorem ti84_ok : ti84.ok Try.prog 84 := ⟨by kernel_rfl, ⟨_, Try.underlying84, rfl⟩, ⟨rfl, rfl⟩⟩
def ti85 : TI := { size := 1, agg := false, bytes := 8, kind := .other, zc := [.nilFunc], ty := none } -- func([]api.Commit, []int) []int
theorem ti85_ok : ti85.ok Try.prog 85 := ⟨by kernel_rfl, ⟨_, Try.underlying85, rfl⟩, ⟨rfl, rfl⟩⟩
def ti86 : TI := { size := 1, agg := false, bytes := 8, kind := .other, zc := [.nilFunc], ty := none } -- func([]api.Commit, []int, []bool) []int
theorem ti86_ok : ti86.ok Try.prog 86 := ⟨by kernel_rfl, ⟨_, Try.underlying86, rfl⟩, ⟨rfl, rfl⟩⟩
def ti87 : TI := { size := 1, agg := false, bytes := 8, kind := .other, zc := [.nilFunc], ty := none } -- func([]api.Commit, ...int) []bool
theorem ti87_ok : ti87.ok Try.prog 87 := ⟨by kernel_rfl, ⟨_, Try.underlying87, rfl⟩, ⟨rfl, rfl⟩⟩
def ti88 : TI := { size := 1, agg := false, bytes := 8, kind := .other, zc := [.nilFunc], ty := none } -- func(int, ...int) api.Fault
theorem ti88_ok : ti88.ok Try.prog 88 := ⟨by kernel_rfl, ⟨_, Try.underlying88, rfl⟩, ⟨rfl, rfl⟩⟩
def ti89 : TI := { size := 1, agg := false, bytes := 8, kind := .other, zc := [.nilFunc], ty := none } -- func(int) int
theorem ti89_ok : ti89.ok Try.prog 89 := ⟨by kernel_rfl, ⟨_, Try.underlying89, rfl⟩, ⟨rfl, rfl⟩⟩
def ti90 : TI := { size := 1, agg := false, bytes := 8, kind := .other, zc := [.nilFunc], ty := none } -- func(int, int) int
theorem ti90_ok : ti90.ok Try.prog 90 := ⟨by kernel_rfl, ⟨_, Try.underlying90, rfl⟩, ⟨rfl, rfl⟩⟩
def ti91 : TI := { size := 1, agg := false, bytes := 8, kind := .other, zc := [.nilFunc], ty := none } -- func(api.Commit, int) int
theorem ti91_ok : ti91.ok Try.prog 91 := ⟨by kernel_rfl, ⟨_, Try.underlying91, rfl⟩, ⟨rfl, rfl⟩⟩
def ti92 : TI := { size := 1, agg := false, bytes := 8, kind := .other, zc := [.nilFunc], ty := none } -- func(digest.step, int) int
theorem ti92_ok : ti92.ok Try.prog 92 := ⟨by kernel_rfl, ⟨_, Try.underlying92, rfl⟩, ⟨rfl, rfl⟩⟩
def ti93 : TI := { size := 2, agg := true, bytes := 16, kind := .array 2 3, zc := [.int .i64 0, .int .i64 0], ty := none } -- [2]int
theorem ti93_ok : ti93.ok Try.prog 93 := ⟨by kernel_rfl, ⟨_, Try.underlying93, ⟨rfl, rfl⟩⟩, ⟨rfl, rfl⟩⟩
def ty93 : Ty := .st (.pair (.int .i64) (.int .i64))
theorem ty93_ok : TyOk Try.prog 93 ti93 ty93 := ⟨ti93_ok, rfl, rfl⟩
def ti94 : TI := { size := 2, agg := true, bytes := 16, kind := .array 2 3, zc := [.int .i64 0, .int .i64 0], ty := none } -- digest.step
theorem ti94_ok : ti94.ok Try.prog 94 := ⟨by kernel_rfl, ⟨_, Try.underlying94, ⟨rfl, rfl⟩⟩, ⟨rfl, rfl⟩⟩
def ty94 : Ty := .st (.pair (.int .i64) (.int .i64))
theorem ty94_ok : TyOk Try.prog 94 ti94 ty94 := ⟨ti94_ok, rfl, rfl⟩
def ti95 : TI := { size := 1, agg := false, bytes := 8, kind := .other, zc := [.nilFunc], ty := none } -- func() int
theorem ti95_ok : ti95.ok Try.prog 95 := ⟨by kernel_rfl, ⟨_, Try.underlying95, rfl⟩, ⟨rfl, rfl⟩⟩
def ti96 : TI := { size := 1, agg := false, bytes := 8, kind := .other, zc := [.nilFunc], ty := none } -- func(api.RevQuery) api.Fault
theorem ti96_ok : ti96.ok Try.prog 96 := ⟨by kernel_rfl, ⟨_, Try.underlying96, rfl⟩, ⟨rfl, rfl⟩⟩
def ti97 : TI := { size := 1, agg := false, bytes := 8, kind := .other, zc := [.nilFunc], ty := none } -- func(api.RevNode, api.Commit, int) bool
theorem ti97_ok : ti97.ok Try.prog 97 := ⟨by kernel_rfl, ⟨_, Try.underlying97, rfl⟩, ⟨rfl, rfl⟩⟩
def ti98 : TI := { size := 1, agg := false, bytes := 8, kind := .other, zc := [.nilFunc], ty := none } -- func([]api.Commit, int, []bool) []bool
theorem ti98_ok : ti98.ok Try.prog 98 := ⟨by kernel_rfl, ⟨_, Try.underlying98, rfl⟩, ⟨rfl, rfl⟩⟩
def ti99 : TI := { size := 1, agg := false, bytes := 8, kind := .other, zc := [.nilFunc], ty := none } -- func([]bool, []bool) []bool
theorem ti99_ok : ti99.ok Try.prog 99 := ⟨by kernel_rfl, ⟨_, Try.underlying99, rfl⟩, ⟨rfl, rfl⟩⟩
def ti100 : TI := { size := 1, agg := false, bytes := 8, kind := .other, zc := [.nilFunc], ty := none } -- func([]api.Commit, []bool) int
theorem ti100_ok : ti100.ok Try.prog 100 := ⟨by kernel_rfl, ⟨_, Try.underlying100, rfl⟩, ⟨rfl, rfl⟩⟩
def ti101 : TI := { size := 1, agg := false, bytes := 8, kind := .other, zc := [.nilFunc], ty := none } -- func([]api.Commit) []int
theorem ti101_ok : ti101.ok Try.prog 101 := ⟨by kernel_rfl, ⟨_, Try.underlying101, rfl⟩, ⟨rfl, rfl⟩⟩
def ti102 : TI := { size := 1, agg := false, bytes := 8, kind := .other, zc := [.nilFunc], ty := none } -- func(func(int, api.Commit) bool)
theorem ti102_ok : ti102.ok Try.prog 102 := ⟨by kernel_rfl, ⟨_, Try.underlying102, rfl⟩, ⟨rfl, rfl⟩⟩
def ti103 : TI := { size := 1, agg := false, bytes := 8, kind := .other, zc := [.nilFunc], ty := none } -- iter.Seq2[int,changeforge.api.Commit]
theorem ti103_ok : ti103.ok Try.prog 103 := ⟨by kernel_rfl, ⟨_, Try.underlying103, rfl⟩, ⟨rfl, rfl⟩⟩
def ti104 : TI := { size := 1, agg := false, bytes := 8, kind := .other, zc := [.nilFunc], ty := none } -- func([]api.Commit) iter.Seq2[int,changeforge.api.Commit]
theorem ti104_ok : ti104.ok Try.prog 104 := ⟨by kernel_rfl, ⟨_, Try.underlying104, rfl⟩, ⟨rfl, rfl⟩⟩
def ti105 : TI := { size := 1, agg := false, bytes := 8, kind := .other, zc := [.nilFunc], ty := none } -- func(api.RevNode, int, []int) int
theorem ti105_ok : ti105.ok Try.prog 105 := ⟨by kernel_rfl, ⟨_, Try.underlying105, rfl⟩, ⟨rfl, rfl⟩⟩
def ti106 : TI := { size := 1, agg := false, bytes := 8, kind := .other, zc := [.nilFunc], ty := none } -- func([]bool) []int
theorem ti106_ok : ti106.ok Try.prog 106 := ⟨by kernel_rfl, ⟨_, Try.underlying106, rfl⟩, ⟨rfl, rfl⟩⟩
def ti107 : TI := { size := 1, agg := false, bytes := 8, kind := .other, zc := [.nilFunc], ty := none } -- func([]api.Commit, []bool) []bool
theorem ti107_ok : ti107.ok Try.prog 107 := ⟨by kernel_rfl, ⟨_, Try.underlying107, rfl⟩, ⟨rfl, rfl⟩⟩
def ti108 : TI := { size := 1, agg := false, bytes := 8, kind := .other, zc := [.nilFunc], ty := none } -- func([]api.Commit, []bool, bool) []bool
theorem ti108_ok : ti108.ok Try.prog 108 := ⟨by kernel_rfl, ⟨_, Try.underlying108, rfl⟩, ⟨rfl, rfl⟩⟩
def ti109 : TI := { size := 1, agg := false, bytes := 8, kind := .other, zc := [.nilFunc], ty := none } -- func([]int, func(int) bool) bool
theorem ti109_ok : ti109.ok Try.prog 109 := ⟨by kernel_rfl, ⟨_, Try.underlying109, rfl⟩, ⟨rfl, rfl⟩⟩
def ti110 : TI := { size := 1, agg := false, bytes := 8, kind := .other, zc := [.nilFunc], ty := none } -- func(int, api.Commit) bool
theorem ti110_ok : ti110.ok Try.prog 110 := ⟨by kernel_rfl, ⟨_, Try.underlying110, rfl⟩, ⟨rfl, rfl⟩⟩
def ti111 : TI := { size := 1, agg := false, bytes := 8, kind := .int .u64, zc := [.int .u64 0], ty := none } -- uint
theorem ti111_ok : ti111.ok Try.prog 111 := ⟨by kernel_rfl, ⟨_, Try.underlying111, ⟨rfl, rfl⟩⟩, ⟨rfl, rfl⟩⟩
def ty111 : Ty := .int .u64
theorem ty111_ok : TyOk Try.prog 111 ti111 ty111 := ⟨ti111_ok, rfl, rfl⟩
def ti112 : TI := { size := 1, agg := false, bytes := 8, kind := .other, zc := [.nilFunc], ty := none } -- func([]int, func(int) bool) int
theorem ti112_ok : ti112.ok Try.prog 112 := ⟨by kernel_rfl, ⟨_, Try.underlying112, rfl⟩, ⟨rfl, rfl⟩⟩
def ti113 : TI := { size := 1, agg := false, bytes := 8, kind := .other, zc := [.nilFunc], ty := none } -- func() string
theorem ti113_ok : ti113.ok Try.prog 113 := ⟨by kernel_rfl, ⟨_, Try.underlying113, rfl⟩, ⟨rfl, rfl⟩⟩
def ti114 : TI := { size := 4, agg := true, bytes := 40, kind := .struct [(0, 17), (1, 17), (2, 17), (3, 9)], zc := [.pointer none, .pointer none, .pointer none, .string .empty], ty := none } -- struct { _interface *abi.Type; concrete *abi.Type; asserted 
theorem ti114_ok : ti114.ok Try.prog 114 := ⟨by kernel_rfl, ⟨_, Try.underlying114, ⟨rfl, _, rfl, rfl⟩⟩, ⟨rfl, rfl⟩⟩
def ti115 : TI := { size := 4, agg := true, bytes := 40, kind := .struct [(0, 17), (1, 17), (2, 17), (3, 9)], zc := [.pointer none, .pointer none, .pointer none, .string .empty], ty := none } -- runtime.TypeAssertionError
theorem ti115_ok : ti115.ok Try.prog 115 := ⟨by kernel_rfl, ⟨_, Try.underlying115, ⟨rfl, _, rfl, rfl⟩⟩, ⟨rfl, rfl⟩⟩
def ti119 : TI := { size := 1, agg := false, bytes := 4, kind := .int .u32, zc := [.int .u32 0], ty := none } -- uint32
theorem ti119_ok : ti119.ok Try.prog 119 := ⟨by kernel_rfl, ⟨_, Try.underlying119, ⟨rfl, rfl⟩⟩, ⟨rfl, rfl⟩⟩
def ty119 : Ty := .int .u32
theorem ty119_ok : TyOk Try.prog 119 ti119 ty119 := ⟨ti119_ok, rfl, rfl⟩
def ti120 : TI := { size := 1, agg := false, bytes := 1, kind := .int .u8, zc := [.int .u8 0], ty := none } -- abi.TFlag
theorem ti120_ok : ti120.ok Try.prog 120 := ⟨by kernel_rfl, ⟨_, Try.underlying120, ⟨rfl, rfl⟩⟩, ⟨rfl, rfl⟩⟩
def ty120 : Ty := .int .u8
theorem ty120_ok : TyOk Try.prog 120 ti120 ty120 := ⟨ti120_ok, rfl, rfl⟩
def ti121 : TI := { size := 1, agg := false, bytes := 1, kind := .int .u8, zc := [.int .u8 0], ty := none } -- abi.Kind
theorem ti121_ok : ti121.ok Try.prog 121 := ⟨by kernel_rfl, ⟨_, Try.underlying121, ⟨rfl, rfl⟩⟩, ⟨rfl, rfl⟩⟩
def ty121 : Ty := .int .u8
theorem ty121_ok : TyOk Try.prog 121 ti121 ty121 := ⟨ti121_ok, rfl, rfl⟩
def ti122 : TI := { size := 1, agg := false, bytes := 8, kind := .other, zc := [.nilFunc], ty := none } -- func(unsafe.Pointer, unsafe.Pointer) bool
theorem ti122_ok : ti122.ok Try.prog 122 := ⟨by kernel_rfl, ⟨_, Try.underlying122, rfl⟩, ⟨rfl, rfl⟩⟩
def ti123 : TI := { size := 1, agg := false, bytes := 8, kind := .other, zc := [.pointer none], ty := none } -- *uint8
theorem ti123_ok : ti123.ok Try.prog 123 := ⟨by kernel_rfl, ⟨_, Try.underlying123, rfl⟩, ⟨rfl, rfl⟩⟩
def ti124 : TI := { size := 1, agg := false, bytes := 4, kind := .int .i32, zc := [.int .i32 0], ty := none } -- abi.NameOff
theorem ti124_ok : ti124.ok Try.prog 124 := ⟨by kernel_rfl, ⟨_, Try.underlying124, ⟨rfl, rfl⟩⟩, ⟨rfl, rfl⟩⟩
def ty124 : Ty := .int .i32
theorem ty124_ok : TyOk Try.prog 124 ti124 ty124 := ⟨ti124_ok, rfl, rfl⟩
def ti125 : TI := { size := 1, agg := false, bytes := 4, kind := .int .i32, zc := [.int .i32 0], ty := none } -- abi.TypeOff
theorem ti125_ok : ti125.ok Try.prog 125 := ⟨by kernel_rfl, ⟨_, Try.underlying125, ⟨rfl, rfl⟩⟩, ⟨rfl, rfl⟩⟩
def ty125 : Ty := .int .i32
theorem ty125_ok : TyOk Try.prog 125 ti125 ty125 := ⟨ti125_ok, rfl, rfl⟩
def ti126 : TI := { size := 11, agg := true, bytes := 48, kind := .struct [(0, 12), (1, 12), (2, 119), (3, 120), (4, 5), (5, 5), (6, 121), (7, 122), (8, 123), (9, 124), (10, 125)], zc := [.int .u64 0, .int .u64 0, .int .u32 0, .int .u8 0, .int .u8 0, .int .u8 0, .int .u8 0, .nilFunc, .pointer none, .int .i32 0, .int .i32 0], ty := none } -- struct { Size_ uintptr; PtrBytes uintptr; Hash uint32; TFlag
theorem ti126_ok : ti126.ok Try.prog 126 := ⟨by kernel_rfl, ⟨_, Try.underlying126, ⟨rfl, _, rfl, rfl⟩⟩, ⟨rfl, rfl⟩⟩
def ti127 : TI := { size := 11, agg := true, bytes := 48, kind := .struct [(0, 12), (1, 12), (2, 119), (3, 120), (4, 5), (5, 5), (6, 121), (7, 122), (8, 123), (9, 124), (10, 125)], zc := [.int .u64 0, .int .u64 0, .int .u32 0, .int .u8 0, .int .u8 0, .int .u8 0, .int .u8 0, .nilFunc, .pointer none, .int .i32 0, .int .i32 0], ty := none } -- abi.Type
theorem ti127_ok : ti127.ok Try.prog 127 := ⟨by kernel_rfl, ⟨_, Try.underlying127, ⟨rfl, _, rfl, rfl⟩⟩, ⟨rfl, rfl⟩⟩

def lk {α : Type} : List (Nat × α) → Nat → Option α
  | [], _ => none
  | (k, x) :: l, t => bif Nat.beq t k then some x else lk l t
def lkAll {α : Type} (Q : Nat → α → Prop) : List (Nat × α) → Prop
  | [] => True
  | (k, x) :: l => Q k x ∧ lkAll Q l
theorem lk_all {α : Type} {Q : Nat → α → Prop} : ∀ (l : List (Nat × α)), lkAll Q l → ∀ t x, lk l t = some x → Q t x
  | [], _, t, x, h => by cases h
  | (k, y) :: l, hq, t, x, h => by
    unfold lk at h
    cases hb : Nat.beq t k
    · rw [hb] at h; exact lk_all l hq.2 t x h
    · rw [hb] at h
      cases h
      rw [Nat.eq_of_beq_eq_true hb]
      exact hq.1
theorem lk_mem {α : Type} {Q : Nat → α → Prop} (l : List (Nat × α)) (h : ∀ p ∈ l, Q p.1 p.2) : ∀ t x, lk l t = some x → Q t x := by
  refine lk_all l ?_
  induction l with
  | nil => trivial
  | cons p l ih => exact ⟨h p List.mem_cons_self, ih fun q hq => h q (List.mem_cons_of_mem _ hq)⟩
def tlist : List (Nat × TI) := [(1, { size := 1, agg := false, bytes := 8, kind := .other, zc := [.nilFunc], ty := none }), (2, { size := 1, agg := false, bytes := 8, kind := .int .i64, zc := [.int .i64 0], ty := none }), (3, { size := 1, agg := false, bytes := 8, kind := .int .i64, zc := [.int .i64 0], ty := none }), (4, { size := 1, agg := false, bytes := 1, kind := .bool, zc := [.bool false], ty := none }), (5, { size := 1, agg := false, bytes := 1, kind := .int .u8, zc := [.int .u8 0], ty := none }), (6, { size := 1, agg := false, bytes := 1, kind := .int .u8, zc := [.int .u8 0], ty := none }), (7, { size := 4, agg := true, bytes := 24, kind := .struct [(0, 2), (1, 3), (2, 4), (3, 6)], zc := [.int .i64 0, .int .i64 0, .bool false, .int .u8 0], ty := none }), (8, { size := 4, agg := true, bytes := 24, kind := .struct [(0, 2), (1, 3), (2, 4), (3, 6)], zc := [.int .i64 0, .int .i64 0, .bool false, .int .u8 0], ty := none }), (9, { size := 1, agg := false, bytes := 16, kind := .str, zc := [.string .empty], ty := none }), (10, { size := 1, agg := false, bytes := 16, kind := .str, zc := [.string .empty], ty := none }), (11, { size := 1, agg := false, bytes := 16, kind := .str, zc := [.string .empty], ty := none }), (12, { size := 1, agg := false, bytes := 8, kind := .int .u64, zc := [.int .u64 0], ty := none }), (13, { size := 2, agg := true, bytes := 24, kind := .struct [(0, 9), (1, 12)], zc := [.string .empty, .int .u64 0], ty := none }), (14, { size := 2, agg := true, bytes := 24, kind := .struct [(0, 9), (1, 12)], zc := [.string .empty, .int .u64 0], ty := none }), (15, { size := 1, agg := false, bytes := 8, kind := .other, zc := [.pointer none], ty := none }), (16, { size := 1, agg := false, bytes := 8, kind := .other, zc := [.pointer none], ty := none }), (17, { size := 1, agg := false, bytes := 8, kind := .other, zc := [.pointer none], ty := none }), (18, { size := 1, agg := true, bytes := 8, kind := .struct [(0, 17)], zc := [.pointer none], ty := none }), (19, { size := 1, agg := true, bytes := 8, kind := .struct [(0, 17)], zc := [.pointer none], ty := none }), (21, { size := 1, agg := false, bytes := 4, kind := .int .i32, zc := [.int .i32 0], ty := none }), (22, { size := 1, agg := false, bytes := 24, kind := .slice 61, zc := [.slice none 0 0], ty := none }), (23, { size := 2, agg := true, bytes := 16, kind := .struct [(0, 3), (1, 3)], zc := [.int .i64 0, .int .i64 0], ty := none }), (24, { size := 2, agg := true, bytes := 16, kind := .struct [(0, 3), (1, 3)], zc := [.int .i64 0, .int .i64 0], ty := none }), (26, { size := 1, agg := false, bytes := 8, kind := .other, zc := [.nilFunc], ty := none }), (27, { size := 1, agg := false, bytes := 24, kind := .slice 3, zc := [.slice none 0 0], ty := none }), (29, { size := 1, agg := false, bytes := 8, kind := .other, zc := [.nilFunc], ty := none }), (30, { size := 1, agg := false, bytes := 8, kind := .other, zc := [.nilFunc], ty := none }), (31, { size := 1, agg := false, bytes := 8, kind := .other, zc := [.nilFunc], ty := none }), (32, { size := 1, agg := false, bytes := 8, kind := .other, zc := [.nilFunc], ty := none }), (34, { size := 1, agg := false, bytes := 8, kind := .other, zc := [.nilFunc], ty := none }), (35, { size := 1, agg := false, bytes := 8, kind := .other, zc := [.nilFunc], ty := none }), (37, { size := 1, agg := false, bytes := 8, kind := .other, zc := [.nilFunc], ty := none }), (38, { size := 1, agg := false, bytes := 8, kind := .other, zc := [.nilFunc], ty := none }), (39, { size := 1, agg := false, bytes := 8, kind := .other, zc := [.nilFunc], ty := none }), (40, { size := 1, agg := false, bytes := 24, kind := .slice 77, zc := [.slice none 0 0], ty := none }), (41, { size := 1, agg := true, bytes := 24, kind := .struct [(0, 40)], zc := [.slice none 0 0], ty := none }), (42, { size := 1, agg := true, bytes := 24, kind := .struct [(0, 40)], zc := [.slice none 0 0], ty := none }), (43, { size := 1, agg := false, bytes := 8, kind := .other, zc := [.nilFunc], ty := none }), (44, { size := 1, agg := false, bytes := 8, kind := .other, zc := [.nilFunc], ty := none }), (45, { size := 1, agg := false, bytes := 8, kind := .other, zc := [.nilFunc], ty := none }), (47, { size := 1, agg := false, bytes := 8, kind := .other, zc := [.nilFunc], ty := none }), (48, { size := 1, agg := false, bytes := 8, kind := .other, zc := [.nilFunc], ty := none }), (49, { size := 1, agg := false, bytes := 8, kind := .other, zc := [.nilFunc], ty := none }), (50, { size := 1, agg := false, bytes := 8, kind := .other, zc := [.nilFunc], ty := none }), (51, { size := 1, agg := false, bytes := 24, kind := .slice 4, zc := [.slice none 0 0], ty := none }), (52, { size := 1, agg := false, bytes := 24, kind := .slice 27, zc := [.slice none 0 0], ty := none }), (54, { size := 1, agg := false, bytes := 8, kind := .other, zc := [.nilFunc], ty := none }), (55, { size := 1, agg := false, bytes := 8, kind := .other, zc := [.nilFunc], ty := none }), (56, { size := 1, agg := false, bytes := 8, kind := .other, zc := [.nilFunc], ty := none }), (57, { size := 1, agg := false, bytes := 8, kind := .other, zc := [.nilFunc], ty := none }), (58, { size := 1, agg := false, bytes := 8, kind := .other, zc := [.nilFunc], ty := none }), (59, { size := 1, agg := false, bytes := 8, kind := .other, zc := [.nilFunc], ty := none }), (60, { size := 5, agg := true, bytes := 64, kind := .struct [(0, 27), (1, 3), (2, 3), (3, 3), (4, 9)], zc := [.slice none 0 0, .int .i64 0, .int .i64 0, .int .i64 0, .string .empty], ty := none }), (61, { size := 5, agg := true, bytes := 64, kind := .struct [(0, 27), (1, 3), (2, 3), (3, 3), (4, 9)], zc := [.slice none 0 0, .int .i64 0, .int .i64 0, .int .i64 0, .string .empty], ty := none }), (62, { size := 1, agg := false, bytes := 8, kind := .other, zc := [.nilFunc], ty := none }), (63, { size := 1, agg := false, bytes := 24, kind := .slice 5, zc := [.slice none 0 0], ty := none }), (64, { size := 1, agg := false, bytes := 8, kind := .other, zc := [.nilFunc], ty := none }), (65, { size := 1, agg := false, bytes := 8, kind := .other, zc := [.nilFunc], ty := none }), (66, { size := 1, agg := false, bytes := 8, kind := .other, zc := [.nilFunc], ty := none }), (67, { size := 4, agg := true, bytes := 4, kind := .array 4 4, zc := [.bool false, .bool false, .bool false, .bool false], ty := none }), (68, { size := 1, agg := false, bytes := 8, kind := .other, zc := [.pointer none], ty := none }), (69, { size := 2, agg := true, bytes := 32, kind := .struct [(0, 27), (1, 4)], zc := [.slice none 0 0, .bool false], ty := none }), (70, { size := 2, agg := true, bytes := 32, kind := .struct [(0, 27), (1, 4)], zc := [.slice none 0 0, .bool false], ty := none }), (72, { size := 1, agg := false, bytes := 8, kind := .other, zc := [.nilFunc], ty := none }), (73, { size := 1, agg := false, bytes := 8, kind := .other, zc := [.nilFunc], ty := none }), (75, { size := 1, agg := false, bytes := 8, kind := .other, zc := [.nilFunc], ty := none }), (76, { size := 4, agg := true, bytes := 32, kind := .struct [(0, 3), (1, 3), (2, 3), (3, 3)], zc := [.int .i64 0, .int .i64 0, .int .i64 0, .int .i64 0], ty := none }), (77, { size := 4, agg := true, bytes := 32, kind := .struct [(0, 3), (1, 3), (2, 3), (3, 3)], zc := [.int .i64 0, .int .i64 0, .int .i64 0, .int .i64 0], ty := none }), (78, { size := 1, agg := false, bytes := 8, kind := .other, zc := [.nilFunc], ty := none }), (79, { size := 1, agg := false, bytes := 8, kind := .other, zc := [.nilFunc], ty := none }), (80, { size := 1, agg := false, bytes := 8, kind := .other, zc := [.nilFunc], ty := none }), (81, { size := 1, agg := false, bytes := 24, kind := .slice 51, zc := [.slice none 0 0], ty := none }), (82, { size := 1, agg := false, bytes := 8, kind := .other, zc := [.nilFunc], ty := none }), (83, { size := 1, agg := false, bytes := 8, kind := .other, zc := [.nilFunc], ty := none }), (84, { size := 1, agg := false, bytes := 8, kind := .other, zc := [.nilFunc], ty := none }), (85, { size := 1, agg := false, bytes := 8, kind := .other, zc := [.nilFunc], ty := none }), (86, { size := 1, agg := false, bytes := 8, kind := .other, zc := [.nilFunc], ty := none }), (87, { size := 1, agg := false, bytes := 8, kind := .other, zc := [.nilFunc], ty := none }), (88, { size := 1, agg := false, bytes := 8, kind := .other, zc := [.nilFunc], ty := none }), (89, { size := 1, agg := false, bytes := 8, kind := .other, zc := [.nilFunc], ty := none }), (90, { size := 1, agg := false, bytes := 8, kind := .other, zc := [.nilFunc], ty := none }), (91, { size := 1, agg := false, bytes := 8, kind := .other, zc := [.nilFunc], ty := none }), (92, { size := 1, agg := false, bytes := 8, kind := .other, zc := [.nilFunc], ty := none }), (93, { size := 2, agg := true, bytes := 16, kind := .array 2 3, zc := [.int .i64 0, .int .i64 0], ty := none }), (94, { size := 2, agg := true, bytes := 16, kind := .array 2 3, zc := [.int .i64 0, .int .i64 0], ty := none }), (95, { size := 1, agg := false, bytes := 8, kind := .other, zc := [.nilFunc], ty := none }), (96, { size := 1, agg := false, bytes := 8, kind := .other, zc := [.nilFunc], ty := none }), (97, { size := 1, agg := false, bytes := 8, kind := .other, zc := [.nilFunc], ty := none }), (98, { size := 1, agg := false, bytes := 8, kind := .other, zc := [.nilFunc], ty := none }), (99, { size := 1, agg := false, bytes := 8, kind := .other, zc := [.nilFunc], ty := none }), (100, { size := 1, agg := false, bytes := 8, kind := .other, zc := [.nilFunc], ty := none }), (101, { size := 1, agg := false, bytes := 8, kind := .other, zc := [.nilFunc], ty := none }), (102, { size := 1, agg := false, bytes := 8, kind := .other, zc := [.nilFunc], ty := none }), (103, { size := 1, agg := false, bytes := 8, kind := .other, zc := [.nilFunc], ty := none }), (104, { size := 1, agg := false, bytes := 8, kind := .other, zc := [.nilFunc], ty := none }), (105, { size := 1, agg := false, bytes := 8, kind := .other, zc := [.nilFunc], ty := none }), (106, { size := 1, agg := false, bytes := 8, kind := .other, zc := [.nilFunc], ty := none }), (107, { size := 1, agg := false, bytes := 8, kind := .other, zc := [.nilFunc], ty := none }), (108, { size := 1, agg := false, bytes := 8, kind := .other, zc := [.nilFunc], ty := none }), (109, { size := 1, agg := false, bytes := 8, kind := .other, zc := [.nilFunc], ty := none }), (110, { size := 1, agg := false, bytes := 8, kind := .other, zc := [.nilFunc], ty := none }), (111, { size := 1, agg := false, bytes := 8, kind := .int .u64, zc := [.int .u64 0], ty := none }), (112, { size := 1, agg := false, bytes := 8, kind := .other, zc := [.nilFunc], ty := none }), (113, { size := 1, agg := false, bytes := 8, kind := .other, zc := [.nilFunc], ty := none }), (114, { size := 4, agg := true, bytes := 40, kind := .struct [(0, 17), (1, 17), (2, 17), (3, 9)], zc := [.pointer none, .pointer none, .pointer none, .string .empty], ty := none }), (115, { size := 4, agg := true, bytes := 40, kind := .struct [(0, 17), (1, 17), (2, 17), (3, 9)], zc := [.pointer none, .pointer none, .pointer none, .string .empty], ty := none }), (119, { size := 1, agg := false, bytes := 4, kind := .int .u32, zc := [.int .u32 0], ty := none }), (120, { size := 1, agg := false, bytes := 1, kind := .int .u8, zc := [.int .u8 0], ty := none }), (121, { size := 1, agg := false, bytes := 1, kind := .int .u8, zc := [.int .u8 0], ty := none }), (122, { size := 1, agg := false, bytes := 8, kind := .other, zc := [.nilFunc], ty := none }), (123, { size := 1, agg := false, bytes := 8, kind := .other, zc := [.pointer none], ty := none }), (124, { size := 1, agg := false, bytes := 4, kind := .int .i32, zc := [.int .i32 0], ty := none }), (125, { size := 1, agg := false, bytes := 4, kind := .int .i32, zc := [.int .i32 0], ty := none }), (126, { size := 11, agg := true, bytes := 48, kind := .struct [(0, 12), (1, 12), (2, 119), (3, 120), (4, 5), (5, 5), (6, 121), (7, 122), (8, 123), (9, 124), (10, 125)], zc := [.int .u64 0, .int .u64 0, .int .u32 0, .int .u8 0, .int .u8 0, .int .u8 0, .int .u8 0, .nilFunc, .pointer none, .int .i32 0, .int .i32 0], ty := none }), (127, { size := 11, agg := true, bytes := 48, kind := .struct [(0, 12), (1, 12), (2, 119), (3, 120), (4, 5), (5, 5), (6, 121), (7, 122), (8, 123), (9, 124), (10, 125)], zc := [.int .u64 0, .int .u64 0, .int .u32 0, .int .u8 0, .int .u8 0, .int .u8 0, .int .u8 0, .nilFunc, .pointer none, .int .i32 0, .int .i32 0], ty := none })]
def tl (t : Nat) : Option TI := lk tlist t
theorem tl_ok : ∀ t i, tl t = some i → i.ok Try.prog t ∧ (i.agg = false → i.size = 1) ∧ 0 < i.size := by
  intro t i h
  exact lk_all (Q := fun t i => i.ok Try.prog t ∧ (i.agg = false → i.size = 1) ∧ 0 < i.size) tlist
    ⟨⟨ti1_ok, fun _ => rfl, Nat.succ_pos _⟩, ⟨ti2_ok, fun _ => rfl, Nat.succ_pos _⟩, ⟨ti3_ok, fun _ => rfl, Nat.succ_pos _⟩, ⟨ti4_ok, fun _ => rfl, Nat.succ_pos _⟩, ⟨ti5_ok, fun _ => rfl, Nat.succ_pos _⟩, ⟨ti6_ok, fun _ => rfl, Nat.succ_pos _⟩, ⟨ti7_ok, fun h => (by cases h), Nat.succ_pos _⟩, ⟨ti8_ok, fun h => (by cases h), Nat.succ_pos _⟩, ⟨ti9_ok, fun _ => rfl, Nat.succ_pos _⟩, ⟨ti10_ok, fun _ => rfl, Nat.succ_pos _⟩, ⟨ti11_ok, fun _ => rfl, Nat.succ_pos _⟩, ⟨ti12_ok, fun _ => rfl, Nat.succ_pos _⟩, ⟨ti13_ok, fun h => (by cases h), Nat.succ_pos _⟩, ⟨ti14_ok, fun h => (by cases h), Nat.succ_pos _⟩, ⟨ti15_ok, fun _ => rfl, Nat.succ_pos _⟩, ⟨ti16_ok, fun _ => rfl, Nat.succ_pos _⟩, ⟨ti17_ok, fun _ => rfl, Nat.succ_pos _⟩, ⟨ti18_ok, fun h => (by cases h), Nat.succ_pos _⟩, ⟨ti19_ok, fun h => (by cases h), Nat.succ_pos _⟩, ⟨ti21_ok, fun _ => rfl, Nat.succ_pos _⟩, ⟨ti22_ok, fun _ => rfl, Nat.succ_pos _⟩, ⟨ti23_ok, fun h => (by cases h), Nat.succ_pos _⟩, ⟨ti24_ok, fun h => (by cases h), Nat.succ_pos _⟩, ⟨ti26_ok, fun _ => rfl, Nat.succ_pos _⟩, ⟨ti27_ok, fun _ => rfl, Nat.succ_pos _⟩, ⟨ti29_ok, fun _ => rfl, Nat.succ_pos _⟩, ⟨ti30_ok, fun _ => rfl, Nat.succ_pos _⟩, ⟨ti31_ok, fun _ => rfl, Nat.succ_pos _⟩, ⟨ti32_ok, fun _ => rfl, Nat.succ_pos _⟩, ⟨ti34_ok, fun _ => rfl, Nat.succ_pos _⟩, ⟨ti35_ok, fun _ => rfl, Nat.succ_pos _⟩, ⟨ti37_ok, fun _ => rfl, Nat.succ_pos _⟩, ⟨ti38_ok, fun _ => rfl, Nat.succ_pos _⟩, ⟨ti39_ok, fun _ => rfl, Nat.succ_pos _⟩, ⟨ti40_ok, fun _ => rfl, Nat.succ_pos _⟩, ⟨ti41_ok, fun h => (by cases h), Nat.succ_pos _⟩, ⟨ti42_ok, fun h => (by cases h), Nat.succ_pos _⟩, ⟨ti43_ok, fun _ => rfl, Nat.succ_pos _⟩, ⟨ti44_ok, fun _ => rfl, Nat.succ_pos _⟩, ⟨ti45_ok, fun _ => rfl, Nat.succ_pos _⟩, ⟨ti47_ok, fun _ => rfl, Nat.succ_pos _⟩, ⟨ti48_ok, fun _ => rfl, Nat.succ_pos _⟩, ⟨ti49_ok, fun _ => rfl, Nat.succ_pos _⟩, ⟨ti50_ok, fun _ => rfl, Nat.succ_pos _⟩, ⟨ti51_ok, fun _ => rfl, Nat.succ_pos _⟩, ⟨ti52_ok, fun _ => rfl, Nat.succ_pos _⟩, ⟨ti54_ok, fun _ => rfl, Nat.succ_pos _⟩, ⟨ti55_ok, fun _ => rfl, Nat.succ_pos _⟩, ⟨ti56_ok, fun _ => rfl, Nat.succ_pos _⟩, ⟨ti57_ok, fun _ => rfl, Nat.succ_pos _⟩, ⟨ti58_ok, fun _ => rfl, Nat.succ_pos _⟩, ⟨ti59_ok, fun _ => rfl, Nat.succ_pos _⟩, ⟨ti60_ok, fun h => (by cases h), Nat.succ_pos _⟩, ⟨ti61_ok, fun h => (by cases h), Nat.succ_pos _⟩, ⟨ti62_ok, fun _ => rfl, Nat.succ_pos _⟩, ⟨ti63_ok, fun _ => rfl, Nat.succ_pos _⟩, ⟨ti64_ok, fun _ => rfl, Nat.succ_pos _⟩, ⟨ti65_ok, fun _ => rfl, Nat.succ_pos _⟩, ⟨ti66_ok, fun _ => rfl, Nat.succ_pos _⟩, ⟨ti67_ok, fun h => (by cases h), Nat.succ_pos _⟩, ⟨ti68_ok, fun _ => rfl, Nat.succ_pos _⟩, ⟨ti69_ok, fun h => (by cases h), Nat.succ_pos _⟩, ⟨ti70_ok, fun h => (by cases h), Nat.succ_pos _⟩, ⟨ti72_ok, fun _ => rfl, Nat.succ_pos _⟩, ⟨ti73_ok, fun _ => rfl, Nat.succ_pos _⟩, ⟨ti75_ok, fun _ => rfl, Nat.succ_pos _⟩, ⟨ti76_ok, fun h => (by cases h), Nat.succ_pos _⟩, ⟨ti77_ok, fun h => (by cases h), Nat.succ_pos _⟩, ⟨ti78_ok, fun _ => rfl, Nat.succ_pos _⟩, ⟨ti79_ok, fun _ => rfl, Nat.succ_pos _⟩, ⟨ti80_ok, fun _ => rfl, Nat.succ_pos _⟩, ⟨ti81_ok, fun _ => rfl, Nat.succ_pos _⟩, ⟨ti82_ok, fun _ => rfl, Nat.succ_pos _⟩, ⟨ti83_ok, fun _ => rfl, Nat.succ_pos _⟩, ⟨ti84_ok, fun _ => rfl, Nat.succ_pos _⟩, ⟨ti85_ok, fun _ => rfl, Nat.succ_pos _⟩, ⟨ti86_ok, fun _ => rfl, Nat.succ_pos _⟩, ⟨ti87_ok, fun _ => rfl, Nat.succ_pos _⟩, ⟨ti88_ok, fun _ => rfl, Nat.succ_pos _⟩, ⟨ti89_ok, fun _ => rfl, Nat.succ_pos _⟩, ⟨ti90_ok, fun _ => rfl, Nat.succ_pos _⟩, ⟨ti91_ok, fun _ => rfl, Nat.succ_pos _⟩, ⟨ti92_ok, fun _ => rfl, Nat.succ_pos _⟩, ⟨ti93_ok, fun h => (by cases h), Nat.succ_pos _⟩, ⟨ti94_ok, fun h => (by cases h), Nat.succ_pos _⟩, ⟨ti95_ok, fun _ => rfl, Nat.succ_pos _⟩, ⟨ti96_ok, fun _ => rfl, Nat.succ_pos _⟩, ⟨ti97_ok, fun _ => rfl, Nat.succ_pos _⟩, ⟨ti98_ok, fun _ => rfl, Nat.succ_pos _⟩, ⟨ti99_ok, fun _ => rfl, Nat.succ_pos _⟩, ⟨ti100_ok, fun _ => rfl, Nat.succ_pos _⟩, ⟨ti101_ok, fun _ => rfl, Nat.succ_pos _⟩, ⟨ti102_ok, fun _ => rfl, Nat.succ_pos _⟩, ⟨ti103_ok, fun _ => rfl, Nat.succ_pos _⟩, ⟨ti104_ok, fun _ => rfl, Nat.succ_pos _⟩, ⟨ti105_ok, fun _ => rfl, Nat.succ_pos _⟩, ⟨ti106_ok, fun _ => rfl, Nat.succ_pos _⟩, ⟨ti107_ok, fun _ => rfl, Nat.succ_pos _⟩, ⟨ti108_ok, fun _ => rfl, Nat.succ_pos _⟩, ⟨ti109_ok, fun _ => rfl, Nat.succ_pos _⟩, ⟨ti110_ok, fun _ => rfl, Nat.succ_pos _⟩, ⟨ti111_ok, fun _ => rfl, Nat.succ_pos _⟩, ⟨ti112_ok, fun _ => rfl, Nat.succ_pos _⟩, ⟨ti113_ok, fun _ => rfl, Nat.succ_pos _⟩, ⟨ti114_ok, fun h => (by cases h), Nat.succ_pos _⟩, ⟨ti115_ok, fun h => (by cases h), Nat.succ_pos _⟩, ⟨ti119_ok, fun _ => rfl, Nat.succ_pos _⟩, ⟨ti120_ok, fun _ => rfl, Nat.succ_pos _⟩, ⟨ti121_ok, fun _ => rfl, Nat.succ_pos _⟩, ⟨ti122_ok, fun _ => rfl, Nat.succ_pos _⟩, ⟨ti123_ok, fun _ => rfl, Nat.succ_pos _⟩, ⟨ti124_ok, fun _ => rfl, Nat.succ_pos _⟩, ⟨ti125_ok, fun _ => rfl, Nat.succ_pos _⟩, ⟨ti126_ok, fun h => (by cases h), Nat.succ_pos _⟩, ⟨ti127_ok, fun h => (by cases h), Nat.succ_pos _⟩, True.intro⟩ t i h
def tylist : List (Nat × Ty) := [(2, .int .i64), (3, .int .i64), (4, .bool), (5, .int .u8), (6, .int .u8), (7, .st (.pair (.int .i64) (.pair (.int .i64) (.pair (.bool) (.int .u8))))), (8, .st (.pair (.int .i64) (.pair (.int .i64) (.pair (.bool) (.int .u8))))), (9, .str), (10, .str), (11, .str), (12, .int .u64), (13, .st (.pair (.str) (.int .u64))), (14, .st (.pair (.str) (.int .u64))), (21, .int .i32), (22, .slice (.st (.pair (.slice (.int .i64)) (.pair (.int .i64) (.pair (.int .i64) (.pair (.int .i64) (.str))))))), (23, .st (.pair (.int .i64) (.int .i64))), (24, .st (.pair (.int .i64) (.int .i64))), (27, .slice (.int .i64)), (40, .slice (.st (.pair (.int .i64) (.pair (.int .i64) (.pair (.int .i64) (.int .i64)))))), (41, .st (.slice (.st (.pair (.int .i64) (.pair (.int .i64) (.pair (.int .i64) (.int .i64))))))), (42, .st (.slice (.st (.pair (.int .i64) (.pair (.int .i64) (.pair (.int .i64) (.int .i64))))))), (51, .slice (.bool)), (52, .slice (.slice (.int .i64))), (60, .st (.pair (.slice (.int .i64)) (.pair (.int .i64) (.pair (.int .i64) (.pair (.int .i64) (.str)))))), (61, .st (.pair (.slice (.int .i64)) (.pair (.int .i64) (.pair (.int .i64) (.pair (.int .i64) (.str)))))), (63, .slice (.int .u8)), (67, .st (.pair (.bool) (.pair (.bool) (.pair (.bool) (.bool))))), (69, .st (.pair (.slice (.int .i64)) (.bool))), (70, .st (.pair (.slice (.int .i64)) (.bool))), (76, .st (.pair (.int .i64) (.pair (.int .i64) (.pair (.int .i64) (.int .i64))))), (77, .st (.pair (.int .i64) (.pair (.int .i64) (.pair (.int .i64) (.int .i64))))), (81, .slice (.slice (.bool))), (93, .st (.pair (.int .i64) (.int .i64))), (94, .st (.pair (.int .i64) (.int .i64))), (111, .int .u64), (119, .int .u32), (120, .int .u8), (121, .int .u8), (124, .int .i32), (125, .int .i32)]
def tyl (t : Nat) : Option Ty := lk tylist t
theorem tyl_ok : ∀ t y, tyl t = some y → ∃ i, tl t = some i ∧ TyOk Try.prog t i y := by
  intro t y h
  exact lk_all (Q := fun t y => ∃ i, tl t = some i ∧ TyOk Try.prog t i y) tylist
    ⟨⟨ti2, rfl, ty2_ok⟩, ⟨ti3, rfl, ty3_ok⟩, ⟨ti4, rfl, ty4_ok⟩, ⟨ti5, rfl, ty5_ok⟩, ⟨ti6, rfl, ty6_ok⟩, ⟨ti7, rfl, ty7_ok⟩, ⟨ti8, rfl, ty8_ok⟩, ⟨ti9, rfl, ty9_ok⟩, ⟨ti10, rfl, ty10_ok⟩, ⟨ti11, rfl, ty11_ok⟩, ⟨ti12, rfl, ty12_ok⟩, ⟨ti13, rfl, ty13_ok⟩, ⟨ti14, rfl, ty14_ok⟩, ⟨ti21, rfl, ty21_ok⟩, ⟨ti22, rfl, ty22_ok⟩, ⟨ti23, rfl, ty23_ok⟩, ⟨ti24, rfl, ty24_ok⟩, ⟨ti27, rfl, ty27_ok⟩, ⟨ti40, rfl, ty40_ok⟩, ⟨ti41, rfl, ty41_ok⟩, ⟨ti42, rfl, ty42_ok⟩, ⟨ti51, rfl, ty51_ok⟩, ⟨ti52, rfl, ty52_ok⟩, ⟨ti60, rfl, ty60_ok⟩, ⟨ti61, rfl, ty61_ok⟩, ⟨ti63, rfl, ty63_ok⟩, ⟨ti67, rfl, ty67_ok⟩, ⟨ti69, rfl, ty69_ok⟩, ⟨ti70, rfl, ty70_ok⟩, ⟨ti76, rfl, ty76_ok⟩, ⟨ti77, rfl, ty77_ok⟩, ⟨ti81, rfl, ty81_ok⟩, ⟨ti93, rfl, ty93_ok⟩, ⟨ti94, rfl, ty94_ok⟩, ⟨ti111, rfl, ty111_ok⟩, ⟨ti119, rfl, ty119_ok⟩, ⟨ti120, rfl, ty120_ok⟩, ⟨ti121, rfl, ty121_ok⟩, ⟨ti124, rfl, ty124_ok⟩, ⟨ti125, rfl, ty125_ok⟩, True.intro⟩ t y h
theorem tl_1 : tl 1 = some ti1 := rfl
theorem tl_2 : tl 2 = some ti2 := rfl
theorem tl_3 : tl 3 = some ti3 := rfl
theorem tl_4 : tl 4 = some ti4 := rfl
theorem tl_5 : tl 5 = some ti5 := rfl
theorem tl_6 : tl 6 = some ti6 := rfl
theorem tl_7 : tl 7 = some ti7 := rfl
theorem tl_8 : tl 8 = some ti8 := rfl
theorem tl_9 : tl 9 = some ti9 := rfl
theorem tl_10 : tl 10 = some ti10 := rfl
theorem tl_11 : tl 11 = some ti11 := rfl
theorem tl_12 : tl 12 = some ti12 := rfl
theorem tl_13 : tl 13 = some ti13 := rfl
theorem tl_14 : tl 14 = some ti14 := rfl
theorem tl_15 : tl 15 = some ti15 := rfl
theorem tl_16 : tl 16 = some ti16 := rfl
theorem tl_17 : tl 17 = some ti17 := rfl
theorem tl_18 : tl 18 = some ti18 := rfl
theorem tl_19 : tl 19 = some ti19 := rfl
theorem tl_21 : tl 21 = some ti21 := rfl
theorem tl_22 : tl 22 = some ti22 := rfl
theorem tl_23 : tl 23 = some ti23 := rfl
theorem tl_24 : tl 24 = some ti24 := rfl
theorem tl_26 : tl 26 = some ti26 := rfl
theorem tl_27 : tl 27 = some ti27 := rfl
theorem tl_29 : tl 29 = some ti29 := rfl
theorem tl_30 : tl 30 = some ti30 := rfl
theorem tl_31 : tl 31 = some ti31 := rfl
theorem tl_32 : tl 32 = some ti32 := rfl
theorem tl_34 : tl 34 = some ti34 := rfl
theorem tl_35 : tl 35 = some ti35 := rfl
theorem tl_37 : tl 37 = some ti37 := rfl
theorem tl_38 : tl 38 = some ti38 := rfl
theorem tl_39 : tl 39 = some ti39 := rfl
theorem tl_40 : tl 40 = some ti40 := rfl
theorem tl_41 : tl 41 = some ti41 := rfl
theorem tl_42 : tl 42 = some ti42 := rfl
theorem tl_43 : tl 43 = some ti43 := rfl
theorem tl_44 : tl 44 = some ti44 := rfl
theorem tl_45 : tl 45 = some ti45 := rfl
theorem tl_47 : tl 47 = some ti47 := rfl
theorem tl_48 : tl 48 = some ti48 := rfl
theorem tl_49 : tl 49 = some ti49 := rfl
theorem tl_50 : tl 50 = some ti50 := rfl
theorem tl_51 : tl 51 = some ti51 := rfl
theorem tl_52 : tl 52 = some ti52 := rfl
theorem tl_54 : tl 54 = some ti54 := rfl
theorem tl_55 : tl 55 = some ti55 := rfl
theorem tl_56 : tl 56 = some ti56 := rfl
theorem tl_57 : tl 57 = some ti57 := rfl
theorem tl_58 : tl 58 = some ti58 := rfl
theorem tl_59 : tl 59 = some ti59 := rfl
theorem tl_60 : tl 60 = some ti60 := rfl
theorem tl_61 : tl 61 = some ti61 := rfl
theorem tl_62 : tl 62 = some ti62 := rfl
theorem tl_63 : tl 63 = some ti63 := rfl
theorem tl_64 : tl 64 = some ti64 := rfl
theorem tl_65 : tl 65 = some ti65 := rfl
theorem tl_66 : tl 66 = some ti66 := rfl
theorem tl_67 : tl 67 = some ti67 := rfl
theorem tl_68 : tl 68 = some ti68 := rfl
theorem tl_69 : tl 69 = some ti69 := rfl
theorem tl_70 : tl 70 = some ti70 := rfl
theorem tl_72 : tl 72 = some ti72 := rfl
theorem tl_73 : tl 73 = some ti73 := rfl
theorem tl_75 : tl 75 = some ti75 := rfl
theorem tl_76 : tl 76 = some ti76 := rfl
theorem tl_77 : tl 77 = some ti77 := rfl
theorem tl_78 : tl 78 = some ti78 := rfl
theorem tl_79 : tl 79 = some ti79 := rfl
theorem tl_80 : tl 80 = some ti80 := rfl
theorem tl_81 : tl 81 = some ti81 := rfl
theorem tl_82 : tl 82 = some ti82 := rfl
theorem tl_83 : tl 83 = some ti83 := rfl
theorem tl_84 : tl 84 = some ti84 := rfl
theorem tl_85 : tl 85 = some ti85 := rfl
theorem tl_86 : tl 86 = some ti86 := rfl
theorem tl_87 : tl 87 = some ti87 := rfl
theorem tl_88 : tl 88 = some ti88 := rfl
theorem tl_89 : tl 89 = some ti89 := rfl
theorem tl_90 : tl 90 = some ti90 := rfl
theorem tl_91 : tl 91 = some ti91 := rfl
theorem tl_92 : tl 92 = some ti92 := rfl
theorem tl_93 : tl 93 = some ti93 := rfl
theorem tl_94 : tl 94 = some ti94 := rfl
theorem tl_95 : tl 95 = some ti95 := rfl
theorem tl_96 : tl 96 = some ti96 := rfl
theorem tl_97 : tl 97 = some ti97 := rfl
theorem tl_98 : tl 98 = some ti98 := rfl
theorem tl_99 : tl 99 = some ti99 := rfl
theorem tl_100 : tl 100 = some ti100 := rfl
theorem tl_101 : tl 101 = some ti101 := rfl
theorem tl_102 : tl 102 = some ti102 := rfl
theorem tl_103 : tl 103 = some ti103 := rfl
theorem tl_104 : tl 104 = some ti104 := rfl
theorem tl_105 : tl 105 = some ti105 := rfl
theorem tl_106 : tl 106 = some ti106 := rfl
theorem tl_107 : tl 107 = some ti107 := rfl
theorem tl_108 : tl 108 = some ti108 := rfl
theorem tl_109 : tl 109 = some ti109 := rfl
theorem tl_110 : tl 110 = some ti110 := rfl
theorem tl_111 : tl 111 = some ti111 := rfl
theorem tl_112 : tl 112 = some ti112 := rfl
theorem tl_113 : tl 113 = some ti113 := rfl
theorem tl_114 : tl 114 = some ti114 := rfl
theorem tl_115 : tl 115 = some ti115 := rfl
theorem tl_119 : tl 119 = some ti119 := rfl
theorem tl_120 : tl 120 = some ti120 := rfl
theorem tl_121 : tl 121 = some ti121 := rfl
theorem tl_122 : tl 122 = some ti122 := rfl
theorem tl_123 : tl 123 = some ti123 := rfl
theorem tl_124 : tl 124 = some ti124 := rfl
theorem tl_125 : tl 125 = some ti125 := rfl
theorem tl_126 : tl 126 = some ti126 := rfl
theorem tl_127 : tl 127 = some ti127 := rfl
theorem tyl_2 : tyl 2 = some ty2 := rfl
theorem tyl_3 : tyl 3 = some ty3 := rfl
theorem tyl_4 : tyl 4 = some ty4 := rfl
theorem tyl_5 : tyl 5 = some ty5 := rfl
theorem tyl_6 : tyl 6 = some ty6 := rfl
theorem tyl_7 : tyl 7 = some ty7 := rfl
theorem tyl_8 : tyl 8 = some ty8 := rfl
theorem tyl_9 : tyl 9 = some ty9 := rfl
theorem tyl_10 : tyl 10 = some ty10 := rfl
theorem tyl_11 : tyl 11 = some ty11 := rfl
theorem tyl_12 : tyl 12 = some ty12 := rfl
theorem tyl_13 : tyl 13 = some ty13 := rfl
theorem tyl_14 : tyl 14 = some ty14 := rfl
theorem tyl_21 : tyl 21 = some ty21 := rfl
theorem tyl_22 : tyl 22 = some ty22 := rfl
theorem tyl_23 : tyl 23 = some ty23 := rfl
theorem tyl_24 : tyl 24 = some ty24 := rfl
theorem tyl_27 : tyl 27 = some ty27 := rfl
theorem tyl_40 : tyl 40 = some ty40 := rfl
theorem tyl_41 : tyl 41 = some ty41 := rfl
theorem tyl_42 : tyl 42 = some ty42 := rfl
theorem tyl_51 : tyl 51 = some ty51 := rfl
theorem tyl_52 : tyl 52 = some ty52 := rfl
theorem tyl_60 : tyl 60 = some ty60 := rfl
theorem tyl_61 : tyl 61 = some ty61 := rfl
theorem tyl_63 : tyl 63 = some ty63 := rfl
theorem tyl_67 : tyl 67 = some ty67 := rfl
theorem tyl_69 : tyl 69 = some ty69 := rfl
theorem tyl_70 : tyl 70 = some ty70 := rfl
theorem tyl_76 : tyl 76 = some ty76 := rfl
theorem tyl_77 : tyl 77 = some ty77 := rfl
theorem tyl_81 : tyl 81 = some ty81 := rfl
theorem tyl_93 : tyl 93 = some ty93 := rfl
theorem tyl_94 : tyl 94 = some ty94 := rfl
theorem tyl_111 : tyl 111 = some ty111 := rfl
theorem tyl_119 : tyl 119 = some ty119 := rfl
theorem tyl_120 : tyl 120 = some ty120 := rfl
theorem tyl_121 : tyl 121 = some ty121 := rfl
theorem tyl_124 : tyl 124 = some ty124 := rfl
theorem tyl_125 : tyl 125 = some ty125 := rfl
def env1 (sp : List (FuncId × SpecF)) (eq : List (TypeId × Bool)) (inl : List (FuncId × Func)) (cl : List Nat := []) : Env := { nb := 0, tl := tl, ty := tyl, sp := lk sp, eq := fun t => (lk eq t).getD false, inl := lk inl, cl := fun d => cl.any (Nat.beq d) }
def env0 (sp : List (FuncId × SpecF)) (eq : List (TypeId × Bool)) : Env := env1 sp eq []
structure SpFact (f : FuncId) (s : SpecF) : Prop where
  fn : ∃ fn, Try.prog.funcs[f]? = some fn ∧ fn.body.isSome = true ∧ (fn.name == "runtime.NumGoroutine") = false ∧ SpecOk Try.prog f s
  loc : SpLoc s
def allSp : List (FuncId × SpecF) → Prop
  | [] => True
  | p :: l => SpFact p.1 p.2 ∧ allSp l
theorem allSp_mem : ∀ {l : List (FuncId × SpecF)}, allSp l → ∀ p ∈ l, SpFact p.1 p.2
  | p :: l, h, q, hq => by
    rcases List.mem_cons.1 hq with e | e
    · subst e; exact h.1
    · exact allSp_mem h.2 q e
def allEq : List (TypeId × Bool) → Prop
  | [] => True
  | p :: l => Eq2 Try.prog p.1 ∧ allEq l
theorem allEq_mem : ∀ {l : List (TypeId × Bool)}, allEq l → ∀ p ∈ l, Eq2 Try.prog p.1
  | p :: l, h, q, hq => by
    rcases List.mem_cons.1 hq with e | e
    · subst e; exact h.1
    · exact allEq_mem h.2 q e
def InlFact (f : FuncId) (fn : Func) : Prop := Try.prog.funcs[f]? = some fn ∧ fn.body.isSome = true ∧ (fn.name == "runtime.NumGoroutine") = false
def allInl : List (FuncId × Func) → Prop
  | [] => True
  | p :: l => InlFact p.1 p.2 ∧ allInl l
theorem allInl_mem : ∀ {l : List (FuncId × Func)}, allInl l → ∀ p ∈ l, InlFact p.1 p.2
  | p :: l, h, q, hq => by
    rcases List.mem_cons.1 hq with e | e
    · subst e; exact h.1
    · exact allInl_mem h.2 q e
theorem env1_fine {sp : List (FuncId × SpecF)} {eq : List (TypeId × Bool)} {inl : List (FuncId × Func)} {cl : List Nat} (h1 : allSp sp) (h2 : allEq eq) (h3 : allInl inl) : (env1 sp eq inl cl).Fine Try.prog := by
  refine ⟨⟨tl_ok, tyl_ok, fun f s hs => ?_, fun t ht => ?_, fun f fn hf => ?_⟩, fun f s hs => ?_, by kernel_rfl⟩
  · exact lk_mem (Q := fun f s => SpFact f s) sp (allSp_mem h1) f s hs |>.fn
  · have ht : (lk eq t).getD false = true := ht
    cases hl : lk eq t with
    | none => rw [hl] at ht; cases ht
    | some b => exact lk_mem (Q := fun t _ => Eq2 Try.prog t) eq (allEq_mem h2) t b hl
  · exact lk_mem (Q := fun f fn => InlFact f fn) inl (allInl_mem h3) f fn hf
  · exact lk_mem (Q := fun f s => SpFact f s) sp (allSp_mem h1) f s hs |>.loc
theorem env_fine {sp : List (FuncId × SpecF)} {eq : List (TypeId × Bool)} (h1 : allSp sp) (h2 : allEq eq) : (env0 sp eq).Fine Try.prog := env1_fine h1 h2 True.intro
end Go.Proofs.Ytgdlbpihkodeoaa
