/- The types of the program, as the executor sees them. Written by sxtab.py. -/
import Derived.Test.YtppmhjaooiameaaDoorFwE
import Derived.Test.YtppmhjaooiameaaDoorRows
namespace Go.Proofs.YtppmhjaooiameaaDoor
open Go.RowKit
set_option maxRecDepth 100000

def ti1 : TI := { size := 1, agg := false, bytes := 8, kind := .other, zc := [.nilFunc], ty := none } -- func()
theorem ti1_ok : ti1.ok Tryd.prog 1 := ⟨by kernel_rfl, ⟨_, Tryd.underlying1, rfl⟩, ⟨rfl, rfl⟩⟩
def ti2 : TI := { size := 1, agg := false, bytes := 8, kind := .int .i64, zc := [.int .i64 0], ty := none } -- int64
theorem ti2_ok : ti2.ok Tryd.prog 2 := ⟨by kernel_rfl, ⟨_, Tryd.underlying2, ⟨rfl, rfl⟩⟩, ⟨rfl, rfl⟩⟩
def ty2 : Ty := .int .i64
theorem ty2_ok : TyOk Tryd.prog 2 ti2 ty2 := ⟨ti2_ok, rfl, rfl⟩
def ti3 : TI := { size := 1, agg := false, bytes := 8, kind := .int .i64, zc := [.int .i64 0], ty := none } -- int
theorem ti3_ok : ti3.ok Tryd.prog 3 := ⟨by kernel_rfl, ⟨_, Tryd.underlying3, ⟨rfl, rfl⟩⟩, ⟨rfl, rfl⟩⟩
def ty3 : Ty := .int .i64
theorem ty3_ok : TyOk Tryd.prog 3 ti3 ty3 := ⟨ti3_ok, rfl, rfl⟩
def ti4 : TI := { size := 1, agg := false, bytes := 1, kind := .bool, zc := [.bool false], ty := none } -- bool
theorem ti4_ok : ti4.ok Tryd.prog 4 := ⟨by kernel_rfl, ⟨_, Tryd.underlying4, ⟨rfl, rfl⟩⟩, ⟨rfl, rfl⟩⟩
def ty4 : Ty := .bool
theorem ty4_ok : TyOk Tryd.prog 4 ti4 ty4 := ⟨ti4_ok, rfl, rfl⟩
def ti5 : TI := { size := 1, agg := false, bytes := 1, kind := .int .u8, zc := [.int .u8 0], ty := none } -- uint8
theorem ti5_ok : ti5.ok Tryd.prog 5 := ⟨by kernel_rfl, ⟨_, Tryd.underlying5, ⟨rfl, rfl⟩⟩, ⟨rfl, rfl⟩⟩
def ty5 : Ty := .int .u8
theorem ty5_ok : TyOk Tryd.prog 5 ti5 ty5 := ⟨ti5_ok, rfl, rfl⟩
def ti6 : TI := { size := 1, agg := false, bytes := 1, kind := .int .u8, zc := [.int .u8 0], ty := none } -- abi.BoundsErrorCode
theorem ti6_ok : ti6.ok Tryd.prog 6 := ⟨by kernel_rfl, ⟨_, Tryd.underlying6, ⟨rfl, rfl⟩⟩, ⟨rfl, rfl⟩⟩
def ty6 : Ty := .int .u8
theorem ty6_ok : TyOk Tryd.prog 6 ti6 ty6 := ⟨ti6_ok, rfl, rfl⟩
def ti7 : TI := { size := 4, agg := true, bytes := 24, kind := .struct [(0, 2), (1, 3), (2, 4), (3, 6)], zc := [.int .i64 0, .int .i64 0, .bool false, .int .u8 0], ty := none } -- struct { x int64; y int; signed bool; code abi.BoundsErrorCo
theorem ti7_ok : ti7.ok Tryd.prog 7 := ⟨by kernel_rfl, ⟨_, Tryd.underlying7, ⟨rfl, _, rfl, rfl⟩⟩, ⟨rfl, rfl⟩⟩
def ty7 : Ty := .st (.pair (.int .i64) (.pair (.int .i64) (.pair (.bool) (.int .u8))))
theorem ty7_ok : TyOk Tryd.prog 7 ti7 ty7 := ⟨ti7_ok, rfl, rfl⟩
def ti8 : TI := { size := 4, agg := true, bytes := 24, kind := .struct [(0, 2), (1, 3), (2, 4), (3, 6)], zc := [.int .i64 0, .int .i64 0, .bool false, .int .u8 0], ty := none } -- runtime.boundsError
theorem ti8_ok : ti8.ok Tryd.prog 8 := ⟨by kernel_rfl, ⟨_, Tryd.underlying8, ⟨rfl, _, rfl, rfl⟩⟩, ⟨rfl, rfl⟩⟩
def ty8 : Ty := .st (.pair (.int .i64) (.pair (.int .i64) (.pair (.bool) (.int .u8))))
theorem ty8_ok : TyOk Tryd.prog 8 ti8 ty8 := ⟨ti8_ok, rfl, rfl⟩
def ti9 : TI := { size := 1, agg := false, bytes := 16, kind := .str, zc := [.string .empty], ty := none } -- string
theorem ti9_ok : ti9.ok Tryd.prog 9 := ⟨by kernel_rfl, ⟨_, Tryd.underlying9, ⟨rfl, rfl⟩⟩, ⟨rfl, rfl⟩⟩
def ty9 : Ty := .str
theorem ty9_ok : TyOk Tryd.prog 9 ti9 ty9 := ⟨ti9_ok, rfl, rfl⟩
def ti10 : TI := { size := 1, agg := false, bytes := 16, kind := .str, zc := [.string .empty], ty := none } -- runtime.errorString
theorem ti10_ok : ti10.ok Tryd.prog 10 := ⟨by kernel_rfl, ⟨_, Tryd.underlying10, ⟨rfl, rfl⟩⟩, ⟨rfl, rfl⟩⟩
def ty10 : Ty := .str
theorem ty10_ok : TyOk Tryd.prog 10 ti10 ty10 := ⟨ti10_ok, rfl, rfl⟩
def ti11 : TI := { size := 1, agg := false, bytes := 16, kind := .str, zc := [.string .empty], ty := none } -- runtime.plainError
theorem ti11_ok : ti11.ok Tryd.prog 11 := ⟨by kernel_rfl, ⟨_, Tryd.underlying11, ⟨rfl, rfl⟩⟩, ⟨rfl, rfl⟩⟩
def ty11 : Ty := .str
theorem ty11_ok : TyOk Tryd.prog 11 ti11 ty11 := ⟨ti11_ok, rfl, rfl⟩
def ti12 : TI := { size := 1, agg := false, bytes := 8, kind := .int .u64, zc := [.int .u64 0], ty := none } -- uintptr
theorem ti12_ok : ti12.ok Tryd.prog 12 := ⟨by kernel_rfl, ⟨_, Tryd.underlying12, ⟨rfl, rfl⟩⟩, ⟨rfl, rfl⟩⟩
def ty12 : Ty := .int .u64
theorem ty12_ok : TyOk Tryd.prog 12 ti12 ty12 := ⟨ti12_ok, rfl, rfl⟩
def ti13 : TI := { size := 2, agg := true, bytes := 24, kind := .struct [(0, 9), (1, 12)], zc := [.string .empty, .int .u64 0], ty := none } -- struct { msg string; addr uintptr }
theorem ti13_ok : ti13.ok Tryd.prog 13 := ⟨by kernel_rfl, ⟨_, Tryd.underlying13, ⟨rfl, _, rfl, rfl⟩⟩, ⟨rfl, rfl⟩⟩
def ty13 : Ty := .st (.pair (.str) (.int .u64))
theorem ty13_ok : TyOk Tryd.prog 13 ti13 ty13 := ⟨ti13_ok, rfl, rfl⟩
def ti14 : TI := { size := 2, agg := true, bytes := 24, kind := .struct [(0, 9), (1, 12)], zc := [.string .empty, .int .u64 0], ty := none } -- runtime.errorAddressString
theorem ti14_ok : ti14.ok Tryd.prog 14 := ⟨by kernel_rfl, ⟨_, Tryd.underlying14, ⟨rfl, _, rfl, rfl⟩⟩, ⟨rfl, rfl⟩⟩
def ty14 : Ty := .st (.pair (.str) (.int .u64))
theorem ty14_ok : TyOk Tryd.prog 14 ti14 ty14 := ⟨ti14_ok, rfl, rfl⟩
def ti15 : TI := { size := 1, agg := false, bytes := 8, kind := .other, zc := [.pointer none], ty := none } -- *runtime.TypeAssertionError
theorem ti15_ok : ti15.ok Tryd.prog 15 := ⟨by kernel_rfl, ⟨_, Tryd.underlying15, rfl⟩, ⟨rfl, rfl⟩⟩
def ti16 : TI := { size := 1, agg := false, bytes := 8, kind := .other, zc := [.pointer none], ty := none } -- *runtime.PanicNilError
theorem ti16_ok : ti16.ok Tryd.prog 16 := ⟨by kernel_rfl, ⟨_, Tryd.underlying16, rfl⟩, ⟨rfl, rfl⟩⟩
def ti17 : TI := { size := 1, agg := false, bytes := 8, kind := .other, zc := [.pointer none], ty := none } -- *abi.Type
theorem ti17_ok : ti17.ok Tryd.prog 17 := ⟨by kernel_rfl, ⟨_, Tryd.underlying17, rfl⟩, ⟨rfl, rfl⟩⟩
def ti18 : TI := { size := 1, agg := true, bytes := 8, kind := .struct [(0, 17)], zc := [.pointer none], ty := none } -- struct { typ *abi.Type }
theorem ti18_ok : ti18.ok Tryd.prog 18 := ⟨by kernel_rfl, ⟨_, Tryd.underlying18, ⟨rfl, _, rfl, rfl⟩⟩, ⟨rfl, rfl⟩⟩
def ti19 : TI := { size := 1, agg := true, bytes := 8, kind := .struct [(0, 17)], zc := [.pointer none], ty := none } -- maps.unhashableTypeError
theorem ti19_ok : ti19.ok Tryd.prog 19 := ⟨by kernel_rfl, ⟨_, Tryd.underlying19, ⟨rfl, _, rfl, rfl⟩⟩, ⟨rfl, rfl⟩⟩
def ti21 : TI := { size := 1, agg := false, bytes := 4, kind := .int .i32, zc := [.int .i32 0], ty := none } -- int32
theorem ti21_ok : ti21.ok Tryd.prog 21 := ⟨by kernel_rfl, ⟨_, Tryd.underlying21, ⟨rfl, rfl⟩⟩, ⟨rfl, rfl⟩⟩
def ty21 : Ty := .int .i32
theorem ty21_ok : TyOk Tryd.prog 21 ti21 ty21 := ⟨ti21_ok, rfl, rfl⟩
def ti22 : TI := { size := 1, agg := false, bytes := 24, kind := .slice 9, zc := [.slice none 0 0], ty := none } -- []string
theorem ti22_ok : ti22.ok Tryd.prog 22 := ⟨by kernel_rfl, ⟨_, Tryd.underlying22, ⟨rfl, rfl⟩⟩, ⟨rfl, rfl⟩⟩
def ty22 : Ty := .slice (.str)
theorem ty22_ok : TyOk Tryd.prog 22 ti22 ty22 := ⟨ti22_ok, rfl, rfl⟩
def ti23 : TI := { size := 1, agg := false, bytes := 24, kind := .slice 41, zc := [.slice none 0 0], ty := none } -- []api.Hunk
theorem ti23_ok : ti23.ok Tryd.prog 23 := ⟨by kernel_rfl, ⟨_, Tryd.underlying23, ⟨rfl, rfl⟩⟩, ⟨rfl, rfl⟩⟩
def ty23 : Ty := .slice (.st (.pair (.int .i64) (.pair (.slice (.str)) (.slice (.str)))))
theorem ty23_ok : TyOk Tryd.prog 23 ti23 ty23 := ⟨ti23_ok, rfl, rfl⟩
def ti24 : TI := { size := 1, agg := true, bytes := 24, kind := .struct [(0, 23)], zc := [.slice none 0 0], ty := none } -- struct { Hunks []api.Hunk }
theorem ti24_ok : ti24.ok Tryd.prog 24 := ⟨by kernel_rfl, ⟨_, Tryd.underlying24, ⟨rfl, _, rfl, rfl⟩⟩, ⟨rfl, rfl⟩⟩
def ty24 : Ty := .st (.slice (.st (.pair (.int .i64) (.pair (.slice (.str)) (.slice (.str))))))
theorem ty24_ok : TyOk Tryd.prog 24 ti24 ty24 := ⟨ti24_ok, rfl, rfl⟩
def ti25 : TI := { size := 1, agg := true, bytes := 24, kind := .struct [(0, 23)], zc := [.slice none 0 0], ty := none } -- api.Patch
theorem ti25_ok : ti25.ok Tryd.prog 25 := ⟨by kernel_rfl, ⟨_, Tryd.underlying25, ⟨rfl, _, rfl, rfl⟩⟩, ⟨rfl, rfl⟩⟩
def ty25 : Ty := .st (.slice (.st (.pair (.int .i64) (.pair (.slice (.str)) (.slice (.str))))))
theorem ty25_ok : TyOk Tryd.prog 25 ti25 ty25 := ⟨ti25_ok, rfl, rfl⟩
def ti26 : TI := { size := 2, agg := true, bytes := 16, kind := .struct [(0, 3), (1, 3)], zc := [.int .i64 0, .int .i64 0], ty := none } -- struct { Code int; Index int }
theorem ti26_ok : ti26.ok Tryd.prog 26 := ⟨by kernel_rfl, ⟨_, Tryd.underlying26, ⟨rfl, _, rfl, rfl⟩⟩, ⟨rfl, rfl⟩⟩
def ty26 : Ty := .st (.pair (.int .i64) (.int .i64))
theorem ty26_ok : TyOk Tryd.prog 26 ti26 ty26 := ⟨ti26_ok, rfl, rfl⟩
def ti27 : TI := { size := 2, agg := true, bytes := 16, kind := .struct [(0, 3), (1, 3)], zc := [.int .i64 0, .int .i64 0], ty := none } -- api.Fault
theorem ti27_ok : ti27.ok Tryd.prog 27 := ⟨by kernel_rfl, ⟨_, Tryd.underlying27, ⟨rfl, _, rfl, rfl⟩⟩, ⟨rfl, rfl⟩⟩
def ty27 : Ty := .st (.pair (.int .i64) (.int .i64))
theorem ty27_ok : TyOk Tryd.prog 27 ti27 ty27 := ⟨ti27_ok, rfl, rfl⟩
def ti29 : TI := { size := 1, agg := false, bytes := 8, kind := .other, zc := [.nilFunc], ty := none } -- func([]string, api.Patch, int) (string, api.Fault)
theorem ti29_ok : ti29.ok Tryd.prog 29 := ⟨by kernel_rfl, ⟨_, Tryd.underlying29, rfl⟩, ⟨rfl, rfl⟩⟩
def ti30 : TI := { size := 1, agg := false, bytes := 24, kind := .slice 3, zc := [.slice none 0 0], ty := none } -- []int
theorem ti30_ok : ti30.ok Tryd.prog 30 := ⟨by kernel_rfl, ⟨_, Tryd.underlying30, ⟨rfl, rfl⟩⟩, ⟨rfl, rfl⟩⟩
def ty30 : Ty := .slice (.int .i64)
theorem ty30_ok : TyOk Tryd.prog 30 ti30 ty30 := ⟨ti30_ok, rfl, rfl⟩
def ti32 : TI := { size := 1, agg := false, bytes := 8, kind := .other, zc := [.nilFunc], ty := none } -- func([]string, api.Patch, int) ([]string, []int, api.Fault)
theorem ti32_ok : ti32.ok Tryd.prog 32 := ⟨by kernel_rfl, ⟨_, Tryd.underlying32, rfl⟩, ⟨rfl, rfl⟩⟩
def ti33 : TI := { size := 1, agg := false, bytes := 8, kind := .other, zc := [.nilFunc], ty := none } -- func([]string, []string) bool
theorem ti33_ok : ti33.ok Tryd.prog 33 := ⟨by kernel_rfl, ⟨_, Tryd.underlying33, rfl⟩, ⟨rfl, rfl⟩⟩
def ti34 : TI := { size := 1, agg := false, bytes := 8, kind := .other, zc := [.nilFunc], ty := none } -- func([]int, []int) bool
theorem ti34_ok : ti34.ok Tryd.prog 34 := ⟨by kernel_rfl, ⟨_, Tryd.underlying34, rfl⟩, ⟨rfl, rfl⟩⟩
def ti35 : TI := { size := 1, agg := false, bytes := 8, kind := .other, zc := [.nilFunc], ty := none } -- func() bool
theorem ti35_ok : ti35.ok Tryd.prog 35 := ⟨by kernel_rfl, ⟨_, Tryd.underlying35, rfl⟩, ⟨rfl, rfl⟩⟩
def ti36 : TI := { size := 1, agg := false, bytes := 8, kind := .other, zc := [.nilFunc], ty := none } -- func([]string, api.Patch, int, int) bool
theorem ti36_ok : ti36.ok Tryd.prog 36 := ⟨by kernel_rfl, ⟨_, Tryd.underlying36, rfl⟩, ⟨rfl, rfl⟩⟩
def ti38 : TI := { size := 1, agg := false, bytes := 8, kind := .other, zc := [.nilFunc], ty := none } -- func(api.Patch, []string) ([]string, api.Fault)
theorem ti38_ok : ti38.ok Tryd.prog 38 := ⟨by kernel_rfl, ⟨_, Tryd.underlying38, rfl⟩, ⟨rfl, rfl⟩⟩
def ti39 : TI := { size := 1, agg := false, bytes := 8, kind := .other, zc := [.nilFunc], ty := none } -- func([]string, api.Patch, int) bool
theorem ti39_ok : ti39.ok Tryd.prog 39 := ⟨by kernel_rfl, ⟨_, Tryd.underlying39, rfl⟩, ⟨rfl, rfl⟩⟩
def ti40 : TI := { size := 3, agg := true, bytes := 56, kind := .struct [(0, 3), (1, 22), (2, 22)], zc := [.int .i64 0, .slice none 0 0, .slice none 0 0], ty := none } -- struct { At int; Old []string; New []string }
theorem ti40_ok : ti40.ok Tryd.prog 40 := ⟨by kernel_rfl, ⟨_, Tryd.underlying40, ⟨rfl, _, rfl, rfl⟩⟩, ⟨rfl, rfl⟩⟩
def ty40 : Ty := .st (.pair (.int .i64) (.pair (.slice (.str)) (.slice (.str))))
theorem ty40_ok : TyOk Tryd.prog 40 ti40 ty40 := ⟨ti40_ok, rfl, rfl⟩
def ti41 : TI := { size := 3, agg := true, bytes := 56, kind := .struct [(0, 3), (1, 22), (2, 22)], zc := [.int .i64 0, .slice none 0 0, .slice none 0 0], ty := none } -- api.Hunk
theorem ti41_ok : ti41.ok Tryd.prog 41 := ⟨by kernel_rfl, ⟨_, Tryd.underlying41, ⟨rfl, _, rfl, rfl⟩⟩, ⟨rfl, rfl⟩⟩
def ty41 : Ty := .st (.pair (.int .i64) (.pair (.slice (.str)) (.slice (.str))))
theorem ty41_ok : TyOk Tryd.prog 41 ti41 ty41 := ⟨ti41_ok, rfl, rfl⟩
def ti43 : TI := { size := 1, agg := false, bytes := 8, kind := .other, zc := [.nilFunc], ty := none } -- func(string) (api.Patch, api.Fault)
theorem ti43_ok : ti43.ok Tryd.prog 43 := ⟨by kernel_rfl, ⟨_, Tryd.underlying43, rfl⟩, ⟨rfl, rfl⟩⟩
def ti44 : TI := { size := 1, agg := false, bytes := 8, kind := .other, zc := [.nilFunc], ty := none } -- func(api.Patch, api.Patch) bool
theorem ti44_ok : ti44.ok Tryd.prog 44 := ⟨by kernel_rfl, ⟨_, Tryd.underlying44, rfl⟩, ⟨rfl, rfl⟩⟩
def ti45 : TI := { size := 1, agg := false, bytes := 8, kind := .other, zc := [.pointer none], ty := none } -- *strings.Builder
theorem ti45_ok : ti45.ok Tryd.prog 45 := ⟨by kernel_rfl, ⟨_, Tryd.underlying45, rfl⟩, ⟨rfl, rfl⟩⟩
def ti46 : TI := { size := 1, agg := false, bytes := 24, kind := .slice 5, zc := [.slice none 0 0], ty := none } -- []uint8
theorem ti46_ok : ti46.ok Tryd.prog 46 := ⟨by kernel_rfl, ⟨_, Tryd.underlying46, ⟨rfl, rfl⟩⟩, ⟨rfl, rfl⟩⟩
def ty46 : Ty := .slice (.int .u8)
theorem ty46_ok : TyOk Tryd.prog 46 ti46 ty46 := ⟨ti46_ok, rfl, rfl⟩
def ti47 : TI := { size := 2, agg := true, bytes := 32, kind := .struct [(0, 45), (1, 46)], zc := [.pointer none, .slice none 0 0], ty := none } -- struct { addr *strings.Builder; buf []uint8 }
theorem ti47_ok : ti47.ok Tryd.prog 47 := ⟨by kernel_rfl, ⟨_, Tryd.underlying47, ⟨rfl, _, rfl, rfl⟩⟩, ⟨rfl, rfl⟩⟩
def ti48 : TI := { size := 2, agg := true, bytes := 32, kind := .struct [(0, 45), (1, 46)], zc := [.pointer none, .slice none 0 0], ty := none } -- strings.Builder
theorem ti48_ok : ti48.ok Tryd.prog 48 := ⟨by kernel_rfl, ⟨_, Tryd.underlying48, ⟨rfl, _, rfl, rfl⟩⟩, ⟨rfl, rfl⟩⟩
def ti49 : TI := { size := 1, agg := false, bytes := 8, kind := .other, zc := [.nilFunc], ty := none } -- func(api.Hunk) int
theorem ti49_ok : ti49.ok Tryd.prog 49 := ⟨by kernel_rfl, ⟨_, Tryd.underlying49, rfl⟩, ⟨rfl, rfl⟩⟩
def ti50 : TI := { size := 1, agg := false, bytes := 8, kind := .other, zc := [.nilFunc], ty := none } -- func(*strings.Builder, []string, []api.Hunk, int, int) int
theorem ti50_ok : ti50.ok Tryd.prog 50 := ⟨by kernel_rfl, ⟨_, Tryd.underlying50, rfl⟩, ⟨rfl, rfl⟩⟩
def ti51 : TI := { size := 1, agg := false, bytes := 8, kind := .other, zc := [.nilFunc], ty := none } -- func() int
theorem ti51_ok : ti51.ok Tryd.prog 51 := ⟨by kernel_rfl, ⟨_, Tryd.underlying51, rfl⟩, ⟨rfl, rfl⟩⟩
def ti52 : TI := { size := 1, agg := false, bytes := 8, kind := .other, zc := [.nilFunc], ty := none } -- func() string
theorem ti52_ok : ti52.ok Tryd.prog 52 := ⟨by kernel_rfl, ⟨_, Tryd.underlying52, rfl⟩, ⟨rfl, rfl⟩⟩
def ti53 : TI := { size := 1, agg := false, bytes := 8, kind := .other, zc := [.nilFunc], ty := none } -- func(int, int) api.Fault
theorem ti53_ok : ti53.ok Tryd.prog 53 := ⟨by kernel_rfl, ⟨_, Tryd.underlying53, rfl⟩, ⟨rfl, rfl⟩⟩
def ti54 : TI := { size := 1, agg := false, bytes := 8, kind := .other, zc := [.nilFunc], ty := none } -- func(int, int) string
theorem ti54_ok : ti54.ok Tryd.prog 54 := ⟨by kernel_rfl, ⟨_, Tryd.underlying54, rfl⟩, ⟨rfl, rfl⟩⟩
def ti55 : TI := { size := 1, agg := false, bytes := 8, kind := .other, zc := [.nilFunc], ty := none } -- func(api.Patch) api.Fault
theorem ti55_ok : ti55.ok Tryd.prog 55 := ⟨by kernel_rfl, ⟨_, Tryd.underlying55, rfl⟩, ⟨rfl, rfl⟩⟩
def ti56 : TI := { size := 1, agg := false, bytes := 8, kind := .other, zc := [.nilFunc], ty := none } -- func([]string, int) api.Fault
theorem ti56_ok : ti56.ok Tryd.prog 56 := ⟨by kernel_rfl, ⟨_, Tryd.underlying56, rfl⟩, ⟨rfl, rfl⟩⟩
def ti57 : TI := { size := 1, agg := false, bytes := 8, kind := .other, zc := [.nilFunc], ty := none } -- func(api.Patch) api.Patch
theorem ti57_ok : ti57.ok Tryd.prog 57 := ⟨by kernel_rfl, ⟨_, Tryd.underlying57, rfl⟩, ⟨rfl, rfl⟩⟩
def ti59 : TI := { size := 1, agg := false, bytes := 8, kind := .other, zc := [.nilFunc], ty := none } -- func([]string, api.Hunk, int, int) (int, bool)
theorem ti59_ok : ti59.ok Tryd.prog 59 := ⟨by kernel_rfl, ⟨_, Tryd.underlying59, rfl⟩, ⟨rfl, rfl⟩⟩
def ti60 : TI := { size := 1, agg := false, bytes := 8, kind := .other, zc := [.nilFunc], ty := none } -- func([]api.Hunk, []string, int, int) []string
theorem ti60_ok : ti60.ok Tryd.prog 60 := ⟨by kernel_rfl, ⟨_, Tryd.underlying60, rfl⟩, ⟨rfl, rfl⟩⟩
def ti61 : TI := { size := 1, agg := false, bytes := 8, kind := .other, zc := [.nilFunc], ty := none } -- func([]string) int
theorem ti61_ok : ti61.ok Tryd.prog 61 := ⟨by kernel_rfl, ⟨_, Tryd.underlying61, rfl⟩, ⟨rfl, rfl⟩⟩
def ti62 : TI := { size := 1, agg := false, bytes := 8, kind := .other, zc := [.nilFunc], ty := none } -- func([]string, int, []string) bool
theorem ti62_ok : ti62.ok Tryd.prog 62 := ⟨by kernel_rfl, ⟨_, Tryd.underlying62, rfl⟩, ⟨rfl, rfl⟩⟩
def ti63 : TI := { size := 1, agg := false, bytes := 8, kind := .other, zc := [.nilFunc], ty := none } -- func(int) int
theorem ti63_ok : ti63.ok Tryd.prog 63 := ⟨by kernel_rfl, ⟨_, Tryd.underlying63, rfl⟩, ⟨rfl, rfl⟩⟩
def ti64 : TI := { size := 1, agg := false, bytes := 8, kind := .other, zc := [.nilFunc], ty := none } -- func(api.Hunk, int) api.Hunk
theorem ti64_ok : ti64.ok Tryd.prog 64 := ⟨by kernel_rfl, ⟨_, Tryd.underlying64, rfl⟩, ⟨rfl, rfl⟩⟩
def ti65 : TI := { size := 1, agg := false, bytes := 8, kind := .other, zc := [.nilFunc], ty := none } -- func(int, []string, []string) api.Patch
theorem ti65_ok : ti65.ok Tryd.prog 65 := ⟨by kernel_rfl, ⟨_, Tryd.underlying65, rfl⟩, ⟨rfl, rfl⟩⟩
def ti66 : TI := { size := 1, agg := false, bytes := 8, kind := .other, zc := [.nilFunc], ty := none } -- func([]string, []string, int) bool
theorem ti66_ok : ti66.ok Tryd.prog 66 := ⟨by kernel_rfl, ⟨_, Tryd.underlying66, rfl⟩, ⟨rfl, rfl⟩⟩
def ti67 : TI := { size := 3, agg := true, bytes := 40, kind := .struct [(0, 23), (1, 3), (2, 4)], zc := [.slice none 0 0, .int .i64 0, .bool false], ty := none } -- struct { hunks []api.Hunk; at int; open bool }
theorem ti67_ok : ti67.ok Tryd.prog 67 := ⟨by kernel_rfl, ⟨_, Tryd.underlying67, ⟨rfl, _, rfl, rfl⟩⟩, ⟨rfl, rfl⟩⟩
def ty67 : Ty := .st (.pair (.slice (.st (.pair (.int .i64) (.pair (.slice (.str)) (.slice (.str)))))) (.pair (.int .i64) (.bool)))
theorem ty67_ok : TyOk Tryd.prog 67 ti67 ty67 := ⟨ti67_ok, rfl, rfl⟩
def ti68 : TI := { size := 3, agg := true, bytes := 40, kind := .struct [(0, 23), (1, 3), (2, 4)], zc := [.slice none 0 0, .int .i64 0, .bool false], ty := none } -- diff.Collector
theorem ti68_ok : ti68.ok Tryd.prog 68 := ⟨by kernel_rfl, ⟨_, Tryd.underlying68, ⟨rfl, _, rfl, rfl⟩⟩, ⟨rfl, rfl⟩⟩
def ty68 : Ty := .st (.pair (.slice (.st (.pair (.int .i64) (.pair (.slice (.str)) (.slice (.str)))))) (.pair (.int .i64) (.bool)))
theorem ty68_ok : TyOk Tryd.prog 68 ti68 ty68 := ⟨ti68_ok, rfl, rfl⟩
def ti69 : TI := { size := 8, agg := true, bytes := 80, kind := .struct [(0, 68), (3, 3), (4, 3), (5, 3), (6, 3), (7, 4)], zc := [.slice none 0 0, .int .i64 0, .bool false, .int .i64 0, .int .i64 0, .int .i64 0, .int .i64 0, .bool false], ty := none } -- struct { c diff.Collector; old int; new int; at int; grown i
theorem ti69_ok : ti69.ok Tryd.prog 69 := ⟨by kernel_rfl, ⟨_, Tryd.underlying69, ⟨rfl, _, rfl, rfl⟩⟩, ⟨rfl, rfl⟩⟩
def ty69 : Ty := .st (.pair (.st (.pair (.slice (.st (.pair (.int .i64) (.pair (.slice (.str)) (.slice (.str)))))) (.pair (.int .i64) (.bool)))) (.pair (.int .i64) (.pair (.int .i64) (.pair (.int .i64) (.pair (.int .i64) (.bool))))))
theorem ty69_ok : TyOk Tryd.prog 69 ti69 ty69 := ⟨ti69_ok, rfl, rfl⟩
def ti70 : TI := { size := 8, agg := true, bytes := 80, kind := .struct [(0, 68), (3, 3), (4, 3), (5, 3), (6, 3), (7, 4)], zc := [.slice none 0 0, .int .i64 0, .bool false, .int .i64 0, .int .i64 0, .int .i64 0, .int .i64 0, .bool false], ty := none } -- unified.parser
theorem ti70_ok : ti70.ok Tryd.prog 70 := ⟨by kernel_rfl, ⟨_, Tryd.underlying70, ⟨rfl, _, rfl, rfl⟩⟩, ⟨rfl, rfl⟩⟩
def ty70 : Ty := .st (.pair (.st (.pair (.slice (.st (.pair (.int .i64) (.pair (.slice (.str)) (.slice (.str)))))) (.pair (.int .i64) (.bool)))) (.pair (.int .i64) (.pair (.int .i64) (.pair (.int .i64) (.pair (.int .i64) (.bool))))))
theorem ty70_ok : TyOk Tryd.prog 70 ti70 ty70 := ⟨ti70_ok, rfl, rfl⟩
def ti72 : TI := { size := 1, agg := false, bytes := 8, kind := .other, zc := [.nilFunc], ty := none } -- func(string, string) (string, string, bool)
theorem ti72_ok : ti72.ok Tryd.prog 72 := ⟨by kernel_rfl, ⟨_, Tryd.underlying72, rfl⟩, ⟨rfl, rfl⟩⟩
def ti73 : TI := { size := 1, agg := false, bytes := 8, kind := .other, zc := [.nilFunc], ty := none } -- func(string) bool
theorem ti73_ok : ti73.ok Tryd.prog 73 := ⟨by kernel_rfl, ⟨_, Tryd.underlying73, rfl⟩, ⟨rfl, rfl⟩⟩
def ti74 : TI := { size := 1, agg := false, bytes := 8, kind := .other, zc := [.nilFunc], ty := none } -- func() api.Patch
theorem ti74_ok : ti74.ok Tryd.prog 74 := ⟨by kernel_rfl, ⟨_, Tryd.underlying74, rfl⟩, ⟨rfl, rfl⟩⟩
def ti75 : TI := { size := 1, agg := false, bytes := 8, kind := .other, zc := [.nilFunc], ty := none } -- func(api.Patch, int) api.Fault
theorem ti75_ok : ti75.ok Tryd.prog 75 := ⟨by kernel_rfl, ⟨_, Tryd.underlying75, rfl⟩, ⟨rfl, rfl⟩⟩
def ti79 : TI := { size := 1, agg := false, bytes := 8, kind := .other, zc := [.nilFunc], ty := none } -- func(string) (int, error)
theorem ti79_ok : ti79.ok Tryd.prog 79 := ⟨by kernel_rfl, ⟨_, Tryd.underlying79, rfl⟩, ⟨rfl, rfl⟩⟩
def ti80 : TI := { size := 1, agg := false, bytes := 8, kind := .other, zc := [.nilFunc], ty := none } -- func(*strings.Builder, int, int)
theorem ti80_ok : ti80.ok Tryd.prog 80 := ⟨by kernel_rfl, ⟨_, Tryd.underlying80, rfl⟩, ⟨rfl, rfl⟩⟩
def ti81 : TI := { size := 1, agg := false, bytes := 8, kind := .other, zc := [.nilFunc], ty := none } -- func(*strings.Builder, uint8, []string)
theorem ti81_ok : ti81.ok Tryd.prog 81 := ⟨by kernel_rfl, ⟨_, Tryd.underlying81, rfl⟩, ⟨rfl, rfl⟩⟩
def ti82 : TI := { size := 1, agg := false, bytes := 8, kind := .other, zc := [.pointer none], ty := none } -- *uint8
theorem ti82_ok : ti82.ok Tryd.prog 82 := ⟨by kernel_rfl, ⟨_, Tryd.underlying82, rfl⟩, ⟨rfl, rfl⟩⟩
def ti83 : TI := { size := 1, agg := false, bytes := 8, kind := .other, zc := [.nilFunc], ty := none } -- func(int) string
theorem ti83_ok : ti83.ok Tryd.prog 83 := ⟨by kernel_rfl, ⟨_, Tryd.underlying83, rfl⟩, ⟨rfl, rfl⟩⟩
def ti84 : TI := { size := 1, agg := false, bytes := 8, kind := .other, zc := [.nilFunc], ty := none } -- func(api.Hunk, int) int
theorem ti84_ok : ti84.ok Tryd.prog 84 := ⟨by kernel_rfl, ⟨_, Tryd.underlying84, rfl⟩, ⟨rfl, rfl⟩⟩
def ti85 : TI := { size := 1, agg := false, bytes := 8, kind := .other, zc := [.nilFunc], ty := none } -- func([]string) api.Fault
theorem ti85_ok : ti85.ok Tryd.prog 85 := ⟨by kernel_rfl, ⟨_, Tryd.underlying85, rfl⟩, ⟨rfl, rfl⟩⟩
def ti86 : TI := { size := 1, agg := false, bytes := 8, kind := .other, zc := [.nilFunc], ty := none } -- func([]string) []string
theorem ti86_ok : ti86.ok Tryd.prog 86 := ⟨by kernel_rfl, ⟨_, Tryd.underlying86, rfl⟩, ⟨rfl, rfl⟩⟩
def ti87 : TI := { size := 2, agg := true, bytes := 16, kind := .array 2 3, zc := [.int .i64 0, .int .i64 0], ty := none } -- [2]int
theorem ti87_ok : ti87.ok Tryd.prog 87 := ⟨by kernel_rfl, ⟨_, Tryd.underlying87, ⟨rfl, rfl⟩⟩, ⟨rfl, rfl⟩⟩
def ty87 : Ty := .st (.pair (.int .i64) (.int .i64))
theorem ty87_ok : TyOk Tryd.prog 87 ti87 ty87 := ⟨ti87_ok, rfl, rfl⟩
def ti88 : TI := { size := 1, agg := false, bytes := 8, kind := .other, zc := [.pointer none], ty := none } -- *unified.parser
theorem ti88_ok : ti88.ok Tryd.prog 88 := ⟨by kernel_rfl, ⟨_, Tryd.underlying88, rfl⟩, ⟨rfl, rfl⟩⟩
def ti89 : TI := { size := 1, agg := false, bytes := 8, kind := .other, zc := [.nilFunc], ty := none } -- func(int)
theorem ti89_ok : ti89.ok Tryd.prog 89 := ⟨by kernel_rfl, ⟨_, Tryd.underlying89, rfl⟩, ⟨rfl, rfl⟩⟩
def ti90 : TI := { size := 1, agg := false, bytes := 8, kind := .other, zc := [.nilFunc], ty := none } -- func(string)
theorem ti90_ok : ti90.ok Tryd.prog 90 := ⟨by kernel_rfl, ⟨_, Tryd.underlying90, rfl⟩, ⟨rfl, rfl⟩⟩
def ti91 : TI := { size := 1, agg := false, bytes := 8, kind := .other, zc := [.pointer none], ty := none } -- *diff.Collector
theorem ti91_ok : ti91.ok Tryd.prog 91 := ⟨by kernel_rfl, ⟨_, Tryd.underlying91, rfl⟩, ⟨rfl, rfl⟩⟩
def ti92 : TI := { size := 1, agg := false, bytes := 8, kind := .other, zc := [.nilFunc], ty := none } -- func(uint8) error
theorem ti92_ok : ti92.ok Tryd.prog 92 := ⟨by kernel_rfl, ⟨_, Tryd.underlying92, rfl⟩, ⟨rfl, rfl⟩⟩
def ti93 : TI := { size := 2, agg := true, bytes := 48, kind := .array 2 22, zc := [.slice none 0 0, .slice none 0 0], ty := none } -- [2][]string
theorem ti93_ok : ti93.ok Tryd.prog 93 := ⟨by kernel_rfl, ⟨_, Tryd.underlying93, ⟨rfl, rfl⟩⟩, ⟨rfl, rfl⟩⟩
def ty93 : Ty := .st (.pair (.slice (.str)) (.slice (.str)))
theorem ty93_ok : TyOk Tryd.prog 93 ti93 ty93 := ⟨ti93_ok, rfl, rfl⟩
def ti94 : TI := { size := 1, agg := false, bytes := 8, kind := .other, zc := [.nilFunc], ty := none } -- func(string, uint8) int
theorem ti94_ok : ti94.ok Tryd.prog 94 := ⟨by kernel_rfl, ⟨_, Tryd.underlying94, rfl⟩, ⟨rfl, rfl⟩⟩
def ti95 : TI := { size := 1, agg := false, bytes := 8, kind := .other, zc := [.nilFunc], ty := none } -- func(string, string) int
theorem ti95_ok : ti95.ok Tryd.prog 95 := ⟨by kernel_rfl, ⟨_, Tryd.underlying95, rfl⟩, ⟨rfl, rfl⟩⟩
def ti97 : TI := { size := 1, agg := false, bytes := 8, kind := .other, zc := [.nilFunc], ty := none } -- func(string, string) (string, bool)
theorem ti97_ok : ti97.ok Tryd.prog 97 := ⟨by kernel_rfl, ⟨_, Tryd.underlying97, rfl⟩, ⟨rfl, rfl⟩⟩
def ti98 : TI := { size := 4, agg := true, bytes := 32, kind := .array 4 3, zc := [.int .i64 0, .int .i64 0, .int .i64 0, .int .i64 0], ty := none } -- [4]int
theorem ti98_ok : ti98.ok Tryd.prog 98 := ⟨by kernel_rfl, ⟨_, Tryd.underlying98, ⟨rfl, rfl⟩⟩, ⟨rfl, rfl⟩⟩
def ty98 : Ty := .st (.pair (.int .i64) (.pair (.int .i64) (.pair (.int .i64) (.int .i64))))
theorem ty98_ok : TyOk Tryd.prog 98 ti98 ty98 := ⟨ti98_ok, rfl, rfl⟩
def ti99 : TI := { size := 4, agg := true, bytes := 64, kind := .array 4 9, zc := [.string .empty, .string .empty, .string .empty, .string .empty], ty := none } -- [4]string
theorem ti99_ok : ti99.ok Tryd.prog 99 := ⟨by kernel_rfl, ⟨_, Tryd.underlying99, ⟨rfl, rfl⟩⟩, ⟨rfl, rfl⟩⟩
def ty99 : Ty := .st (.pair (.str) (.pair (.str) (.pair (.str) (.str))))
theorem ty99_ok : TyOk Tryd.prog 99 ti99 ty99 := ⟨ti99_ok, rfl, rfl⟩
def ti101 : TI := { size := 1, agg := false, bytes := 8, kind := .other, zc := [.nilFunc], ty := none } -- func(string, string) (int, string, bool)
theorem ti101_ok : ti101.ok Tryd.prog 101 := ⟨by kernel_rfl, ⟨_, Tryd.underlying101, rfl⟩, ⟨rfl, rfl⟩⟩
def ti102 : TI := { size := 1, agg := false, bytes := 8, kind := .other, zc := [.nilFunc], ty := none } -- func(int, int) int
theorem ti102_ok : ti102.ok Tryd.prog 102 := ⟨by kernel_rfl, ⟨_, Tryd.underlying102, rfl⟩, ⟨rfl, rfl⟩⟩
def ti103 : TI := { size := 1, agg := false, bytes := 8, kind := .other, zc := [.pointer none], ty := none } -- *api.Hunk
theorem ti103_ok : ti103.ok Tryd.prog 103 := ⟨by kernel_rfl, ⟨_, Tryd.underlying103, rfl⟩, ⟨rfl, rfl⟩⟩
def ti104 : TI := { size := 1, agg := false, bytes := 8, kind := .other, zc := [.nilFunc], ty := none } -- func() *api.Hunk
theorem ti104_ok : ti104.ok Tryd.prog 104 := ⟨by kernel_rfl, ⟨_, Tryd.underlying104, rfl⟩, ⟨rfl, rfl⟩⟩
def ti106 : TI := { size := 1, agg := false, bytes := 8, kind := .other, zc := [.nilFunc], ty := none } -- func(unsafe.Pointer) unsafe.Pointer
theorem ti106_ok : ti106.ok Tryd.prog 106 := ⟨by kernel_rfl, ⟨_, Tryd.underlying106, rfl⟩, ⟨rfl, rfl⟩⟩
def ti107 : TI := { size := 1, agg := false, bytes := 8, kind := .int .u64, zc := [.int .u64 0], ty := none } -- uint
theorem ti107_ok : ti107.ok Tryd.prog 107 := ⟨by kernel_rfl, ⟨_, Tryd.underlying107, ⟨rfl, rfl⟩⟩, ⟨rfl, rfl⟩⟩
def ty107 : Ty := .int .u64
theorem ty107_ok : TyOk Tryd.prog 107 ti107 ty107 := ⟨ti107_ok, rfl, rfl⟩
def ti108 : TI := { size := 1, agg := false, bytes := 8, kind := .other, zc := [.nilFunc], ty := none } -- func(int64, int) string
theorem ti108_ok : ti108.ok Tryd.prog 108 := ⟨by kernel_rfl, ⟨_, Tryd.underlying108, rfl⟩, ⟨rfl, rfl⟩⟩
def ti109 : TI := { size := 1, agg := false, bytes := 4, kind := .int .u32, zc := [.int .u32 0], ty := none } -- uint32
theorem ti109_ok : ti109.ok Tryd.prog 109 := ⟨by kernel_rfl, ⟨_, Tryd.underlying109, ⟨rfl, rfl⟩⟩, ⟨rfl, rfl⟩⟩
def ty109 : Ty := .int .u32
theorem ty109_ok : TyOk Tryd.prog 109 ti109 ty109 := ⟨ti109_ok, rfl, rfl⟩
def ti111 : TI := { size := 1, agg := false, bytes := 8, kind := .other, zc := [.nilFunc], ty := none } -- func(string) (uint32, uint32)
theorem ti111_ok : ti111.ok Tryd.prog 111 := ⟨by kernel_rfl, ⟨_, Tryd.underlying111, rfl⟩, ⟨rfl, rfl⟩⟩
def ti112 : TI := { size := 1, agg := false, bytes := 8, kind := .other, zc := [.nilFunc], ty := none } -- func(string, string) bool
theorem ti112_ok : ti112.ok Tryd.prog 112 := ⟨by kernel_rfl, ⟨_, Tryd.underlying112, rfl⟩, ⟨rfl, rfl⟩⟩
def ti113 : TI := { size := 1, agg := false, bytes := 8, kind := .other, zc := [.nilFunc], ty := none } -- func(string, string, int, int, error) error
theorem ti113_ok : ti113.ok Tryd.prog 113 := ⟨by kernel_rfl, ⟨_, Tryd.underlying113, rfl⟩, ⟨rfl, rfl⟩⟩
def ti114 : TI := { size := 24, agg := true, bytes := 24, kind := .array 24 5, zc := [.int .u8 0, .int .u8 0, .int .u8 0, .int .u8 0, .int .u8 0, .int .u8 0, .int .u8 0, .int .u8 0, .int .u8 0, .int .u8 0, .int .u8 0, .int .u8 0, .int .u8 0, .int .u8 0, .int .u8 0, .int .u8 0, .int .u8 0, .int .u8 0, .int .u8 0, .int .u8 0, .int .u8 0, .int .u8 0, .int .u8 0, .int .u8 0], ty := none } -- [24]uint8
theorem ti114_ok : ti114.ok Tryd.prog 114 := ⟨by kernel_rfl, ⟨_, Tryd.underlying114, ⟨rfl, rfl⟩⟩, ⟨rfl, rfl⟩⟩
def ti115 : TI := { size := 1, agg := false, bytes := 8, kind := .int .u64, zc := [.int .u64 0], ty := none } -- uint64
theorem ti115_ok : ti115.ok Tryd.prog 115 := ⟨by kernel_rfl, ⟨_, Tryd.underlying115, ⟨rfl, rfl⟩⟩, ⟨rfl, rfl⟩⟩
def ty115 : Ty := .int .u64
theorem ty115_ok : TyOk Tryd.prog 115 ti115 ty115 := ⟨ti115_ok, rfl, rfl⟩
def ti116 : TI := { size := 1, agg := false, bytes := 8, kind := .other, zc := [.nilFunc], ty := none } -- func(uint64) int
theorem ti116_ok : ti116.ok Tryd.prog 116 := ⟨by kernel_rfl, ⟨_, Tryd.underlying116, rfl⟩, ⟨rfl, rfl⟩⟩
def ti117 : TI := { size := 1, agg := false, bytes := 8, kind := .other, zc := [.nilFunc], ty := none } -- func([]uint8, uint64)
theorem ti117_ok : ti117.ok Tryd.prog 117 := ⟨by kernel_rfl, ⟨_, Tryd.underlying117, rfl⟩, ⟨rfl, rfl⟩⟩
def ti119 : TI := { size := 1, agg := false, bytes := 8, kind := .other, zc := [.nilFunc], ty := none } -- func([]uint8, uint64, int, bool, bool) ([]uint8, string)
theorem ti119_ok : ti119.ok Tryd.prog 119 := ⟨by kernel_rfl, ⟨_, Tryd.underlying119, rfl⟩, ⟨rfl, rfl⟩⟩
def ti120 : TI := { size := 1, agg := false, bytes := 8, kind := .int .i64, zc := [.int .i64 0], ty := none } -- strconv.Error
theorem ti120_ok : ti120.ok Tryd.prog 120 := ⟨by kernel_rfl, ⟨_, Tryd.underlying120, ⟨rfl, rfl⟩⟩, ⟨rfl, rfl⟩⟩
def ty120 : Ty := .int .i64
theorem ty120_ok : TyOk Tryd.prog 120 ti120 ty120 := ⟨ti120_ok, rfl, rfl⟩
def ti122 : TI := { size := 1, agg := false, bytes := 8, kind := .other, zc := [.nilFunc], ty := none } -- func(string, int, int) (int64, error)
theorem ti122_ok : ti122.ok Tryd.prog 122 := ⟨by kernel_rfl, ⟨_, Tryd.underlying122, rfl⟩, ⟨rfl, rfl⟩⟩
def ti123 : TI := { size := 1, agg := false, bytes := 8, kind := .other, zc := [.pointer none], ty := none } -- *strconv.NumError
theorem ti123_ok : ti123.ok Tryd.prog 123 := ⟨by kernel_rfl, ⟨_, Tryd.underlying123, rfl⟩, ⟨rfl, rfl⟩⟩
def ti124 : TI := { size := 1, agg := false, bytes := 8, kind := .other, zc := [.nilFunc], ty := none } -- func(string, string) *strconv.NumError
theorem ti124_ok : ti124.ok Tryd.prog 124 := ⟨by kernel_rfl, ⟨_, Tryd.underlying124, rfl⟩, ⟨rfl, rfl⟩⟩
def ti125 : TI := { size := 1, agg := false, bytes := 8, kind := .other, zc := [.nilFunc], ty := none } -- func(string, string, int) *strconv.NumError
theorem ti125_ok : ti125.ok Tryd.prog 125 := ⟨by kernel_rfl, ⟨_, Tryd.underlying125, rfl⟩, ⟨rfl, rfl⟩⟩
def ti126 : TI := { size := 1, agg := false, bytes := 8, kind := .other, zc := [.nilFunc], ty := none } -- func(bool) int
theorem ti126_ok : ti126.ok Tryd.prog 126 := ⟨by kernel_rfl, ⟨_, Tryd.underlying126, rfl⟩, ⟨rfl, rfl⟩⟩
def ti127 : TI := { size := 20, agg := true, bytes := 160, kind := .array 20 115, zc := [.int .u64 0, .int .u64 0, .int .u64 0, .int .u64 0, .int .u64 0, .int .u64 0, .int .u64 0, .int .u64 0, .int .u64 0, .int .u64 0, .int .u64 0, .int .u64 0, .int .u64 0, .int .u64 0, .int .u64 0, .int .u64 0, .int .u64 0, .int .u64 0, .int .u64 0, .int .u64 0], ty := none } -- [20]uint64
theorem ti127_ok : ti127.ok Tryd.prog 127 := ⟨by kernel_rfl, ⟨_, Tryd.underlying127, ⟨rfl, rfl⟩⟩, ⟨rfl, rfl⟩⟩
def ti129 : TI := { size := 1, agg := false, bytes := 8, kind := .other, zc := [.nilFunc], ty := none } -- func(int) bool
theorem ti129_ok : ti129.ok Tryd.prog 129 := ⟨by kernel_rfl, ⟨_, Tryd.underlying129, rfl⟩, ⟨rfl, rfl⟩⟩
def ti130 : TI := { size := 1, agg := false, bytes := 8, kind := .other, zc := [.nilFunc], ty := none } -- func(uint) int
theorem ti130_ok : ti130.ok Tryd.prog 130 := ⟨by kernel_rfl, ⟨_, Tryd.underlying130, rfl⟩, ⟨rfl, rfl⟩⟩
def ti132 : TI := { size := 1, agg := false, bytes := 8, kind := .other, zc := [.nilFunc], ty := none } -- func(string, int, int) (uint64, error)
theorem ti132_ok : ti132.ok Tryd.prog 132 := ⟨by kernel_rfl, ⟨_, Tryd.underlying132, rfl⟩, ⟨rfl, rfl⟩⟩
def ti133 : TI := { size := 1, agg := false, bytes := 8, kind := .other, zc := [.nilFunc], ty := none } -- func(string) string
theorem ti133_ok : ti133.ok Tryd.prog 133 := ⟨by kernel_rfl, ⟨_, Tryd.underlying133, rfl⟩, ⟨rfl, rfl⟩⟩
def ti136 : TI := { size := 1, agg := false, bytes := 8, kind := .other, zc := [.nilFunc], ty := none } -- func(string) error
theorem ti136_ok : ti136.ok Tryd.prog 136 := ⟨by kernel_rfl, ⟨_, Tryd.underlying136, rfl⟩, ⟨rfl, rfl⟩⟩
def ti137 : TI := { size := 1, agg := false, bytes := 8, kind := .other, zc := [.nilFunc], ty := none } -- func(uint32) int
theorem ti137_ok : ti137.ok Tryd.prog 137 := ⟨by kernel_rfl, ⟨_, Tryd.underlying137, rfl⟩, ⟨rfl, rfl⟩⟩
def ti138 : TI := { size := 1, agg := false, bytes := 8, kind := .other, zc := [.nilFunc], ty := none } -- func(uint8) uint8
theorem ti138_ok : ti138.ok Tryd.prog 138 := ⟨by kernel_rfl, ⟨_, Tryd.underlying138, rfl⟩, ⟨rfl, rfl⟩⟩
def ti139 : TI := { size := 1, agg := false, bytes := 8, kind := .other, zc := [.pointer none], ty := none } -- *errors.errorString
theorem ti139_ok : ti139.ok Tryd.prog 139 := ⟨by kernel_rfl, ⟨_, Tryd.underlying139, rfl⟩, ⟨rfl, rfl⟩⟩
def ti140 : TI := { size := 1, agg := true, bytes := 16, kind := .struct [(0, 9)], zc := [.string .empty], ty := none } -- struct { s string }
theorem ti140_ok : ti140.ok Tryd.prog 140 := ⟨by kernel_rfl, ⟨_, Tryd.underlying140, ⟨rfl, _, rfl, rfl⟩⟩, ⟨rfl, rfl⟩⟩
def ty140 : Ty := .st (.str)
theorem ty140_ok : TyOk Tryd.prog 140 ti140 ty140 := ⟨ti140_ok, rfl, rfl⟩
def ti141 : TI := { size := 1, agg := true, bytes := 16, kind := .struct [(0, 9)], zc := [.string .empty], ty := none } -- errors.errorString
theorem ti141_ok : ti141.ok Tryd.prog 141 := ⟨by kernel_rfl, ⟨_, Tryd.underlying141, ⟨rfl, _, rfl, rfl⟩⟩, ⟨rfl, rfl⟩⟩
def ty141 : Ty := .st (.str)
theorem ty141_ok : TyOk Tryd.prog 141 ti141 ty141 := ⟨ti141_ok, rfl, rfl⟩
def ti142 : TI := { size := 32, agg := true, bytes := 32, kind := .array 32 5, zc := [.int .u8 0, .int .u8 0, .int .u8 0, .int .u8 0, .int .u8 0, .int .u8 0, .int .u8 0, .int .u8 0, .int .u8 0, .int .u8 0, .int .u8 0, .int .u8 0, .int .u8 0, .int .u8 0, .int .u8 0, .int .u8 0, .int .u8 0, .int .u8 0, .int .u8 0, .int .u8 0, .int .u8 0, .int .u8 0, .int .u8 0, .int .u8 0, .int .u8 0, .int .u8 0, .int .u8 0, .int .u8 0, .int .u8 0, .int .u8 0, .int .u8 0, .int .u8 0], ty := none } -- [32]uint8
theorem ti142_ok : ti142.ok Tryd.prog 142 := ⟨by kernel_rfl, ⟨_, Tryd.underlying142, ⟨rfl, rfl⟩⟩, ⟨rfl, rfl⟩⟩
def ti144 : TI := { size := 4, agg := true, bytes := 40, kind := .struct [(0, 17), (1, 17), (2, 17), (3, 9)], zc := [.pointer none, .pointer none, .pointer none, .string .empty], ty := none } -- struct { _interface *abi.Type; concrete *abi.Type; asserted 
theorem ti144_ok : ti144.ok Tryd.prog 144 := ⟨by kernel_rfl, ⟨_, Tryd.underlying144, ⟨rfl, _, rfl, rfl⟩⟩, ⟨rfl, rfl⟩⟩
def ti145 : TI := { size := 4, agg := true, bytes := 40, kind := .struct [(0, 17), (1, 17), (2, 17), (3, 9)], zc := [.pointer none, .pointer none, .pointer none, .string .empty], ty := none } -- runtime.TypeAssertionError
theorem ti145_ok : ti145.ok Tryd.prog 145 := ⟨by kernel_rfl, ⟨_, Tryd.underlying145, ⟨rfl, _, rfl, rfl⟩⟩, ⟨rfl, rfl⟩⟩
def ti149 : TI := { size := 1, agg := false, bytes := 1, kind := .int .u8, zc := [.int .u8 0], ty := none } -- abi.TFlag
theorem ti149_ok : ti149.ok Tryd.prog 149 := ⟨by kernel_rfl, ⟨_, Tryd.underlying149, ⟨rfl, rfl⟩⟩, ⟨rfl, rfl⟩⟩
def ty149 : Ty := .int .u8
theorem ty149_ok : TyOk Tryd.prog 149 ti149 ty149 := ⟨ti149_ok, rfl, rfl⟩
def ti150 : TI := { size := 1, agg := false, bytes := 1, kind := .int .u8, zc := [.int .u8 0], ty := none } -- abi.Kind
theorem ti150_ok : ti150.ok Tryd.prog 150 := ⟨by kernel_rfl, ⟨_, Tryd.underlying150, ⟨rfl, rfl⟩⟩, ⟨rfl, rfl⟩⟩
def ty150 : Ty := .int .u8
theorem ty150_ok : TyOk Tryd.prog 150 ti150 ty150 := ⟨ti150_ok, rfl, rfl⟩
def ti151 : TI := { size := 1, agg := false, bytes := 8, kind := .other, zc := [.nilFunc], ty := none } -- func(unsafe.Pointer, unsafe.Pointer) bool
theorem ti151_ok : ti151.ok Tryd.prog 151 := ⟨by kernel_rfl, ⟨_, Tryd.underlying151, rfl⟩, ⟨rfl, rfl⟩⟩
def ti152 : TI := { size := 1, agg := false, bytes := 4, kind := .int .i32, zc := [.int .i32 0], ty := none } -- abi.NameOff
theorem ti152_ok : ti152.ok Tryd.prog 152 := ⟨by kernel_rfl, ⟨_, Tryd.underlying152, ⟨rfl, rfl⟩⟩, ⟨rfl, rfl⟩⟩
def ty152 : Ty := .int .i32
theorem ty152_ok : TyOk Tryd.prog 152 ti152 ty152 := ⟨ti152_ok, rfl, rfl⟩
def ti153 : TI := { size := 1, agg := false, bytes := 4, kind := .int .i32, zc := [.int .i32 0], ty := none } -- abi.TypeOff
theorem ti153_ok : ti153.ok Tryd.prog 153 := ⟨by kernel_rfl, ⟨_, Tryd.underlying153, ⟨rfl, rfl⟩⟩, ⟨rfl, rfl⟩⟩
def ty153 : Ty := .int .i32
theorem ty153_ok : TyOk Tryd.prog 153 ti153 ty153 := ⟨ti153_ok, rfl, rfl⟩
def ti154 : TI := { size := 11, agg := true, bytes := 48, kind := .struct [(0, 12), (1, 12), (2, 109), (3, 149), (4, 5), (5, 5), (6, 150), (7, 151), (8, 82), (9, 152), (10, 153)], zc := [.int .u64 0, .int .u64 0, .int .u32 0, .int .u8 0, .int .u8 0, .int .u8 0, .int .u8 0, .nilFunc, .pointer none, .int .i32 0, .int .i32 0], ty := none } -- struct { Size_ uintptr; PtrBytes uintptr; Hash uint32; TFlag
theorem ti154_ok : ti154.ok Tryd.prog 154 := ⟨by kernel_rfl, ⟨_, Tryd.underlying154, ⟨rfl, _, rfl, rfl⟩⟩, ⟨rfl, rfl⟩⟩
def ti155 : TI := { size := 11, agg := true, bytes := 48, kind := .struct [(0, 12), (1, 12), (2, 109), (3, 149), (4, 5), (5, 5), (6, 150), (7, 151), (8, 82), (9, 152), (10, 153)], zc := [.int .u64 0, .int .u64 0, .int .u32 0, .int .u8 0, .int .u8 0, .int .u8 0, .int .u8 0, .nilFunc, .pointer none, .int .i32 0, .int .i32 0], ty := none } -- abi.Type
theorem ti155_ok : ti155.ok Tryd.prog 155 := ⟨by kernel_rfl, ⟨_, Tryd.underlying155, ⟨rfl, _, rfl, rfl⟩⟩, ⟨rfl, rfl⟩⟩

def lk {α : Type} : List (Nat × α) → Nat → Option α
  | [], _ => none
  | (k, x) :: l, t => bif Nat.beq t k then some x else lk l t
def lkAll {α : Type} (Q : Nat → α → Prop) : List (Nat × α) → Prop
  | [] => True
  | (k, x) :: l => Q k x ∧ lkAll Q l
theorem lk_all {α : Type} {Q : Nat → α → Prop} : ∀ (l : List (Nat × α)), lkAll Q l → ∀ t x, lk l t = some x → Q t x
  | [], _, t, x, h => by cases h
  | (k, y) :: l, hq, t, x, h => by
    unfold lk at h
    cases hb : Nat.beq t k
    · rw [hb] at h; exact lk_all l hq.2 t x h
    · rw [hb] at h
      cases h
      rw [Nat.eq_of_beq_eq_true hb]
      exact hq.1
theorem lk_mem {α : Type} {Q : Nat → α → Prop} (l : List (Nat × α)) (h : ∀ p ∈ l, Q p.1 p.2) : ∀ t x, lk l t = some x → Q t x := by
  refine lk_all l ?_
  induction l with
  | nil => trivial
  | cons p l ih => exact ⟨h p List.mem_cons_self, ih fun q hq => h q (List.mem_cons_of_mem _ hq)⟩
def tlist : List (Nat × TI) := [(1, { size := 1, agg := false, bytes := 8, kind := .other, zc := [.nilFunc], ty := none }), (2, { size := 1, agg := false, bytes := 8, kind := .int .i64, zc := [.int .i64 0], ty := none }), (3, { size := 1, agg := false, bytes := 8, kind := .int .i64, zc := [.int .i64 0], ty := none }), (4, { size := 1, agg := false, bytes := 1, kind := .bool, zc := [.bool false], ty := none }), (5, { size := 1, agg := false, bytes := 1, kind := .int .u8, zc := [.int .u8 0], ty := none }), (6, { size := 1, agg := false, bytes := 1, kind := .int .u8, zc := [.int .u8 0], ty := none }), (7, { size := 4, agg := true, bytes := 24, kind := .struct [(0, 2), (1, 3), (2, 4), (3, 6)], zc := [.int .i64 0, .int .i64 0, .bool false, .int .u8 0], ty := none }), (8, { size := 4, agg := true, bytes := 24, kind := .struct [(0, 2), (1, 3), (2, 4), (3, 6)], zc := [.int .i64 0, .int .i64 0, .bool false, .int .u8 0], ty := none }), (9, { size := 1, agg := false, bytes := 16, kind := .str, zc := [.string .empty], ty := none }), (10, { size := 1, agg := false, bytes := 16, kind := .str, zc := [.string .empty], ty := none }), (11, { size := 1, agg := false, bytes := 16, kind := .str, zc := [.string .empty], ty := none }), (12, { size := 1, agg := false, bytes := 8, kind := .int .u64, zc := [.int .u64 0], ty := none }), (13, { size := 2, agg := true, bytes := 24, kind := .struct [(0, 9), (1, 12)], zc := [.string .empty, .int .u64 0], ty := none }), (14, { size := 2, agg := true, bytes := 24, kind := .struct [(0, 9), (1, 12)], zc := [.string .empty, .int .u64 0], ty := none }), (15, { size := 1, agg := false, bytes := 8, kind := .other, zc := [.pointer none], ty := none }), (16, { size := 1, agg := false, bytes := 8, kind := .other, zc := [.pointer none], ty := none }), (17, { size := 1, agg := false, bytes := 8, kind := .other, zc := [.pointer none], ty := none }), (18, { size := 1, agg := true, bytes := 8, kind := .struct [(0, 17)], zc := [.pointer none], ty := none }), (19, { size := 1, agg := true, bytes := 8, kind := .struct [(0, 17)], zc := [.pointer none], ty := none }), (21, { size := 1, agg := false, bytes := 4, kind := .int .i32, zc := [.int .i32 0], ty := none }), (22, { size := 1, agg := false, bytes := 24, kind := .slice 9, zc := [.slice none 0 0], ty := none }), (23, { size := 1, agg := false, bytes := 24, kind := .slice 41, zc := [.slice none 0 0], ty := none }), (24, { size := 1, agg := true, bytes := 24, kind := .struct [(0, 23)], zc := [.slice none 0 0], ty := none }), (25, { size := 1, agg := true, bytes := 24, kind := .struct [(0, 23)], zc := [.slice none 0 0], ty := none }), (26, { size := 2, agg := true, bytes := 16, kind := .struct [(0, 3), (1, 3)], zc := [.int .i64 0, .int .i64 0], ty := none }), (27, { size := 2, agg := true, bytes := 16, kind := .struct [(0, 3), (1, 3)], zc := [.int .i64 0, .int .i64 0], ty := none }), (29, { size := 1, agg := false, bytes := 8, kind := .other, zc := [.nilFunc], ty := none }), (30, { size := 1, agg := false, bytes := 24, kind := .slice 3, zc := [.slice none 0 0], ty := none }), (32, { size := 1, agg := false, bytes := 8, kind := .other, zc := [.nilFunc], ty := none }), (33, { size := 1, agg := false, bytes := 8, kind := .other, zc := [.nilFunc], ty := none }), (34, { size := 1, agg := false, bytes := 8, kind := .other, zc := [.nilFunc], ty := none }), (35, { size := 1, agg := false, bytes := 8, kind := .other, zc := [.nilFunc], ty := none }), (36, { size := 1, agg := false, bytes := 8, kind := .other, zc := [.nilFunc], ty := none }), (38, { size := 1, agg := false, bytes := 8, kind := .other, zc := [.nilFunc], ty := none }), (39, { size := 1, agg := false, bytes := 8, kind := .other, zc := [.nilFunc], ty := none }), (40, { size := 3, agg := true, bytes := 56, kind := .struct [(0, 3), (1, 22), (2, 22)], zc := [.int .i64 0, .slice none 0 0, .slice none 0 0], ty := none }), (41, { size := 3, agg := true, bytes := 56, kind := .struct [(0, 3), (1, 22), (2, 22)], zc := [.int .i64 0, .slice none 0 0, .slice none 0 0], ty := none }), (43, { size := 1, agg := false, bytes := 8, kind := .other, zc := [.nilFunc], ty := none }), (44, { size := 1, agg := false, bytes := 8, kind := .other, zc := [.nilFunc], ty := none }), (45, { size := 1, agg := false, bytes := 8, kind := .other, zc := [.pointer none], ty := none }), (46, { size := 1, agg := false, bytes := 24, kind := .slice 5, zc := [.slice none 0 0], ty := none }), (47, { size := 2, agg := true, bytes := 32, kind := .struct [(0, 45), (1, 46)], zc := [.pointer none, .slice none 0 0], ty := none }), (48, { size := 2, agg := true, bytes := 32, kind := .struct [(0, 45), (1, 46)], zc := [.pointer none, .slice none 0 0], ty := none }), (49, { size := 1, agg := false, bytes := 8, kind := .other, zc := [.nilFunc], ty := none }), (50, { size := 1, agg := false, bytes := 8, kind := .other, zc := [.nilFunc], ty := none }), (51, { size := 1, agg := false, bytes := 8, kind := .other, zc := [.nilFunc], ty := none }), (52, { size := 1, agg := false, bytes := 8, kind := .other, zc := [.nilFunc], ty := none }), (53, { size := 1, agg := false, bytes := 8, kind := .other, zc := [.nilFunc], ty := none }), (54, { size := 1, agg := false, bytes := 8, kind := .other, zc := [.nilFunc], ty := none }), (55, { size := 1, agg := false, bytes := 8, kind := .other, zc := [.nilFunc], ty := none }), (56, { size := 1, agg := false, bytes := 8, kind := .other, zc := [.nilFunc], ty := none }), (57, { size := 1, agg := false, bytes := 8, kind := .other, zc := [.nilFunc], ty := none }), (59, { size := 1, agg := false, bytes := 8, kind := .other, zc := [.nilFunc], ty := none }), (60, { size := 1, agg := false, bytes := 8, kind := .other, zc := [.nilFunc], ty := none }), (61, { size := 1, agg := false, bytes := 8, kind := .other, zc := [.nilFunc], ty := none }), (62, { size := 1, agg := false, bytes := 8, kind := .other, zc := [.nilFunc], ty := none }), (63, { size := 1, agg := false, bytes := 8, kind := .other, zc := [.nilFunc], ty := none }), (64, { size := 1, agg := false, bytes := 8, kind := .other, zc := [.nilFunc], ty := none }), (65, { size := 1, agg := false, bytes := 8, kind := .other, zc := [.nilFunc], ty := none }), (66, { size := 1, agg := false, bytes := 8, kind := .other, zc := [.nilFunc], ty := none }), (67, { size := 3, agg := true, bytes := 40, kind := .struct [(0, 23), (1, 3), (2, 4)], zc := [.slice none 0 0, .int .i64 0, .bool false], ty := none }), (68, { size := 3, agg := true, bytes := 40, kind := .struct [(0, 23), (1, 3), (2, 4)], zc := [.slice none 0 0, .int .i64 0, .bool false], ty := none }), (69, { size := 8, agg := true, bytes := 80, kind := .struct [(0, 68), (3, 3), (4, 3), (5, 3), (6, 3), (7, 4)], zc := [.slice none 0 0, .int .i64 0, .bool false, .int .i64 0, .int .i64 0, .int .i64 0, .int .i64 0, .bool false], ty := none }), (70, { size := 8, agg := true, bytes := 80, kind := .struct [(0, 68), (3, 3), (4, 3), (5, 3), (6, 3), (7, 4)], zc := [.slice none 0 0, .int .i64 0, .bool false, .int .i64 0, .int .i64 0, .int .i64 0, .int .i64 0, .bool false], ty := none }), (72, { size := 1, agg := false, bytes := 8, kind := .other, zc := [.nilFunc], ty := none }), (73, { size := 1, agg := false, bytes := 8, kind := .other, zc := [.nilFunc], ty := none }), (74, { size := 1, agg := false, bytes := 8, kind := .other, zc := [.nilFunc], ty := none }), (75, { size := 1, agg := false, bytes := 8, kind := .other, zc := [.nilFunc], ty := none }), (79, { size := 1, agg := false, bytes := 8, kind := .other, zc := [.nilFunc], ty := none }), (80, { size := 1, agg := false, bytes := 8, kind := .other, zc := [.nilFunc], ty := none }), (81, { size := 1, agg := false, bytes := 8, kind := .other, zc := [.nilFunc], ty := none }), (82, { size := 1, agg := false, bytes := 8, kind := .other, zc := [.pointer none], ty := none }), (83, { size := 1, agg := false, bytes := 8, kind := .other, zc := [.nilFunc], ty := none }), (84, { size := 1, agg := false, bytes := 8, kind := .other, zc := [.nilFunc], ty := none }), (85, { size := 1, agg := false, bytes := 8, kind := .other, zc := [.nilFunc], ty := none }), (86, { size := 1, agg := false, bytes := 8, kind := .other, zc := [.nilFunc], ty := none }), (87, { size := 2, agg := true, bytes := 16, kind := .array 2 3, zc := [.int .i64 0, .int .i64 0], ty := none }), (88, { size := 1, agg := false, bytes := 8, kind := .other, zc := [.pointer none], ty := none }), (89, { size := 1, agg := false, bytes := 8, kind := .other, zc := [.nilFunc], ty := none }), (90, { size := 1, agg := false, bytes := 8, kind := .other, zc := [.nilFunc], ty := none }), (91, { size := 1, agg := false, bytes := 8, kind := .other, zc := [.pointer none], ty := none }), (92, { size := 1, agg := false, bytes := 8, kind := .other, zc := [.nilFunc], ty := none }), (93, { size := 2, agg := true, bytes := 48, kind := .array 2 22, zc := [.slice none 0 0, .slice none 0 0], ty := none }), (94, { size := 1, agg := false, bytes := 8, kind := .other, zc := [.nilFunc], ty := none }), (95, { size := 1, agg := false, bytes := 8, kind := .other, zc := [.nilFunc], ty := none }), (97, { size := 1, agg := false, bytes := 8, kind := .other, zc := [.nilFunc], ty := none }), (98, { size := 4, agg := true, bytes := 32, kind := .array 4 3, zc := [.int .i64 0, .int .i64 0, .int .i64 0, .int .i64 0], ty := none }), (99, { size := 4, agg := true, bytes := 64, kind := .array 4 9, zc := [.string .empty, .string .empty, .string .empty, .string .empty], ty := none }), (101, { size := 1, agg := false, bytes := 8, kind := .other, zc := [.nilFunc], ty := none }), (102, { size := 1, agg := false, bytes := 8, kind := .other, zc := [.nilFunc], ty := none }), (103, { size := 1, agg := false, bytes := 8, kind := .other, zc := [.pointer none], ty := none }), (104, { size := 1, agg := false, bytes := 8, kind := .other, zc := [.nilFunc], ty := none }), (106, { size := 1, agg := false, bytes := 8, kind := .other, zc := [.nilFunc], ty := none }), (107, { size := 1, agg := false, bytes := 8, kind := .int .u64, zc := [.int .u64 0], ty := none }), (108, { size := 1, agg := false, bytes := 8, kind := .other, zc := [.nilFunc], ty := none }), (109, { size := 1, agg := false, bytes := 4, kind := .int .u32, zc := [.int .u32 0], ty := none }), (111, { size := 1, agg := false, bytes := 8, kind := .other, zc := [.nilFunc], ty := none }), (112, { size := 1, agg := false, bytes := 8, kind := .other, zc := [.nilFunc], ty := none }), (113, { size := 1, agg := false, bytes := 8, kind := .other, zc := [.nilFunc], ty := none }), (114, { size := 24, agg := true, bytes := 24, kind := .array 24 5, zc := [.int .u8 0, .int .u8 0, .int .u8 0, .int .u8 0, .int .u8 0, .int .u8 0, .int .u8 0, .int .u8 0, .int .u8 0, .int .u8 0, .int .u8 0, .int .u8 0, .int .u8 0, .int .u8 0, .int .u8 0, .int .u8 0, .int .u8 0, .int .u8 0, .int .u8 0, .int .u8 0, .int .u8 0, .int .u8 0, .int .u8 0, .int .u8 0], ty := none }), (115, { size := 1, agg := false, bytes := 8, kind := .int .u64, zc := [.int .u64 0], ty := none }), (116, { size := 1, agg := false, bytes := 8, kind := .other, zc := [.nilFunc], ty := none }), (117, { size := 1, agg := false, bytes := 8, kind := .other, zc := [.nilFunc], ty := none }), (119, { size := 1, agg := false, bytes := 8, kind := .other, zc := [.nilFunc], ty := none }), (120, { size := 1, agg := false, bytes := 8, kind := .int .i64, zc := [.int .i64 0], ty := none }), (122, { size := 1, agg := false, bytes := 8, kind := .other, zc := [.nilFunc], ty := none }), (123, { size := 1, agg := false, bytes := 8, kind := .other, zc := [.pointer none], ty := none }), (124, { size := 1, agg := false, bytes := 8, kind := .other, zc := [.nilFunc], ty := none }), (125, { size := 1, agg := false, bytes := 8, kind := .other, zc := [.nilFunc], ty := none }), (126, { size := 1, agg := false, bytes := 8, kind := .other, zc := [.nilFunc], ty := none }), (127, { size := 20, agg := true, bytes := 160, kind := .array 20 115, zc := [.int .u64 0, .int .u64 0, .int .u64 0, .int .u64 0, .int .u64 0, .int .u64 0, .int .u64 0, .int .u64 0, .int .u64 0, .int .u64 0, .int .u64 0, .int .u64 0, .int .u64 0, .int .u64 0, .int .u64 0, .int .u64 0, .int .u64 0, .int .u64 0, .int .u64 0, .int .u64 0], ty := none }), (129, { size := 1, agg := false, bytes := 8, kind := .other, zc := [.nilFunc], ty := none }), (130, { size := 1, agg := false, bytes := 8, kind := .other, zc := [.nilFunc], ty := none }), (132, { size := 1, agg := false, bytes := 8, kind := .other, zc := [.nilFunc], ty := none }), (133, { size := 1, agg := false, bytes := 8, kind := .other, zc := [.nilFunc], ty := none }), (136, { size := 1, agg := false, bytes := 8, kind := .other, zc := [.nilFunc], ty := none }), (137, { size := 1, agg := false, bytes := 8, kind := .other, zc := [.nilFunc], ty := none }), (138, { size := 1, agg := false, bytes := 8, kind := .other, zc := [.nilFunc], ty := none }), (139, { size := 1, agg := false, bytes := 8, kind := .other, zc := [.pointer none], ty := none }), (140, { size := 1, agg := true, bytes := 16, kind := .struct [(0, 9)], zc := [.string .empty], ty := none }), (141, { size := 1, agg := true, bytes := 16, kind := .struct [(0, 9)], zc := [.string .empty], ty := none }), (142, { size := 32, agg := true, bytes := 32, kind := .array 32 5, zc := [.int .u8 0, .int .u8 0, .int .u8 0, .int .u8 0, .int .u8 0, .int .u8 0, .int .u8 0, .int .u8 0, .int .u8 0, .int .u8 0, .int .u8 0, .int .u8 0, .int .u8 0, .int .u8 0, .int .u8 0, .int .u8 0, .int .u8 0, .int .u8 0, .int .u8 0, .int .u8 0, .int .u8 0, .int .u8 0, .int .u8 0, .int .u8 0, .int .u8 0, .int .u8 0, .int .u8 0, .int .u8 0, .int .u8 0, .int .u8 0, .int .u8 0, .int .u8 0], ty := none }), (144, { size := 4, agg := true, bytes := 40, kind := .struct [(0, 17), (1, 17), (2, 17), (3, 9)], zc := [.pointer none, .pointer none, .pointer none, .string .empty], ty := none }), (145, { size := 4, agg := true, bytes := 40, kind := .struct [(0, 17), (1, 17), (2, 17), (3, 9)], zc := [.pointer none, .pointer none, .pointer none, .string .empty], ty := none }), (149, { size := 1, agg := false, bytes := 1, kind := .int .u8, zc := [.int .u8 0], ty := none }), (150, { size := 1, agg := false, bytes := 1, kind := .int .u8, zc := [.int .u8 0], ty := none }), (151, { size := 1, agg := false, bytes := 8, kind := .other, zc := [.nilFunc], ty := none }), (152, { size := 1, agg := false, bytes := 4, kind := .int .i32, zc := [.int .i32 0], ty := none }), (153, { size := 1, agg := false, bytes := 4, kind := .int .i32, zc := [.int .i32 0], ty := none }), (154, { size := 11, agg := true, bytes := 48, kind := .struct [(0, 12), (1, 12), (2, 109), (3, 149), (4, 5), (5, 5), (6, 150), (7, 151), (8, 82), (9, 152), (10, 153)], zc := [.int .u64 0, .int .u64 0, .int .u32 0, .int .u8 0, .int .u8 0, .int .u8 0, .int .u8 0, .nilFunc, .pointer none, .int .i32 0, .int .i32 0], ty := none }), (155, { size := 11, agg := true, bytes := 48, kind := .struct [(0, 12), (1, 12), (2, 109), (3, 149), (4, 5), (5, 5), (6, 150), (7, 151), (8, 82), (9, 152), (10, 153)], zc := [.int .u64 0, .int .u64 0, .int .u32 0, .int .u8 0, .int .u8 0, .int .u8 0, .int .u8 0, .nilFunc, .pointer none, .int .i32 0, .int .i32 0], ty := none })]
def tl (t : Nat) : Option TI := lk tlist t
theorem tl_ok : ∀ t i, tl t = some i → i.ok Tryd.prog t ∧ (i.agg = false → i.size = 1) ∧ 0 < i.size := by
  intro t i h
  exact lk_all (Q := fun t i => i.ok Tryd.prog t ∧ (i.agg = false → i.size = 1) ∧ 0 < i.size) tlist
    ⟨⟨ti1_ok, fun _ => rfl, Nat.succ_pos _⟩, ⟨ti2_ok, fun _ => rfl, Nat.succ_pos _⟩, ⟨ti3_ok, fun _ => rfl, Nat.succ_pos _⟩, ⟨ti4_ok, fun _ => rfl, Nat.succ_pos _⟩, ⟨ti5_ok, fun _ => rfl, Nat.succ_pos _⟩, ⟨ti6_ok, fun _ => rfl, Nat.succ_pos _⟩, ⟨ti7_ok, fun h => (by cases h), Nat.succ_pos _⟩, ⟨ti8_ok, fun h => (by cases h), Nat.succ_pos _⟩, ⟨ti9_ok, fun _ => rfl, Nat.succ_pos _⟩, ⟨ti10_ok, fun _ => rfl, Nat.succ_pos _⟩, ⟨ti11_ok, fun _ => rfl, Nat.succ_pos _⟩, ⟨ti12_ok, fun _ => rfl, Nat.succ_pos _⟩, ⟨ti13_ok, fun h => (by cases h), Nat.succ_pos _⟩, ⟨ti14_ok, fun h => (by cases h), Nat.succ_pos _⟩, ⟨ti15_ok, fun _ => rfl, Nat.succ_pos _⟩, ⟨ti16_ok, fun _ => rfl, Nat.succ_pos _⟩, ⟨ti17_ok, fun _ => rfl, Nat.succ_pos _⟩, ⟨ti18_ok, fun h => (by cases h), Nat.succ_pos _⟩, ⟨ti19_ok, fun h => (by cases h), Nat.succ_pos _⟩, ⟨ti21_ok, fun _ => rfl, Nat.succ_pos _⟩, ⟨ti22_ok, fun _ => rfl, Nat.succ_pos _⟩, ⟨ti23_ok, fun _ => rfl, Nat.succ_pos _⟩, ⟨ti24_ok, fun h => (by cases h), Nat.succ_pos _⟩, ⟨ti25_ok, fun h => (by cases h), Nat.succ_pos _⟩, ⟨ti26_ok, fun h => (by cases h), Nat.succ_pos _⟩, ⟨ti27_ok, fun h => (by cases h), Nat.succ_pos _⟩, ⟨ti29_ok, fun _ => rfl, Nat.succ_pos _⟩, ⟨ti30_ok, fun _ => rfl, Nat.succ_pos _⟩, ⟨ti32_ok, fun _ => rfl, Nat.succ_pos _⟩, ⟨ti33_ok, fun _ => rfl, Nat.succ_pos _⟩, ⟨ti34_ok, fun _ => rfl, Nat.succ_pos _⟩, ⟨ti35_ok, fun _ => rfl, Nat.succ_pos _⟩, ⟨ti36_ok, fun _ => rfl, Nat.succ_pos _⟩, ⟨ti38_ok, fun _ => rfl, Nat.succ_pos _⟩, ⟨ti39_ok, fun _ => rfl, Nat.succ_pos _⟩, ⟨ti40_ok, fun h => (by cases h), Nat.succ_pos _⟩, ⟨ti41_ok, fun h => (by cases h), Nat.succ_pos _⟩, ⟨ti43_ok, fun _ => rfl, Nat.succ_pos _⟩, ⟨ti44_ok, fun _ => rfl, Nat.succ_pos _⟩, ⟨ti45_ok, fun _ => rfl, Nat.succ_pos _⟩, ⟨ti46_ok, fun _ => rfl, Nat.succ_pos _⟩, ⟨ti47_ok, fun h => (by cases h), Nat.succ_pos _⟩, ⟨ti48_ok, fun h => (by cases h), Nat.succ_pos _⟩, ⟨ti49_ok, fun _ => rfl, Nat.succ_pos _⟩, ⟨ti50_ok, fun _ => rfl, Nat.succ_pos _⟩, ⟨ti51_ok, fun _ => rfl, Nat.succ_pos _⟩, ⟨ti52_ok, fun _ => rfl, Nat.succ_pos _⟩, ⟨ti53_ok, fun _ => rfl, Nat.succ_pos _⟩, ⟨ti54_ok, fun _ => rfl, Nat.succ_pos _⟩, ⟨ti55_ok, fun _ => rfl, Nat.succ_pos _⟩, ⟨ti56_ok, fun _ => rfl, Nat.succ_pos _⟩, ⟨ti57_ok, fun _ => rfl, Nat.succ_pos _⟩, ⟨ti59_ok, fun _ => rfl, Nat.succ_pos _⟩, ⟨ti60_ok, fun _ => rfl, Nat.succ_pos _⟩, ⟨ti61_ok, fun _ => rfl, Nat.succ_pos _⟩, ⟨ti62_ok, fun _ => rfl, Nat.succ_pos _⟩, ⟨ti63_ok, fun _ => rfl, Nat.succ_pos _⟩, ⟨ti64_ok, fun _ => rfl, Nat.succ_pos _⟩, ⟨ti65_ok, fun _ => rfl, Nat.succ_pos _⟩, ⟨ti66_ok, fun _ => rfl, Nat.succ_pos _⟩, ⟨ti67_ok, fun h => (by cases h), Nat.succ_pos _⟩, ⟨ti68_ok, fun h => (by cases h), Nat.succ_pos _⟩, ⟨ti69_ok, fun h => (by cases h), Nat.succ_pos _⟩, ⟨ti70_ok, fun h => (by cases h), Nat.succ_pos _⟩, ⟨ti72_ok, fun _ => rfl, Nat.succ_pos _⟩, ⟨ti73_ok, fun _ => rfl, Nat.succ_pos _⟩, ⟨ti74_ok, fun _ => rfl, Nat.succ_pos _⟩, ⟨ti75_ok, fun _ => rfl, Nat.succ_pos _⟩, ⟨ti79_ok, fun _ => rfl, Nat.succ_pos _⟩, ⟨ti80_ok, fun _ => rfl, Nat.succ_pos _⟩, ⟨ti81_ok, fun _ => rfl, Nat.succ_pos _⟩, ⟨ti82_ok, fun _ => rfl, Nat.succ_pos _⟩, ⟨ti83_ok, fun _ => rfl, Nat.succ_pos _⟩, ⟨ti84_ok, fun _ => rfl, Nat.succ_pos _⟩, ⟨ti85_ok, fun _ => rfl, Nat.succ_pos _⟩, ⟨ti86_ok, fun _ => rfl, Nat.succ_pos _⟩, ⟨ti87_ok, fun h => (by cases h), Nat.succ_pos _⟩, ⟨ti88_ok, fun _ => rfl, Nat.succ_pos _⟩, ⟨ti89_ok, fun _ => rfl, Nat.succ_pos _⟩, ⟨ti90_ok, fun _ => rfl, Nat.succ_pos _⟩, ⟨ti91_ok, fun _ => rfl, Nat.succ_pos _⟩, ⟨ti92_ok, fun _ => rfl, Nat.succ_pos _⟩, ⟨ti93_ok, fun h => (by cases h), Nat.succ_pos _⟩, ⟨ti94_ok, fun _ => rfl, Nat.succ_pos _⟩, ⟨ti95_ok, fun _ => rfl, Nat.succ_pos _⟩, ⟨ti97_ok, fun _ => rfl, Nat.succ_pos _⟩, ⟨ti98_ok, fun h => (by cases h), Nat.succ_pos _⟩, ⟨ti99_ok, fun h => (by cases h), Nat.succ_pos _⟩, ⟨ti101_ok, fun _ => rfl, Nat.succ_pos _⟩, ⟨ti102_ok, fun _ => rfl, Nat.succ_pos _⟩, ⟨ti103_ok, fun _ => rfl, Nat.succ_pos _⟩, ⟨ti104_ok, fun _ => rfl, Nat.succ_pos _⟩, ⟨ti106_ok, fun _ => rfl, Nat.succ_pos _⟩, ⟨ti107_ok, fun _ => rfl, Nat.succ_pos _⟩, ⟨ti108_ok, fun _ => rfl, Nat.succ_pos _⟩, ⟨ti109_ok, fun _ => rfl, Nat.succ_pos _⟩, ⟨ti111_ok, fun _ => rfl, Nat.succ_pos _⟩, ⟨ti112_ok, fun _ => rfl, Nat.succ_pos _⟩, ⟨ti113_ok, fun _ => rfl, Nat.succ_pos _⟩, ⟨ti114_ok, fun h => (by cases h), Nat.succ_pos _⟩, ⟨ti115_ok, fun _ => rfl, Nat.succ_pos _⟩, ⟨ti116_ok, fun _ => rfl, Nat.succ_pos _⟩, ⟨ti117_ok, fun _ => rfl, Nat.succ_pos _⟩, ⟨ti119_ok, fun _ => rfl, Nat.succ_pos _⟩, ⟨ti120_ok, fun _ => rfl, Nat.succ_pos _⟩, ⟨ti122_ok, fun _ => rfl, Nat.succ_pos _⟩, ⟨ti123_ok, fun _ => rfl, Nat.succ_pos _⟩, ⟨ti124_ok, fun _ => rfl, Nat.succ_pos _⟩, ⟨ti125_ok, fun _ => rfl, Nat.succ_pos _⟩, ⟨ti126_ok, fun _ => rfl, Nat.succ_pos _⟩, ⟨ti127_ok, fun h => (by cases h), Nat.succ_pos _⟩, ⟨ti129_ok, fun _ => rfl, Nat.succ_pos _⟩, ⟨ti130_ok, fun _ => rfl, Nat.succ_pos _⟩, ⟨ti132_ok, fun _ => rfl, Nat.succ_pos _⟩, ⟨ti133_ok, fun _ => rfl, Nat.succ_pos _⟩, ⟨ti136_ok, fun _ => rfl, Nat.succ_pos _⟩, ⟨ti137_ok, fun _ => rfl, Nat.succ_pos _⟩, ⟨ti138_ok, fun _ => rfl, Nat.succ_pos _⟩, ⟨ti139_ok, fun _ => rfl, Nat.succ_pos _⟩, ⟨ti140_ok, fun h => (by cases h), Nat.succ_pos _⟩, ⟨ti141_ok, fun h => (by cases h), Nat.succ_pos _⟩, ⟨ti142_ok, fun h => (by cases h), Nat.succ_pos _⟩, ⟨ti144_ok, fun h => (by cases h), Nat.succ_pos _⟩, ⟨ti145_ok, fun h => (by cases h), Nat.succ_pos _⟩, ⟨ti149_ok, fun _ => rfl, Nat.succ_pos _⟩, ⟨ti150_ok, fun _ => rfl, Nat.succ_pos _⟩, ⟨ti151_ok, fun _ => rfl, Nat.succ_pos _⟩, ⟨ti152_ok, fun _ => rfl, Nat.succ_pos _⟩, ⟨ti153_ok, fun _ => rfl, Nat.succ_pos _⟩, ⟨ti154_ok, fun h => (by cases h), Nat.succ_pos _⟩, ⟨ti155_ok, fun h => (by cases h), Nat.succ_pos _⟩, True.intro⟩ t i h
def tylist : List (Nat × Ty) := [(2, .int .i64), (3, .int .i64), (4, .bool), (5, .int .u8), (6, .int .u8), (7, .st (.pair (.int .i64) (.pair (.int .i64) (.pair (.bool) (.int .u8))))), (8, .st (.pair (.int .i64) (.pair (.int .i64) (.pair (.bool) (.int .u8))))), (9, .str), (10, .str), (11, .str), (12, .int .u64), (13, .st (.pair (.str) (.int .u64))), (14, .st (.pair (.str) (.int .u64))), (21, .int .i32), (22, .slice (.str)), (23, .slice (.st (.pair (.int .i64) (.pair (.slice (.str)) (.slice (.str)))))), (24, .st (.slice (.st (.pair (.int .i64) (.pair (.slice (.str)) (.slice (.str))))))), (25, .st (.slice (.st (.pair (.int .i64) (.pair (.slice (.str)) (.slice (.str))))))), (26, .st (.pair (.int .i64) (.int .i64))), (27, .st (.pair (.int .i64) (.int .i64))), (30, .slice (.int .i64)), (40, .st (.pair (.int .i64) (.pair (.slice (.str)) (.slice (.str))))), (41, .st (.pair (.int .i64) (.pair (.slice (.str)) (.slice (.str))))), (46, .slice (.int .u8)), (67, .st (.pair (.slice (.st (.pair (.int .i64) (.pair (.slice (.str)) (.slice (.str)))))) (.pair (.int .i64) (.bool)))), (68, .st (.pair (.slice (.st (.pair (.int .i64) (.pair (.slice (.str)) (.slice (.str)))))) (.pair (.int .i64) (.bool)))), (69, .st (.pair (.st (.pair (.slice (.st (.pair (.int .i64) (.pair (.slice (.str)) (.slice (.str)))))) (.pair (.int .i64) (.bool)))) (.pair (.int .i64) (.pair (.int .i64) (.pair (.int .i64) (.pair (.int .i64) (.bool))))))), (70, .st (.pair (.st (.pair (.slice (.st (.pair (.int .i64) (.pair (.slice (.str)) (.slice (.str)))))) (.pair (.int .i64) (.bool)))) (.pair (.int .i64) (.pair (.int .i64) (.pair (.int .i64) (.pair (.int .i64) (.bool))))))), (87, .st (.pair (.int .i64) (.int .i64))), (93, .st (.pair (.slice (.str)) (.slice (.str)))), (98, .st (.pair (.int .i64) (.pair (.int .i64) (.pair (.int .i64) (.int .i64))))), (99, .st (.pair (.str) (.pair (.str) (.pair (.str) (.str))))), (107, .int .u64), (109, .int .u32), (115, .int .u64), (120, .int .i64), (140, .st (.str)), (141, .st (.str)), (149, .int .u8), (150, .int .u8), (152, .int .i32), (153, .int .i32)]
def tyl (t : Nat) : Option Ty := lk tylist t
theorem tyl_ok : ∀ t y, tyl t = some y → ∃ i, tl t = some i ∧ TyOk Tryd.prog t i y := by
  intro t y h
  exact lk_all (Q := fun t y => ∃ i, tl t = some i ∧ TyOk Tryd.prog t i y) tylist
    ⟨⟨ti2, rfl, ty2_ok⟩, ⟨ti3, rfl, ty3_ok⟩, ⟨ti4, rfl, ty4_ok⟩, ⟨ti5, rfl, ty5_ok⟩, ⟨ti6, rfl, ty6_ok⟩, ⟨ti7, rfl, ty7_ok⟩, ⟨ti8, rfl, ty8_ok⟩, ⟨ti9, rfl, ty9_ok⟩, ⟨ti10, rfl, ty10_ok⟩, ⟨ti11, rfl, ty11_ok⟩, ⟨ti12, rfl, ty12_ok⟩, ⟨ti13, rfl, ty13_ok⟩, ⟨ti14, rfl, ty14_ok⟩, ⟨ti21, rfl, ty21_ok⟩, ⟨ti22, rfl, ty22_ok⟩, ⟨ti23, rfl, ty23_ok⟩, ⟨ti24, rfl, ty24_ok⟩, ⟨ti25, rfl, ty25_ok⟩, ⟨ti26, rfl, ty26_ok⟩, ⟨ti27, rfl, ty27_ok⟩, ⟨ti30, rfl, ty30_ok⟩, ⟨ti40, rfl, ty40_ok⟩, ⟨ti41, rfl, ty41_ok⟩, ⟨ti46, rfl, ty46_ok⟩, ⟨ti67, rfl, ty67_ok⟩, ⟨ti68, rfl, ty68_ok⟩, ⟨ti69, rfl, ty69_ok⟩, ⟨ti70, rfl, ty70_ok⟩, ⟨ti87, rfl, ty87_ok⟩, ⟨ti93, rfl, ty93_ok⟩, ⟨ti98, rfl, ty98_ok⟩, ⟨ti99, rfl, ty99_ok⟩, ⟨ti107, rfl, ty107_ok⟩, ⟨ti109, rfl, ty109_ok⟩, ⟨ti115, rfl, ty115_ok⟩, ⟨ti120, rfl, ty120_ok⟩, ⟨ti140, rfl, ty140_ok⟩, ⟨ti141, rfl, ty141_ok⟩, ⟨ti149, rfl, ty149_ok⟩, ⟨ti150, rfl, ty150_ok⟩, ⟨ti152, rfl, ty152_ok⟩, ⟨ti153, rfl, ty153_ok⟩, True.intro⟩ t y h
theorem tl_1 : tl 1 = some ti1 := rfl
theorem tl_2 : tl 2 = some ti2 := rfl
theorem tl_3 : tl 3 = some ti3 := rfl
theorem tl_4 : tl 4 = some ti4 := rfl
theorem tl_5 : tl 5 = some ti5 := rfl
theorem tl_6 : tl 6 = some ti6 := rfl
theorem tl_7 : tl 7 = some ti7 := rfl
theorem tl_8 : tl 8 = some ti8 := rfl
theorem tl_9 : tl 9 = some ti9 := rfl
theorem tl_10 : tl 10 = some ti10 := rfl
theorem tl_11 : tl 11 = some ti11 := rfl
theorem tl_12 : tl 12 = some ti12 := rfl
theorem tl_13 : tl 13 = some ti13 := rfl
theorem tl_14 : tl 14 = some ti14 := rfl
theorem tl_15 : tl 15 = some ti15 := rfl
theorem tl_16 : tl 16 = some ti16 := rfl
theorem tl_17 : tl 17 = some ti17 := rfl
theorem tl_18 : tl 18 = some ti18 := rfl
theorem tl_19 : tl 19 = some ti19 := rfl
theorem tl_21 : tl 21 = some ti21 := rfl
theorem tl_22 : tl 22 = some ti22 := rfl
theorem tl_23 : tl 23 = some ti23 := rfl
theorem tl_24 : tl 24 = some ti24 := rfl
theorem tl_25 : tl 25 = some ti25 := rfl
theorem tl_26 : tl 26 = some ti26 := rfl
theorem tl_27 : tl 27 = some ti27 := rfl
theorem tl_29 : tl 29 = some ti29 := rfl
theorem tl_30 : tl 30 = some ti30 := rfl
theorem tl_32 : tl 32 = some ti32 := rfl
theorem tl_33 : tl 33 = some ti33 := rfl
theorem tl_34 : tl 34 = some ti34 := rfl
theorem tl_35 : tl 35 = some ti35 := rfl
theorem tl_36 : tl 36 = some ti36 := rfl
theorem tl_38 : tl 38 = some ti38 := rfl
theorem tl_39 : tl 39 = some ti39 := rfl
theorem tl_40 : tl 40 = some ti40 := rfl
theorem tl_41 : tl 41 = some ti41 := rfl
theorem tl_43 : tl 43 = some ti43 := rfl
theorem tl_44 : tl 44 = some ti44 := rfl
theorem tl_45 : tl 45 = some ti45 := rfl
theorem tl_46 : tl 46 = some ti46 := rfl
theorem tl_47 : tl 47 = some ti47 := rfl
theorem tl_48 : tl 48 = some ti48 := rfl
theorem tl_49 : tl 49 = some ti49 := rfl
theorem tl_50 : tl 50 = some ti50 := rfl
theorem tl_51 : tl 51 = some ti51 := rfl
theorem tl_52 : tl 52 = some ti52 := rfl
theorem tl_53 : tl 53 = some ti53 := rfl
theorem tl_54 : tl 54 = some ti54 := rfl
theorem tl_55 : tl 55 = some ti55 := rfl
theorem tl_56 : tl 56 = some ti56 := rfl
theorem tl_57 : tl 57 = some ti57 := rfl
theorem tl_59 : tl 59 = some ti59 := rfl
theorem tl_60 : tl 60 = some ti60 := rfl
theorem tl_61 : tl 61 = some ti61 := rfl
theorem tl_62 : tl 62 = some ti62 := rfl
theorem tl_63 : tl 63 = some ti63 := rfl
theorem tl_64 : tl 64 = some ti64 := rfl
theorem tl_65 : tl 65 = some ti65 := rfl
theorem tl_66 : tl 66 = some ti66 := rfl
theorem tl_67 : tl 67 = some ti67 := rfl
theorem tl_68 : tl 68 = some ti68 := rfl
theorem tl_69 : tl 69 = some ti69 := rfl
theorem tl_70 : tl 70 = some ti70 := rfl
theorem tl_72 : tl 72 = some ti72 := rfl
theorem tl_73 : tl 73 = some ti73 := rfl
theorem tl_74 : tl 74 = some ti74 := rfl
theorem tl_75 : tl 75 = some ti75 := rfl
theorem tl_79 : tl 79 = some ti79 := rfl
theorem tl_80 : tl 80 = some ti80 := rfl
theorem tl_81 : tl 81 = some ti81 := rfl
theorem tl_82 : tl 82 = some ti82 := rfl
theorem tl_83 : tl 83 = some ti83 := rfl
theorem tl_84 : tl 84 = some ti84 := rfl
theorem tl_85 : tl 85 = some ti85 := rfl
theorem tl_86 : tl 86 = some ti86 := rfl
theorem tl_87 : tl 87 = some ti87 := rfl
theorem tl_88 : tl 88 = some ti88 := rfl
theorem tl_89 : tl 89 = some ti89 := rfl
theorem tl_90 : tl 90 = some ti90 := rfl
theorem tl_91 : tl 91 = some ti91 := rfl
theorem tl_92 : tl 92 = some ti92 := rfl
theorem tl_93 : tl 93 = some ti93 := rfl
theorem tl_94 : tl 94 = some ti94 := rfl
theorem tl_95 : tl 95 = some ti95 := rfl
theorem tl_97 : tl 97 = some ti97 := rfl
theorem tl_98 : tl 98 = some ti98 := rfl
theorem tl_99 : tl 99 = some ti99 := rfl
theorem tl_101 : tl 101 = some ti101 := rfl
theorem tl_102 : tl 102 = some ti102 := rfl
theorem tl_103 : tl 103 = some ti103 := rfl
theorem tl_104 : tl 104 = some ti104 := rfl
theorem tl_106 : tl 106 = some ti106 := rfl
theorem tl_107 : tl 107 = some ti107 := rfl
theorem tl_108 : tl 108 = some ti108 := rfl
theorem tl_109 : tl 109 = some ti109 := rfl
theorem tl_111 : tl 111 = some ti111 := rfl
theorem tl_112 : tl 112 = some ti112 := rfl
theorem tl_113 : tl 113 = some ti113 := rfl
theorem tl_114 : tl 114 = some ti114 := rfl
theorem tl_115 : tl 115 = some ti115 := rfl
theorem tl_116 : tl 116 = some ti116 := rfl
theorem tl_117 : tl 117 = some ti117 := rfl
theorem tl_119 : tl 119 = some ti119 := rfl
theorem tl_120 : tl 120 = some ti120 := rfl
theorem tl_122 : tl 122 = some ti122 := rfl
theorem tl_123 : tl 123 = some ti123 := rfl
theorem tl_124 : tl 124 = some ti124 := rfl
theorem tl_125 : tl 125 = some ti125 := rfl
theorem tl_126 : tl 126 = some ti126 := rfl
theorem tl_127 : tl 127 = some ti127 := rfl
theorem tl_129 : tl 129 = some ti129 := rfl
theorem tl_130 : tl 130 = some ti130 := rfl
theorem tl_132 : tl 132 = some ti132 := rfl
theorem tl_133 : tl 133 = some ti133 := rfl
theorem tl_136 : tl 136 = some ti136 := rfl
theorem tl_137 : tl 137 = some ti137 := rfl
theorem tl_138 : tl 138 = some ti138 := rfl
theorem tl_139 : tl 139 = some ti139 := rfl
theorem tl_140 : tl 140 = some ti140 := rfl
theorem tl_141 : tl 141 = some ti141 := rfl
theorem tl_142 : tl 142 = some ti142 := rfl
theorem tl_144 : tl 144 = some ti144 := rfl
theorem tl_145 : tl 145 = some ti145 := rfl
theorem tl_149 : tl 149 = some ti149 := rfl
theorem tl_150 : tl 150 = some ti150 := rfl
theorem tl_151 : tl 151 = some ti151 := rfl
theorem tl_152 : tl 152 = some ti152 := rfl
theorem tl_153 : tl 153 = some ti153 := rfl
theorem tl_154 : tl 154 = some ti154 := rfl
theorem tl_155 : tl 155 = some ti155 := rfl
theorem tyl_2 : tyl 2 = some ty2 := rfl
theorem tyl_3 : tyl 3 = some ty3 := rfl
theorem tyl_4 : tyl 4 = some ty4 := rfl
theorem tyl_5 : tyl 5 = some ty5 := rfl
theorem tyl_6 : tyl 6 = some ty6 := rfl
theorem tyl_7 : tyl 7 = some ty7 := rfl
theorem tyl_8 : tyl 8 = some ty8 := rfl
theorem tyl_9 : tyl 9 = some ty9 := rfl
theorem tyl_10 : tyl 10 = some ty10 := rfl
theorem tyl_11 : tyl 11 = some ty11 := rfl
theorem tyl_12 : tyl 12 = some ty12 := rfl
theorem tyl_13 : tyl 13 = some ty13 := rfl
theorem tyl_14 : tyl 14 = some ty14 := rfl
theorem tyl_21 : tyl 21 = some ty21 := rfl
theorem tyl_22 : tyl 22 = some ty22 := rfl
theorem tyl_23 : tyl 23 = some ty23 := rfl
theorem tyl_24 : tyl 24 = some ty24 := rfl
theorem tyl_25 : tyl 25 = some ty25 := rfl
theorem tyl_26 : tyl 26 = some ty26 := rfl
theorem tyl_27 : tyl 27 = some ty27 := rfl
theorem tyl_30 : tyl 30 = some ty30 := rfl
theorem tyl_40 : tyl 40 = some ty40 := rfl
theorem tyl_41 : tyl 41 = some ty41 := rfl
theorem tyl_46 : tyl 46 = some ty46 := rfl
theorem tyl_67 : tyl 67 = some ty67 := rfl
theorem tyl_68 : tyl 68 = some ty68 := rfl
theorem tyl_69 : tyl 69 = some ty69 := rfl
theorem tyl_70 : tyl 70 = some ty70 := rfl
theorem tyl_87 : tyl 87 = some ty87 := rfl
theorem tyl_93 : tyl 93 = some ty93 := rfl
theorem tyl_98 : tyl 98 = some ty98 := rfl
theorem tyl_99 : tyl 99 = some ty99 := rfl
theorem tyl_107 : tyl 107 = some ty107 := rfl
theorem tyl_109 : tyl 109 = some ty109 := rfl
theorem tyl_115 : tyl 115 = some ty115 := rfl
theorem tyl_120 : tyl 120 = some ty120 := rfl
theorem tyl_140 : tyl 140 = some ty140 := rfl
theorem tyl_141 : tyl 141 = some ty141 := rfl
theorem tyl_149 : tyl 149 = some ty149 := rfl
theorem tyl_150 : tyl 150 = some ty150 := rfl
theorem tyl_152 : tyl 152 = some ty152 := rfl
theorem tyl_153 : tyl 153 = some ty153 := rfl
def env1 (sp : List (FuncId × SpecF)) (eq : List (TypeId × Bool)) (inl : List (FuncId × Func)) (cl : List Nat := []) : Env := { nb := 0, tl := tl, ty := tyl, sp := lk sp, eq := fun t => (lk eq t).getD false, inl := lk inl, cl := fun d => cl.any (Nat.beq d) }
def env0 (sp : List (FuncId × SpecF)) (eq : List (TypeId × Bool)) : Env := env1 sp eq []
structure SpFact (f : FuncId) (s : SpecF) : Prop where
  fn : ∃ fn, Tryd.prog.funcs[f]? = some fn ∧ fn.body.isSome = true ∧ (fn.name == "runtime.NumGoroutine") = false ∧ SpecOk Tryd.prog f s
  loc : SpLoc s
def allSp : List (FuncId × SpecF) → Prop
  | [] => True
  | p :: l => SpFact p.1 p.2 ∧ allSp l
theorem allSp_mem : ∀ {l : List (FuncId × SpecF)}, allSp l → ∀ p ∈ l, SpFact p.1 p.2
  | p :: l, h, q, hq => by
    rcases List.mem_cons.1 hq with e | e
    · subst e; exact h.1
    · exact allSp_mem h.2 q e
def allEq : List (TypeId × Bool) → Prop
  | [] => True
  | p :: l => Eq2 Tryd.prog p.1 ∧ allEq l
theorem allEq_mem : ∀ {l : List (TypeId × Bool)}, allEq l → ∀ p ∈ l, Eq2 Tryd.prog p.1
  | p :: l, h, q, hq => by
    rcases List.mem_cons.1 hq with e | e
    · subst e; exact h.1
    · exact allEq_mem h.2 q e
def InlFact (f : FuncId) (fn : Func) : Prop := Tryd.prog.funcs[f]? = some fn ∧ fn.body.isSome = true ∧ (fn.name == "runtime.NumGoroutine") = false
def allInl : List (FuncId × Func) → Prop
  | [] => True
  | p :: l => InlFact p.1 p.2 ∧ allInl l
theorem allInl_mem : ∀ {l : List (FuncId × Func)}, allInl l → ∀ p ∈ l, InlFact p.1 p.2
  | p :: l, h, q, hq => by
    rcases List.mem_cons.1 hq with e | e
    · subst e; exact h.1
    · exact allInl_mem h.2 q e
theorem env1_fine {sp : List (FuncId × SpecF)} {eq : List (TypeId × Bool)} {inl : List (FuncId × Func)} {cl : List Nat} (h1 : allSp sp) (h2 : allEq eq) (h3 : allInl inl) : (env1 sp eq inl cl).Fine Tryd.prog := by
  refine ⟨⟨tl_ok, tyl_ok, fun f s hs => ?_, fun t ht => ?_, fun f fn hf => ?_⟩, fun f s hs => ?_, by kernel_rfl⟩
  · exact lk_mem (Q := fun f s => SpFact f s) sp (allSp_mem h1) f s hs |>.fn
  · have ht : (lk eq t).getD false = true := ht
    cases hl : lk eq t with
    | none => rw [hl] at ht; cases ht
    | some b => exact lk_mem (Q := fun t _ => Eq2 Tryd.prog t) eq (allEq_mem h2) t b hl
  · exact lk_mem (Q := fun f fn => InlFact f fn) inl (allInl_mem h3) f fn hf
  · exact lk_mem (Q := fun f s => SpFact f s) sp (allSp_mem h1) f s hs |>.loc
theorem env_fine {sp : List (FuncId × SpecF)} {eq : List (TypeId × Bool)} (h1 : allSp sp) (h2 : allEq eq) : (env0 sp eq).Fine Tryd.prog := env1_fine h1 h2 True.intro
end Go.Proofs.YtppmhjaooiameaaDoor
