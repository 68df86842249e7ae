/- The types of the program, as the executor sees them. Written by sxtab.py. -/
import Derived.Test.YtppmhjaooiameaaFwE
import Derived.Test.YtppmhjaooiameaaRows
namespace Go.Proofs.Ytppmhjaooiameaa
open Go.RowKit
set_option maxRecDepth 100000

def ti1 : TI := { size := 1, agg := false, bytes := 8, kind := .other, zc := [.nilFunc], ty := none } -- func()
theorem ti1_ok : ti1.ok Try.prog 1 := ⟨by kernel_rfl, ⟨_, Try.underlying1, rfl⟩, ⟨rfl, rfl⟩⟩
def ti2 : TI := { size := 1, agg := false, bytes := 8, kind := .int .i64, zc := [.int .i64 0], ty := none } -- int64
theorem ti2_ok : ti2.ok Try.prog 2 := ⟨by kernel_rfl, ⟨_, Try.underlying2, ⟨rfl, rfl⟩⟩, ⟨rfl, rfl⟩⟩
def ty2 : Ty := .int .i64
theorem ty2_ok : TyOk Try.prog 2 ti2 ty2 := ⟨ti2_ok, rfl, rfl⟩
def ti3 : TI := { size := 1, agg := false, bytes := 8, kind := .int .i64, zc := [.int .i64 0], ty := none } -- int
theorem ti3_ok : ti3.ok Try.prog 3 := ⟨by kernel_rfl, ⟨_, Try.underlying3, ⟨rfl, rfl⟩⟩, ⟨rfl, rfl⟩⟩
def ty3 : Ty := .int .i64
theorem ty3_ok : TyOk Try.prog 3 ti3 ty3 := ⟨ti3_ok, rfl, rfl⟩
def ti4 : TI := { size := 1, agg := false, bytes := 1, kind := .bool, zc := [.bool false], ty := none } -- bool
theorem ti4_ok : ti4.ok Try.prog 4 := ⟨by kernel_rfl, ⟨_, Try.underlying4, ⟨rfl, rfl⟩⟩, ⟨rfl, rfl⟩⟩
def ty4 : Ty := .bool
theorem ty4_ok : TyOk Try.prog 4 ti4 ty4 := ⟨ti4_ok, rfl, rfl⟩
def ti5 : TI := { size := 1, agg := false, bytes := 1, kind := .int .u8, zc := [.int .u8 0], ty := none } -- uint8
theorem ti5_ok : ti5.ok Try.prog 5 := ⟨by kernel_rfl, ⟨_, Try.underlying5, ⟨rfl, rfl⟩⟩, ⟨rfl, rfl⟩⟩
def ty5 : Ty := .int .u8
theorem ty5_ok : TyOk Try.prog 5 ti5 ty5 := ⟨ti5_ok, rfl, rfl⟩
def ti6 : TI := { size := 1, agg := false, bytes := 1, kind := .int .u8, zc := [.int .u8 0], ty := none } -- abi.BoundsErrorCode
theorem ti6_ok : ti6.ok Try.prog 6 := ⟨by kernel_rfl, ⟨_, Try.underlying6, ⟨rfl, rfl⟩⟩, ⟨rfl, rfl⟩⟩
def ty6 : Ty := .int .u8
theorem ty6_ok : TyOk Try.prog 6 ti6 ty6 := ⟨ti6_ok, rfl, rfl⟩
def ti7 : TI := { size := 4, agg := true, bytes := 24, kind := .struct [(0, 2), (1, 3), (2, 4), (3, 6)], zc := [.int .i64 0, .int .i64 0, .bool false, .int .u8 0], ty := none } -- struct { x int64; y int; signed bool; code abi.BoundsErrorCo
theorem ti7_ok : ti7.ok Try.prog 7 := ⟨by kernel_rfl, ⟨_, Try.underlying7, ⟨rfl, _, rfl, rfl⟩⟩, ⟨rfl, rfl⟩⟩
def ty7 : Ty := .st (.pair (.int .i64) (.pair (.int .i64) (.pair (.bool) (.int .u8))))
theorem ty7_ok : TyOk Try.prog 7 ti7 ty7 := ⟨ti7_ok, rfl, rfl⟩
def ti8 : TI := { size := 4, agg := true, bytes := 24, kind := .struct [(0, 2), (1, 3), (2, 4), (3, 6)], zc := [.int .i64 0, .int .i64 0, .bool false, .int .u8 0], ty := none } -- runtime.boundsError
theorem ti8_ok : ti8.ok Try.prog 8 := ⟨by kernel_rfl, ⟨_, Try.underlying8, ⟨rfl, _, rfl, rfl⟩⟩, ⟨rfl, rfl⟩⟩
def ty8 : Ty := .st (.pair (.int .i64) (.pair (.int .i64) (.pair (.bool) (.int .u8))))
theorem ty8_ok : TyOk Try.prog 8 ti8 ty8 := ⟨ti8_ok, rfl, rfl⟩
def ti9 : TI := { size := 1, agg := false, bytes := 16, kind := .str, zc := [.string .empty], ty := none } -- string
theorem ti9_ok : ti9.ok Try.prog 9 := ⟨by kernel_rfl, ⟨_, Try.underlying9, ⟨rfl, rfl⟩⟩, ⟨rfl, rfl⟩⟩
def ty9 : Ty := .str
theorem ty9_ok : TyOk Try.prog 9 ti9 ty9 := ⟨ti9_ok, rfl, rfl⟩
def ti10 : TI := { size := 1, agg := false, bytes := 16, kind := .str, zc := [.string .empty], ty := none } -- runtime.errorString
theorem ti10_ok : ti10.ok Try.prog 10 := ⟨by kernel_rfl, ⟨_, Try.underlying10, ⟨rfl, rfl⟩⟩, ⟨rfl, rfl⟩⟩
def ty10 : Ty := .str
theorem ty10_ok : TyOk Try.prog 10 ti10 ty10 := ⟨ti10_ok, rfl, rfl⟩
def ti11 : TI := { size := 1, agg := false, bytes := 16, kind := .str, zc := [.string .empty], ty := none } -- runtime.plainError
theorem ti11_ok : ti11.ok Try.prog 11 := ⟨by kernel_rfl, ⟨_, Try.underlying11, ⟨rfl, rfl⟩⟩, ⟨rfl, rfl⟩⟩
def ty11 : Ty := .str
theorem ty11_ok : TyOk Try.prog 11 ti11 ty11 := ⟨ti11_ok, rfl, rfl⟩
def ti12 : TI := { size := 1, agg := false, bytes := 8, kind := .int .u64, zc := [.int .u64 0], ty := none } -- uintptr
theorem ti12_ok : ti12.ok Try.prog 12 := ⟨by kernel_rfl, ⟨_, Try.underlying12, ⟨rfl, rfl⟩⟩, ⟨rfl, rfl⟩⟩
def ty12 : Ty := .int .u64
theorem ty12_ok : TyOk Try.prog 12 ti12 ty12 := ⟨ti12_ok, rfl, rfl⟩
def ti13 : TI := { size := 2, agg := true, bytes := 24, kind := .struct [(0, 9), (1, 12)], zc := [.string .empty, .int .u64 0], ty := none } -- struct { msg string; addr uintptr }
theorem ti13_ok : ti13.ok Try.prog 13 := ⟨by kernel_rfl, ⟨_, Try.underlying13, ⟨rfl, _, rfl, rfl⟩⟩, ⟨rfl, rfl⟩⟩
def ty13 : Ty := .st (.pair (.str) (.int .u64))
theorem ty13_ok : TyOk Try.prog 13 ti13 ty13 := ⟨ti13_ok, rfl, rfl⟩
def ti14 : TI := { size := 2, agg := true, bytes := 24, kind := .struct [(0, 9), (1, 12)], zc := [.string .empty, .int .u64 0], ty := none } -- runtime.errorAddressString
theorem ti14_ok : ti14.ok Try.prog 14 := ⟨by kernel_rfl, ⟨_, Try.underlying14, ⟨rfl, _, rfl, rfl⟩⟩, ⟨rfl, rfl⟩⟩
def ty14 : Ty := .st (.pair (.str) (.int .u64))
theorem ty14_ok : TyOk Try.prog 14 ti14 ty14 := ⟨ti14_ok, rfl, rfl⟩
def ti15 : TI := { size := 1, agg := false, bytes := 8, kind := .other, zc := [.pointer none], ty := none } -- *runtime.TypeAssertionError
theorem ti15_ok : ti15.ok Try.prog 15 := ⟨by kernel_rfl, ⟨_, Try.underlying15, rfl⟩, ⟨rfl, rfl⟩⟩
def ti16 : TI := { size := 1, agg := false, bytes := 8, kind := .other, zc := [.pointer none], ty := none } -- *runtime.PanicNilError
theorem ti16_ok : ti16.ok Try.prog 16 := ⟨by kernel_rfl, ⟨_, Try.underlying16, rfl⟩, ⟨rfl, rfl⟩⟩
def ti17 : TI := { size := 1, agg := false, bytes := 8, kind := .other, zc := [.pointer none], ty := none } -- *abi.Type
theorem ti17_ok : ti17.ok Try.prog 17 := ⟨by kernel_rfl, ⟨_, Try.underlying17, rfl⟩, ⟨rfl, rfl⟩⟩
def ti18 : TI := { size := 1, agg := true, bytes := 8, kind := .struct [(0, 17)], zc := [.pointer none], ty := none } -- struct { typ *abi.Type }
theorem ti18_ok : ti18.ok Try.prog 18 := ⟨by kernel_rfl, ⟨_, Try.underlying18, ⟨rfl, _, rfl, rfl⟩⟩, ⟨rfl, rfl⟩⟩
def ti19 : TI := { size := 1, agg := true, bytes := 8, kind := .struct [(0, 17)], zc := [.pointer none], ty := none } -- maps.unhashableTypeError
theorem ti19_ok : ti19.ok Try.prog 19 := ⟨by kernel_rfl, ⟨_, Try.underlying19, ⟨rfl, _, rfl, rfl⟩⟩, ⟨rfl, rfl⟩⟩
def ti21 : TI := { size := 1, agg := false, bytes := 4, kind := .int .i32, zc := [.int .i32 0], ty := none } -- int32
theorem ti21_ok : ti21.ok Try.prog 21 := ⟨by kernel_rfl, ⟨_, Try.underlying21, ⟨rfl, rfl⟩⟩, ⟨rfl, rfl⟩⟩
def ty21 : Ty := .int .i32
theorem ty21_ok : TyOk Try.prog 21 ti21 ty21 := ⟨ti21_ok, rfl, rfl⟩
def ti22 : TI := { size := 1, agg := false, bytes := 24, kind := .slice 9, zc := [.slice none 0 0], ty := none } -- []string
theorem ti22_ok : ti22.ok Try.prog 22 := ⟨by kernel_rfl, ⟨_, Try.underlying22, ⟨rfl, rfl⟩⟩, ⟨rfl, rfl⟩⟩
def ty22 : Ty := .slice (.str)
theorem ty22_ok : TyOk Try.prog 22 ti22 ty22 := ⟨ti22_ok, rfl, rfl⟩
def ti23 : TI := { size := 1, agg := false, bytes := 24, kind := .slice 40, zc := [.slice none 0 0], ty := none } -- []api.Chunk
theorem ti23_ok : ti23.ok Try.prog 23 := ⟨by kernel_rfl, ⟨_, Try.underlying23, ⟨rfl, rfl⟩⟩, ⟨rfl, rfl⟩⟩
def ty23 : Ty := .slice (.st (.pair (.bool) (.pair (.slice (.str)) (.pair (.slice (.str)) (.pair (.slice (.str)) (.slice (.str)))))))
theorem ty23_ok : TyOk Try.prog 23 ti23 ty23 := ⟨ti23_ok, rfl, rfl⟩
def ti24 : TI := { size := 2, agg := true, bytes := 16, kind := .struct [(0, 3), (1, 3)], zc := [.int .i64 0, .int .i64 0], ty := none } -- struct { Code int; Index int }
theorem ti24_ok : ti24.ok Try.prog 24 := ⟨by kernel_rfl, ⟨_, Try.underlying24, ⟨rfl, _, rfl, rfl⟩⟩, ⟨rfl, rfl⟩⟩
def ty24 : Ty := .st (.pair (.int .i64) (.int .i64))
theorem ty24_ok : TyOk Try.prog 24 ti24 ty24 := ⟨ti24_ok, rfl, rfl⟩
def ti25 : TI := { size := 2, agg := true, bytes := 16, kind := .struct [(0, 3), (1, 3)], zc := [.int .i64 0, .int .i64 0], ty := none } -- api.Fault
theorem ti25_ok : ti25.ok Try.prog 25 := ⟨by kernel_rfl, ⟨_, Try.underlying25, ⟨rfl, _, rfl, rfl⟩⟩, ⟨rfl, rfl⟩⟩
def ty25 : Ty := .st (.pair (.int .i64) (.int .i64))
theorem ty25_ok : TyOk Try.prog 25 ti25 ty25 := ⟨ti25_ok, rfl, rfl⟩
def ti27 : TI := { size := 1, agg := false, bytes := 8, kind := .other, zc := [.nilFunc], ty := none } -- func([]string, []string, []string) ([]api.Chunk, api.Fault)
theorem ti27_ok : ti27.ok Try.prog 27 := ⟨by kernel_rfl, ⟨_, Try.underlying27, rfl⟩, ⟨rfl, rfl⟩⟩
def ti28 : TI := { size := 1, agg := false, bytes := 8, kind := .other, zc := [.nilFunc], ty := none } -- func([]api.Chunk, []api.Chunk) bool
theorem ti28_ok : ti28.ok Try.prog 28 := ⟨by kernel_rfl, ⟨_, Try.underlying28, rfl⟩, ⟨rfl, rfl⟩⟩
def ti29 : TI := { size := 1, agg := false, bytes := 8, kind := .other, zc := [.nilFunc], ty := none } -- func() bool
theorem ti29_ok : ti29.ok Try.prog 29 := ⟨by kernel_rfl, ⟨_, Try.underlying29, rfl⟩, ⟨rfl, rfl⟩⟩
def ti30 : TI := { size := 1, agg := false, bytes := 8, kind := .other, zc := [.nilFunc], ty := none } -- func([]string, []string, []string) bool
theorem ti30_ok : ti30.ok Try.prog 30 := ⟨by kernel_rfl, ⟨_, Try.underlying30, rfl⟩, ⟨rfl, rfl⟩⟩
def ti31 : TI := { size := 1, agg := false, bytes := 8, kind := .other, zc := [.nilFunc], ty := none } -- func([]api.Chunk) []api.Chunk
theorem ti31_ok : ti31.ok Try.prog 31 := ⟨by kernel_rfl, ⟨_, Try.underlying31, rfl⟩, ⟨rfl, rfl⟩⟩
def ti33 : TI := { size := 1, agg := false, bytes := 8, kind := .other, zc := [.nilFunc], ty := none } -- func([]api.Chunk) ([]string, bool, api.Fault)
theorem ti33_ok : ti33.ok Try.prog 33 := ⟨by kernel_rfl, ⟨_, Try.underlying33, rfl⟩, ⟨rfl, rfl⟩⟩
def ti34 : TI := { size := 1, agg := false, bytes := 8, kind := .other, zc := [.nilFunc], ty := none } -- func([]string, []string) bool
theorem ti34_ok : ti34.ok Try.prog 34 := ⟨by kernel_rfl, ⟨_, Try.underlying34, rfl⟩, ⟨rfl, rfl⟩⟩
def ti36 : TI := { size := 1, agg := false, bytes := 8, kind := .other, zc := [.nilFunc], ty := none } -- func([]api.Chunk, []int) ([]string, api.Fault)
theorem ti36_ok : ti36.ok Try.prog 36 := ⟨by kernel_rfl, ⟨_, Try.underlying36, rfl⟩, ⟨rfl, rfl⟩⟩
def ti37 : TI := { size := 1, agg := false, bytes := 24, kind := .slice 3, zc := [.slice none 0 0], ty := none } -- []int
theorem ti37_ok : ti37.ok Try.prog 37 := ⟨by kernel_rfl, ⟨_, Try.underlying37, ⟨rfl, rfl⟩⟩, ⟨rfl, rfl⟩⟩
def ty37 : Ty := .slice (.int .i64)
theorem ty37_ok : TyOk Try.prog 37 ti37 ty37 := ⟨ti37_ok, rfl, rfl⟩
def ti38 : TI := { size := 1, agg := false, bytes := 8, kind := .other, zc := [.nilFunc], ty := none } -- func([]api.Chunk, int) []int
theorem ti38_ok : ti38.ok Try.prog 38 := ⟨by kernel_rfl, ⟨_, Try.underlying38, rfl⟩, ⟨rfl, rfl⟩⟩
def ti39 : TI := { size := 5, agg := true, bytes := 104, kind := .struct [(0, 4), (1, 22), (2, 22), (3, 22), (4, 22)], zc := [.bool false, .slice none 0 0, .slice none 0 0, .slice none 0 0, .slice none 0 0], ty := none } -- struct { Conflict bool; Lines []string; Base []string; Left 
theorem ti39_ok : ti39.ok Try.prog 39 := ⟨by kernel_rfl, ⟨_, Try.underlying39, ⟨rfl, _, rfl, rfl⟩⟩, ⟨rfl, rfl⟩⟩
def ty39 : Ty := .st (.pair (.bool) (.pair (.slice (.str)) (.pair (.slice (.str)) (.pair (.slice (.str)) (.slice (.str))))))
theorem ty39_ok : TyOk Try.prog 39 ti39 ty39 := ⟨ti39_ok, rfl, rfl⟩
def ti40 : TI := { size := 5, agg := true, bytes := 104, kind := .struct [(0, 4), (1, 22), (2, 22), (3, 22), (4, 22)], zc := [.bool false, .slice none 0 0, .slice none 0 0, .slice none 0 0, .slice none 0 0], ty := none } -- api.Chunk
theorem ti40_ok : ti40.ok Try.prog 40 := ⟨by kernel_rfl, ⟨_, Try.underlying40, ⟨rfl, _, rfl, rfl⟩⟩, ⟨rfl, rfl⟩⟩
def ty40 : Ty := .st (.pair (.bool) (.pair (.slice (.str)) (.pair (.slice (.str)) (.pair (.slice (.str)) (.slice (.str))))))
theorem ty40_ok : TyOk Try.prog 40 ti40 ty40 := ⟨ti40_ok, rfl, rfl⟩
def ti41 : TI := { size := 1, agg := false, bytes := 8, kind := .other, zc := [.nilFunc], ty := none } -- func([]api.Chunk, []int) bool
theorem ti41_ok : ti41.ok Try.prog 41 := ⟨by kernel_rfl, ⟨_, Try.underlying41, rfl⟩, ⟨rfl, rfl⟩⟩
def ti42 : TI := { size := 1, agg := false, bytes := 24, kind := .slice 85, zc := [.slice none 0 0], ty := none } -- []api.Hunk
theorem ti42_ok : ti42.ok Try.prog 42 := ⟨by kernel_rfl, ⟨_, Try.underlying42, ⟨rfl, rfl⟩⟩, ⟨rfl, rfl⟩⟩
def ty42 : Ty := .slice (.st (.pair (.int .i64) (.pair (.slice (.str)) (.slice (.str)))))
theorem ty42_ok : TyOk Try.prog 42 ti42 ty42 := ⟨ti42_ok, rfl, rfl⟩
def ti43 : TI := { size := 1, agg := true, bytes := 24, kind := .struct [(0, 42)], zc := [.slice none 0 0], ty := none } -- struct { Hunks []api.Hunk }
theorem ti43_ok : ti43.ok Try.prog 43 := ⟨by kernel_rfl, ⟨_, Try.underlying43, ⟨rfl, _, rfl, rfl⟩⟩, ⟨rfl, rfl⟩⟩
def ty43 : Ty := .st (.slice (.st (.pair (.int .i64) (.pair (.slice (.str)) (.slice (.str))))))
theorem ty43_ok : TyOk Try.prog 43 ti43 ty43 := ⟨ti43_ok, rfl, rfl⟩
def ti44 : TI := { size := 1, agg := true, bytes := 24, kind := .struct [(0, 42)], zc := [.slice none 0 0], ty := none } -- api.Patch
theorem ti44_ok : ti44.ok Try.prog 44 := ⟨by kernel_rfl, ⟨_, Try.underlying44, ⟨rfl, _, rfl, rfl⟩⟩, ⟨rfl, rfl⟩⟩
def ty44 : Ty := .st (.slice (.st (.pair (.int .i64) (.pair (.slice (.str)) (.slice (.str))))))
theorem ty44_ok : TyOk Try.prog 44 ti44 ty44 := ⟨ti44_ok, rfl, rfl⟩
def ti46 : TI := { size := 1, agg := false, bytes := 8, kind := .other, zc := [.nilFunc], ty := none } -- func([]string, []string) (api.Patch, api.Fault)
theorem ti46_ok : ti46.ok Try.prog 46 := ⟨by kernel_rfl, ⟨_, Try.underlying46, rfl⟩, ⟨rfl, rfl⟩⟩
def ti48 : TI := { size := 1, agg := false, bytes := 8, kind := .other, zc := [.nilFunc], ty := none } -- func(api.Patch, api.Patch) (api.Patch, bool, api.Fault)
theorem ti48_ok : ti48.ok Try.prog 48 := ⟨by kernel_rfl, ⟨_, Try.underlying48, rfl⟩, ⟨rfl, rfl⟩⟩
def ti49 : TI := { size := 1, agg := false, bytes := 8, kind := .other, zc := [.nilFunc], ty := none } -- func(api.Patch, []string) ([]string, api.Fault)
theorem ti49_ok : ti49.ok Try.prog 49 := ⟨by kernel_rfl, ⟨_, Try.underlying49, rfl⟩, ⟨rfl, rfl⟩⟩
def ti50 : TI := { size := 1, agg := false, bytes := 8, kind := .other, zc := [.nilFunc], ty := none } -- func([]string, []string) api.Fault
theorem ti50_ok : ti50.ok Try.prog 50 := ⟨by kernel_rfl, ⟨_, Try.underlying50, rfl⟩, ⟨rfl, rfl⟩⟩
def ti51 : TI := { size := 1, agg := false, bytes := 8, kind := .other, zc := [.nilFunc], ty := none } -- func([]string, int) api.Fault
theorem ti51_ok : ti51.ok Try.prog 51 := ⟨by kernel_rfl, ⟨_, Try.underlying51, rfl⟩, ⟨rfl, rfl⟩⟩
def ti52 : TI := { size := 1, agg := true, bytes := 24, kind := .struct [(0, 23)], zc := [.slice none 0 0], ty := none } -- struct { out []api.Chunk }
theorem ti52_ok : ti52.ok Try.prog 52 := ⟨by kernel_rfl, ⟨_, Try.underlying52, ⟨rfl, _, rfl, rfl⟩⟩, ⟨rfl, rfl⟩⟩
def ty52 : Ty := .st (.slice (.st (.pair (.bool) (.pair (.slice (.str)) (.pair (.slice (.str)) (.pair (.slice (.str)) (.slice (.str))))))))
theorem ty52_ok : TyOk Try.prog 52 ti52 ty52 := ⟨ti52_ok, rfl, rfl⟩
def ti53 : TI := { size := 1, agg := true, bytes := 24, kind := .struct [(0, 23)], zc := [.slice none 0 0], ty := none } -- merge3.merger
theorem ti53_ok : ti53.ok Try.prog 53 := ⟨by kernel_rfl, ⟨_, Try.underlying53, ⟨rfl, _, rfl, rfl⟩⟩, ⟨rfl, rfl⟩⟩
def ty53 : Ty := .st (.slice (.st (.pair (.bool) (.pair (.slice (.str)) (.pair (.slice (.str)) (.pair (.slice (.str)) (.slice (.str))))))))
theorem ty53_ok : TyOk Try.prog 53 ti53 ty53 := ⟨ti53_ok, rfl, rfl⟩
def ti54 : TI := { size := 1, agg := false, bytes := 24, kind := .slice 57, zc := [.slice none 0 0], ty := none } -- []commute.Range
theorem ti54_ok : ti54.ok Try.prog 54 := ⟨by kernel_rfl, ⟨_, Try.underlying54, ⟨rfl, rfl⟩⟩, ⟨rfl, rfl⟩⟩
def ty54 : Ty := .slice (.st (.pair (.int .i64) (.pair (.int .i64) (.int .i64))))
theorem ty54_ok : TyOk Try.prog 54 ti54 ty54 := ⟨ti54_ok, rfl, rfl⟩
def ti55 : TI := { size := 1, agg := false, bytes := 8, kind := .other, zc := [.nilFunc], ty := none } -- func(api.Patch, api.Patch) []commute.Range
theorem ti55_ok : ti55.ok Try.prog 55 := ⟨by kernel_rfl, ⟨_, Try.underlying55, rfl⟩, ⟨rfl, rfl⟩⟩
def ti56 : TI := { size := 3, agg := true, bytes := 24, kind := .struct [(0, 3), (1, 3), (2, 3)], zc := [.int .i64 0, .int .i64 0, .int .i64 0], ty := none } -- struct { Low int; High int; Growth int }
theorem ti56_ok : ti56.ok Try.prog 56 := ⟨by kernel_rfl, ⟨_, Try.underlying56, ⟨rfl, _, rfl, rfl⟩⟩, ⟨rfl, rfl⟩⟩
def ty56 : Ty := .st (.pair (.int .i64) (.pair (.int .i64) (.int .i64)))
theorem ty56_ok : TyOk Try.prog 56 ti56 ty56 := ⟨ti56_ok, rfl, rfl⟩
def ti57 : TI := { size := 3, agg := true, bytes := 24, kind := .struct [(0, 3), (1, 3), (2, 3)], zc := [.int .i64 0, .int .i64 0, .int .i64 0], ty := none } -- commute.Range
theorem ti57_ok : ti57.ok Try.prog 57 := ⟨by kernel_rfl, ⟨_, Try.underlying57, ⟨rfl, _, rfl, rfl⟩⟩, ⟨rfl, rfl⟩⟩
def ty57 : Ty := .st (.pair (.int .i64) (.pair (.int .i64) (.int .i64)))
theorem ty57_ok : TyOk Try.prog 57 ti57 ty57 := ⟨ti57_ok, rfl, rfl⟩
def ti58 : TI := { size := 1, agg := false, bytes := 8, kind := .other, zc := [.nilFunc], ty := none } -- func([]string)
theorem ti58_ok : ti58.ok Try.prog 58 := ⟨by kernel_rfl, ⟨_, Try.underlying58, rfl⟩, ⟨rfl, rfl⟩⟩
def ti59 : TI := { size := 1, agg := false, bytes := 8, kind := .other, zc := [.nilFunc], ty := none } -- func(api.Patch, commute.Range) []api.Hunk
theorem ti59_ok : ti59.ok Try.prog 59 := ⟨by kernel_rfl, ⟨_, Try.underlying59, rfl⟩, ⟨rfl, rfl⟩⟩
def ti60 : TI := { size := 1, agg := false, bytes := 8, kind := .other, zc := [.nilFunc], ty := none } -- func([]api.Hunk, []string, int, int) []string
theorem ti60_ok : ti60.ok Try.prog 60 := ⟨by kernel_rfl, ⟨_, Try.underlying60, rfl⟩, ⟨rfl, rfl⟩⟩
def ti61 : TI := { size := 1, agg := false, bytes := 8, kind := .other, zc := [.nilFunc], ty := none } -- func([]string) []string
theorem ti61_ok : ti61.ok Try.prog 61 := ⟨by kernel_rfl, ⟨_, Try.underlying61, rfl⟩, ⟨rfl, rfl⟩⟩
def ti62 : TI := { size := 1, agg := false, bytes := 8, kind := .other, zc := [.nilFunc], ty := none } -- func([]string) int
theorem ti62_ok : ti62.ok Try.prog 62 := ⟨by kernel_rfl, ⟨_, Try.underlying62, rfl⟩, ⟨rfl, rfl⟩⟩
def ti63 : TI := { size := 1, agg := false, bytes := 8, kind := .other, zc := [.nilFunc], ty := none } -- func(int, int) api.Fault
theorem ti63_ok : ti63.ok Try.prog 63 := ⟨by kernel_rfl, ⟨_, Try.underlying63, rfl⟩, ⟨rfl, rfl⟩⟩
def ti64 : TI := { size := 1, agg := false, bytes := 8, kind := .other, zc := [.nilFunc], ty := none } -- func([]string, []string) api.Patch
theorem ti64_ok : ti64.ok Try.prog 64 := ⟨by kernel_rfl, ⟨_, Try.underlying64, rfl⟩, ⟨rfl, rfl⟩⟩
def ti65 : TI := { size := 1, agg := false, bytes := 8, kind := .other, zc := [.nilFunc], ty := none } -- func([]string, api.Patch, api.Patch) []int
theorem ti65_ok : ti65.ok Try.prog 65 := ⟨by kernel_rfl, ⟨_, Try.underlying65, rfl⟩, ⟨rfl, rfl⟩⟩
def ti66 : TI := { size := 1, agg := false, bytes := 8, kind := .other, zc := [.nilFunc], ty := none } -- func(api.Patch, api.Patch, int) bool
theorem ti66_ok : ti66.ok Try.prog 66 := ⟨by kernel_rfl, ⟨_, Try.underlying66, rfl⟩, ⟨rfl, rfl⟩⟩
def ti68 : TI := { size := 1, agg := false, bytes := 8, kind := .other, zc := [.nilFunc], ty := none } -- func([]string, api.Patch, int, int) ([]string, bool)
theorem ti68_ok : ti68.ok Try.prog 68 := ⟨by kernel_rfl, ⟨_, Try.underlying68, rfl⟩, ⟨rfl, rfl⟩⟩
def ti69 : TI := { size := 1, agg := false, bytes := 8, kind := .other, zc := [.nilFunc], ty := none } -- func([]api.Chunk) api.Fault
theorem ti69_ok : ti69.ok Try.prog 69 := ⟨by kernel_rfl, ⟨_, Try.underlying69, rfl⟩, ⟨rfl, rfl⟩⟩
def ti70 : TI := { size := 1, agg := false, bytes := 8, kind := .other, zc := [.nilFunc], ty := none } -- func([]string) ([]string, api.Fault)
theorem ti70_ok : ti70.ok Try.prog 70 := ⟨by kernel_rfl, ⟨_, Try.underlying70, rfl⟩, ⟨rfl, rfl⟩⟩
def ti71 : TI := { size := 1, agg := false, bytes := 8, kind := .other, zc := [.nilFunc], ty := none } -- func([]api.Chunk) int
theorem ti71_ok : ti71.ok Try.prog 71 := ⟨by kernel_rfl, ⟨_, Try.underlying71, rfl⟩, ⟨rfl, rfl⟩⟩
def ti72 : TI := { size := 3, agg := true, bytes := 40, kind := .struct [(0, 42), (1, 3), (2, 4)], zc := [.slice none 0 0, .int .i64 0, .bool false], ty := none } -- struct { hunks []api.Hunk; at int; open bool }
theorem ti72_ok : ti72.ok Try.prog 72 := ⟨by kernel_rfl, ⟨_, Try.underlying72, ⟨rfl, _, rfl, rfl⟩⟩, ⟨rfl, rfl⟩⟩
def ty72 : Ty := .st (.pair (.slice (.st (.pair (.int .i64) (.pair (.slice (.str)) (.slice (.str)))))) (.pair (.int .i64) (.bool)))
theorem ty72_ok : TyOk Try.prog 72 ti72 ty72 := ⟨ti72_ok, rfl, rfl⟩
def ti73 : TI := { size := 3, agg := true, bytes := 40, kind := .struct [(0, 42), (1, 3), (2, 4)], zc := [.slice none 0 0, .int .i64 0, .bool false], ty := none } -- diff.Collector
theorem ti73_ok : ti73.ok Try.prog 73 := ⟨by kernel_rfl, ⟨_, Try.underlying73, ⟨rfl, _, rfl, rfl⟩⟩, ⟨rfl, rfl⟩⟩
def ty73 : Ty := .st (.pair (.slice (.st (.pair (.int .i64) (.pair (.slice (.str)) (.slice (.str)))))) (.pair (.int .i64) (.bool)))
theorem ty73_ok : TyOk Try.prog 73 ti73 ty73 := ⟨ti73_ok, rfl, rfl⟩
def ti74 : TI := { size := 1, agg := false, bytes := 8, kind := .other, zc := [.nilFunc], ty := none } -- func([]string, []string) []int
theorem ti74_ok : ti74.ok Try.prog 74 := ⟨by kernel_rfl, ⟨_, Try.underlying74, rfl⟩, ⟨rfl, rfl⟩⟩
def ti75 : TI := { size := 1, agg := false, bytes := 8, kind := .other, zc := [.nilFunc], ty := none } -- func(int)
theorem ti75_ok : ti75.ok Try.prog 75 := ⟨by kernel_rfl, ⟨_, Try.underlying75, rfl⟩, ⟨rfl, rfl⟩⟩
def ti76 : TI := { size := 1, agg := false, bytes := 8, kind := .other, zc := [.nilFunc], ty := none } -- func(string)
theorem ti76_ok : ti76.ok Try.prog 76 := ⟨by kernel_rfl, ⟨_, Try.underlying76, rfl⟩, ⟨rfl, rfl⟩⟩
def ti77 : TI := { size := 1, agg := false, bytes := 8, kind := .other, zc := [.nilFunc], ty := none } -- func() api.Patch
theorem ti77_ok : ti77.ok Try.prog 77 := ⟨by kernel_rfl, ⟨_, Try.underlying77, rfl⟩, ⟨rfl, rfl⟩⟩
def ti78 : TI := { size := 1, agg := false, bytes := 8, kind := .other, zc := [.nilFunc], ty := none } -- func(api.Patch, api.Patch) api.Fault
theorem ti78_ok : ti78.ok Try.prog 78 := ⟨by kernel_rfl, ⟨_, Try.underlying78, rfl⟩, ⟨rfl, rfl⟩⟩
def ti79 : TI := { size := 1, agg := false, bytes := 8, kind := .other, zc := [.nilFunc], ty := none } -- func(api.Patch) []commute.Range
theorem ti79_ok : ti79.ok Try.prog 79 := ⟨by kernel_rfl, ⟨_, Try.underlying79, rfl⟩, ⟨rfl, rfl⟩⟩
def ti80 : TI := { size := 1, agg := false, bytes := 8, kind := .other, zc := [.nilFunc], ty := none } -- func([]commute.Range, []commute.Range) bool
theorem ti80_ok : ti80.ok Try.prog 80 := ⟨by kernel_rfl, ⟨_, Try.underlying80, rfl⟩, ⟨rfl, rfl⟩⟩
def ti81 : TI := { size := 1, agg := false, bytes := 8, kind := .other, zc := [.nilFunc], ty := none } -- func(api.Patch) (api.Patch, api.Fault)
theorem ti81_ok : ti81.ok Try.prog 81 := ⟨by kernel_rfl, ⟨_, Try.underlying81, rfl⟩, ⟨rfl, rfl⟩⟩
def ti82 : TI := { size := 1, agg := false, bytes := 8, kind := .other, zc := [.nilFunc], ty := none } -- func(api.Patch, []commute.Range, int) api.Patch
theorem ti82_ok : ti82.ok Try.prog 82 := ⟨by kernel_rfl, ⟨_, Try.underlying82, rfl⟩, ⟨rfl, rfl⟩⟩
def ti83 : TI := { size := 1, agg := false, bytes := 8, kind := .other, zc := [.nilFunc], ty := none } -- func(api.Patch) api.Fault
theorem ti83_ok : ti83.ok Try.prog 83 := ⟨by kernel_rfl, ⟨_, Try.underlying83, rfl⟩, ⟨rfl, rfl⟩⟩
def ti84 : TI := { size := 3, agg := true, bytes := 56, kind := .struct [(0, 3), (1, 22), (2, 22)], zc := [.int .i64 0, .slice none 0 0, .slice none 0 0], ty := none } -- struct { At int; Old []string; New []string }
theorem ti84_ok : ti84.ok Try.prog 84 := ⟨by kernel_rfl, ⟨_, Try.underlying84, ⟨rfl, _, rfl, rfl⟩⟩, ⟨rfl, rfl⟩⟩
def ty84 : Ty := .st (.pair (.int .i64) (.pair (.slice (.str)) (.slice (.str))))
theorem ty84_ok : TyOk Try.prog 84 ti84 ty84 := ⟨ti84_ok, rfl, rfl⟩
def ti85 : TI := { size := 3, agg := true, bytes := 56, kind := .struct [(0, 3), (1, 22), (2, 22)], zc := [.int .i64 0, .slice none 0 0, .slice none 0 0], ty := none } -- api.Hunk
theorem ti85_ok : ti85.ok Try.prog 85 := ⟨by kernel_rfl, ⟨_, Try.underlying85, ⟨rfl, _, rfl, rfl⟩⟩, ⟨rfl, rfl⟩⟩
def ty85 : Ty := .st (.pair (.int .i64) (.pair (.slice (.str)) (.slice (.str))))
theorem ty85_ok : TyOk Try.prog 85 ti85 ty85 := ⟨ti85_ok, rfl, rfl⟩
def ti86 : TI := { size := 1, agg := false, bytes := 8, kind := .other, zc := [.nilFunc], ty := none } -- func([]string, []string, int) bool
theorem ti86_ok : ti86.ok Try.prog 86 := ⟨by kernel_rfl, ⟨_, Try.underlying86, rfl⟩, ⟨rfl, rfl⟩⟩
def ti87 : TI := { size := 1, agg := false, bytes := 8, kind := .other, zc := [.nilFunc], ty := none } -- func([]string) api.Fault
theorem ti87_ok : ti87.ok Try.prog 87 := ⟨by kernel_rfl, ⟨_, Try.underlying87, rfl⟩, ⟨rfl, rfl⟩⟩
def ti88 : TI := { size := 1, agg := false, bytes := 8, kind := .other, zc := [.nilFunc], ty := none } -- func([]commute.Range, func(commute.Range, commute.Range) int
theorem ti88_ok : ti88.ok Try.prog 88 := ⟨by kernel_rfl, ⟨_, Try.underlying88, rfl⟩, ⟨rfl, rfl⟩⟩
def ti89 : TI := { size := 1, agg := false, bytes := 8, kind := .other, zc := [.nilFunc], ty := none } -- func(commute.Range, commute.Range) int
theorem ti89_ok : ti89.ok Try.prog 89 := ⟨by kernel_rfl, ⟨_, Try.underlying89, rfl⟩, ⟨rfl, rfl⟩⟩
def ti90 : TI := { size := 1, agg := false, bytes := 8, kind := .other, zc := [.nilFunc], ty := none } -- func(commute.Range, commute.Range) bool
theorem ti90_ok : ti90.ok Try.prog 90 := ⟨by kernel_rfl, ⟨_, Try.underlying90, rfl⟩, ⟨rfl, rfl⟩⟩
def ti91 : TI := { size := 1, agg := false, bytes := 8, kind := .other, zc := [.pointer none], ty := none } -- *merge3.merger
theorem ti91_ok : ti91.ok Try.prog 91 := ⟨by kernel_rfl, ⟨_, Try.underlying91, rfl⟩, ⟨rfl, rfl⟩⟩
def ti92 : TI := { size := 1, agg := false, bytes := 8, kind := .other, zc := [.pointer none], ty := none } -- *api.Chunk
theorem ti92_ok : ti92.ok Try.prog 92 := ⟨by kernel_rfl, ⟨_, Try.underlying92, rfl⟩, ⟨rfl, rfl⟩⟩
def ti93 : TI := { size := 1, agg := false, bytes := 8, kind := .other, zc := [.nilFunc], ty := none } -- func(api.Hunk) int
theorem ti93_ok : ti93.ok Try.prog 93 := ⟨by kernel_rfl, ⟨_, Try.underlying93, rfl⟩, ⟨rfl, rfl⟩⟩
def ti94 : TI := { size := 1, agg := false, bytes := 8, kind := .other, zc := [.nilFunc], ty := none } -- func([]changeforgeref1.Step) api.Patch
theorem ti94_ok : ti94.ok Try.prog 94 := ⟨by kernel_rfl, ⟨_, Try.underlying94, rfl⟩, ⟨rfl, rfl⟩⟩
def ti95 : TI := { size := 1, agg := false, bytes := 24, kind := .slice 110, zc := [.slice none 0 0], ty := none } -- []changeforgeref1.Step
theorem ti95_ok : ti95.ok Try.prog 95 := ⟨by kernel_rfl, ⟨_, Try.underlying95, ⟨rfl, rfl⟩⟩, ⟨rfl, rfl⟩⟩
def ty95 : Ty := .slice (.st (.pair (.int .i64) (.str)))
theorem ty95_ok : TyOk Try.prog 95 ti95 ty95 := ⟨ti95_ok, rfl, rfl⟩
def ti96 : TI := { size := 1, agg := false, bytes := 8, kind := .other, zc := [.nilFunc], ty := none } -- func([]string, []string) []changeforgeref1.Step
theorem ti96_ok : ti96.ok Try.prog 96 := ⟨by kernel_rfl, ⟨_, Try.underlying96, rfl⟩, ⟨rfl, rfl⟩⟩
def ti97 : TI := { size := 4, agg := true, bytes := 96, kind := .array 4 22, zc := [.slice none 0 0, .slice none 0 0, .slice none 0 0, .slice none 0 0], ty := none } -- [4][]string
theorem ti97_ok : ti97.ok Try.prog 97 := ⟨by kernel_rfl, ⟨_, Try.underlying97, ⟨rfl, rfl⟩⟩, ⟨rfl, rfl⟩⟩
def ty97 : Ty := .st (.pair (.slice (.str)) (.pair (.slice (.str)) (.pair (.slice (.str)) (.slice (.str)))))
theorem ty97_ok : TyOk Try.prog 97 ti97 ty97 := ⟨ti97_ok, rfl, rfl⟩
def ti98 : TI := { size := 1, agg := false, bytes := 8, kind := .other, zc := [.nilFunc], ty := none } -- func(int, int) int
theorem ti98_ok : ti98.ok Try.prog 98 := ⟨by kernel_rfl, ⟨_, Try.underlying98, rfl⟩, ⟨rfl, rfl⟩⟩
def ti99 : TI := { size := 1, agg := false, bytes := 8, kind := .other, zc := [.pointer none], ty := none } -- *diff.Collector
theorem ti99_ok : ti99.ok Try.prog 99 := ⟨by kernel_rfl, ⟨_, Try.underlying99, rfl⟩, ⟨rfl, rfl⟩⟩
def ti100 : TI := { size := 1, agg := false, bytes := 8, kind := .other, zc := [.pointer none], ty := none } -- *api.Hunk
theorem ti100_ok : ti100.ok Try.prog 100 := ⟨by kernel_rfl, ⟨_, Try.underlying100, rfl⟩, ⟨rfl, rfl⟩⟩
def ti101 : TI := { size := 1, agg := false, bytes := 8, kind := .other, zc := [.nilFunc], ty := none } -- func() *api.Hunk
theorem ti101_ok : ti101.ok Try.prog 101 := ⟨by kernel_rfl, ⟨_, Try.underlying101, rfl⟩, ⟨rfl, rfl⟩⟩
def ti102 : TI := { size := 1, agg := false, bytes := 8, kind := .other, zc := [.nilFunc], ty := none } -- func(api.Patch, int) api.Fault
theorem ti102_ok : ti102.ok Try.prog 102 := ⟨by kernel_rfl, ⟨_, Try.underlying102, rfl⟩, ⟨rfl, rfl⟩⟩
def ti103 : TI := { size := 1, agg := false, bytes := 8, kind := .other, zc := [.nilFunc], ty := none } -- func(api.Patch) api.Patch
theorem ti103_ok : ti103.ok Try.prog 103 := ⟨by kernel_rfl, ⟨_, Try.underlying103, rfl⟩, ⟨rfl, rfl⟩⟩
def ti104 : TI := { size := 1, agg := false, bytes := 8, kind := .other, zc := [.nilFunc], ty := none } -- func(api.Hunk, int) int
theorem ti104_ok : ti104.ok Try.prog 104 := ⟨by kernel_rfl, ⟨_, Try.underlying104, rfl⟩, ⟨rfl, rfl⟩⟩
def ti105 : TI := { size := 1, agg := false, bytes := 8, kind := .other, zc := [.nilFunc], ty := none } -- func(string, uint8) int
theorem ti105_ok : ti105.ok Try.prog 105 := ⟨by kernel_rfl, ⟨_, Try.underlying105, rfl⟩, ⟨rfl, rfl⟩⟩
def ti106 : TI := { size := 1, agg := false, bytes := 8, kind := .other, zc := [.nilFunc], ty := none } -- func([]commute.Range, int, int, int, func(commute.Range, com
theorem ti106_ok : ti106.ok Try.prog 106 := ⟨by kernel_rfl, ⟨_, Try.underlying106, rfl⟩, ⟨rfl, rfl⟩⟩
def ti107 : TI := { size := 1, agg := false, bytes := 8, kind := .other, zc := [.nilFunc], ty := none } -- func(uint) int
theorem ti107_ok : ti107.ok Try.prog 107 := ⟨by kernel_rfl, ⟨_, Try.underlying107, rfl⟩, ⟨rfl, rfl⟩⟩
def ti108 : TI := { size := 1, agg := false, bytes := 8, kind := .int .u64, zc := [.int .u64 0], ty := none } -- uint
theorem ti108_ok : ti108.ok Try.prog 108 := ⟨by kernel_rfl, ⟨_, Try.underlying108, ⟨rfl, rfl⟩⟩, ⟨rfl, rfl⟩⟩
def ty108 : Ty := .int .u64
theorem ty108_ok : TyOk Try.prog 108 ti108 ty108 := ⟨ti108_ok, rfl, rfl⟩
def ti109 : TI := { size := 2, agg := true, bytes := 24, kind := .struct [(0, 3), (1, 9)], zc := [.int .i64 0, .string .empty], ty := none } -- struct { Kind int; Text string }
theorem ti109_ok : ti109.ok Try.prog 109 := ⟨by kernel_rfl, ⟨_, Try.underlying109, ⟨rfl, _, rfl, rfl⟩⟩, ⟨rfl, rfl⟩⟩
def ty109 : Ty := .st (.pair (.int .i64) (.str))
theorem ty109_ok : TyOk Try.prog 109 ti109 ty109 := ⟨ti109_ok, rfl, rfl⟩
def ti110 : TI := { size := 2, agg := true, bytes := 24, kind := .struct [(0, 3), (1, 9)], zc := [.int .i64 0, .string .empty], ty := none } -- changeforgeref1.Step
theorem ti110_ok : ti110.ok Try.prog 110 := ⟨by kernel_rfl, ⟨_, Try.underlying110, ⟨rfl, _, rfl, rfl⟩⟩, ⟨rfl, rfl⟩⟩
def ty110 : Ty := .st (.pair (.int .i64) (.str))
theorem ty110_ok : TyOk Try.prog 110 ti110 ty110 := ⟨ti110_ok, rfl, rfl⟩
def ti111 : TI := { size := 1, agg := false, bytes := 24, kind := .slice 37, zc := [.slice none 0 0], ty := none } -- [][]int
theorem ti111_ok : ti111.ok Try.prog 111 := ⟨by kernel_rfl, ⟨_, Try.underlying111, ⟨rfl, rfl⟩⟩, ⟨rfl, rfl⟩⟩
def ty111 : Ty := .slice (.slice (.int .i64))
theorem ty111_ok : TyOk Try.prog 111 ti111 ty111 := ⟨ti111_ok, rfl, rfl⟩
def ti112 : TI := { size := 1, agg := false, bytes := 8, kind := .other, zc := [.nilFunc], ty := none } -- func([]string, []string) [][]int
theorem ti112_ok : ti112.ok Try.prog 112 := ⟨by kernel_rfl, ⟨_, Try.underlying112, rfl⟩, ⟨rfl, rfl⟩⟩
def ti113 : TI := { size := 2, agg := true, bytes := 48, kind := .array 2 22, zc := [.slice none 0 0, .slice none 0 0], ty := none } -- [2][]string
theorem ti113_ok : ti113.ok Try.prog 113 := ⟨by kernel_rfl, ⟨_, Try.underlying113, ⟨rfl, rfl⟩⟩, ⟨rfl, rfl⟩⟩
def ty113 : Ty := .st (.pair (.slice (.str)) (.slice (.str)))
theorem ty113_ok : TyOk Try.prog 113 ti113 ty113 := ⟨ti113_ok, rfl, rfl⟩
def ti114 : TI := { size := 1, agg := false, bytes := 8, kind := .other, zc := [.nilFunc], ty := none } -- func([]commute.Range, int, int, func(commute.Range, commute.
theorem ti114_ok : ti114.ok Try.prog 114 := ⟨by kernel_rfl, ⟨_, Try.underlying114, rfl⟩, ⟨rfl, rfl⟩⟩
def ti115 : TI := { size := 1, agg := false, bytes := 8, kind := .int .i64, zc := [.int .i64 0], ty := none } -- slices.sortedHint
theorem ti115_ok : ti115.ok Try.prog 115 := ⟨by kernel_rfl, ⟨_, Try.underlying115, ⟨rfl, rfl⟩⟩, ⟨rfl, rfl⟩⟩
def ty115 : Ty := .int .i64
theorem ty115_ok : TyOk Try.prog 115 ti115 ty115 := ⟨ti115_ok, rfl, rfl⟩
def ti117 : TI := { size := 1, agg := false, bytes := 8, kind := .other, zc := [.nilFunc], ty := none } -- func([]commute.Range, int, int, func(commute.Range, commute.
theorem ti117_ok : ti117.ok Try.prog 117 := ⟨by kernel_rfl, ⟨_, Try.underlying117, rfl⟩, ⟨rfl, rfl⟩⟩
def ti118 : TI := { size := 1, agg := false, bytes := 8, kind := .other, zc := [.nilFunc], ty := none } -- func([]commute.Range, int, int, func(commute.Range, commute.
theorem ti118_ok : ti118.ok Try.prog 118 := ⟨by kernel_rfl, ⟨_, Try.underlying118, rfl⟩, ⟨rfl, rfl⟩⟩
def ti119 : TI := { size := 1, agg := false, bytes := 8, kind := .other, zc := [.nilFunc], ty := none } -- func([]commute.Range, int, int, int, func(commute.Range, com
theorem ti119_ok : ti119.ok Try.prog 119 := ⟨by kernel_rfl, ⟨_, Try.underlying119, rfl⟩, ⟨rfl, rfl⟩⟩
def ti121 : TI := { size := 1, agg := false, bytes := 8, kind := .other, zc := [.nilFunc], ty := none } -- func([]commute.Range, int, int, int, func(commute.Range, com
theorem ti121_ok : ti121.ok Try.prog 121 := ⟨by kernel_rfl, ⟨_, Try.underlying121, rfl⟩, ⟨rfl, rfl⟩⟩
def ti122 : TI := { size := 1, agg := false, bytes := 8, kind := .other, zc := [.nilFunc], ty := none } -- func(uint32) int
theorem ti122_ok : ti122.ok Try.prog 122 := ⟨by kernel_rfl, ⟨_, Try.underlying122, rfl⟩, ⟨rfl, rfl⟩⟩
def ti123 : TI := { size := 1, agg := false, bytes := 4, kind := .int .u32, zc := [.int .u32 0], ty := none } -- uint32
theorem ti123_ok : ti123.ok Try.prog 123 := ⟨by kernel_rfl, ⟨_, Try.underlying123, ⟨rfl, rfl⟩⟩, ⟨rfl, rfl⟩⟩
def ty123 : Ty := .int .u32
theorem ty123_ok : TyOk Try.prog 123 ti123 ty123 := ⟨ti123_ok, rfl, rfl⟩
def ti124 : TI := { size := 1, agg := false, bytes := 8, kind := .other, zc := [.nilFunc], ty := none } -- func(uint64) int
theorem ti124_ok : ti124.ok Try.prog 124 := ⟨by kernel_rfl, ⟨_, Try.underlying124, rfl⟩, ⟨rfl, rfl⟩⟩
def ti125 : TI := { size := 1, agg := false, bytes := 8, kind := .int .u64, zc := [.int .u64 0], ty := none } -- uint64
theorem ti125_ok : ti125.ok Try.prog 125 := ⟨by kernel_rfl, ⟨_, Try.underlying125, ⟨rfl, rfl⟩⟩, ⟨rfl, rfl⟩⟩
def ty125 : Ty := .int .u64
theorem ty125_ok : TyOk Try.prog 125 ti125 ty125 := ⟨ti125_ok, rfl, rfl⟩
def ti126 : TI := { size := 1, agg := false, bytes := 8, kind := .int .u64, zc := [.int .u64 0], ty := none } -- slices.xorshift
theorem ti126_ok : ti126.ok Try.prog 126 := ⟨by kernel_rfl, ⟨_, Try.underlying126, ⟨rfl, rfl⟩⟩, ⟨rfl, rfl⟩⟩
def ty126 : Ty := .int .u64
theorem ty126_ok : TyOk Try.prog 126 ti126 ty126 := ⟨ti126_ok, rfl, rfl⟩
def ti127 : TI := { size := 1, agg := false, bytes := 8, kind := .other, zc := [.nilFunc], ty := none } -- func(int) uint
theorem ti127_ok : ti127.ok Try.prog 127 := ⟨by kernel_rfl, ⟨_, Try.underlying127, rfl⟩, ⟨rfl, rfl⟩⟩
def ti128 : TI := { size := 1, agg := false, bytes := 8, kind := .other, zc := [.nilFunc], ty := none } -- func() uint64
theorem ti128_ok : ti128.ok Try.prog 128 := ⟨by kernel_rfl, ⟨_, Try.underlying128, rfl⟩, ⟨rfl, rfl⟩⟩
def ti129 : TI := { size := 1, agg := false, bytes := 8, kind := .other, zc := [.nilFunc], ty := none } -- func([]commute.Range, int, *int, func(commute.Range, commute
theorem ti129_ok : ti129.ok Try.prog 129 := ⟨by kernel_rfl, ⟨_, Try.underlying129, rfl⟩, ⟨rfl, rfl⟩⟩
def ti130 : TI := { size := 1, agg := false, bytes := 8, kind := .other, zc := [.pointer none], ty := none } -- *int
theorem ti130_ok : ti130.ok Try.prog 130 := ⟨by kernel_rfl, ⟨_, Try.underlying130, rfl⟩, ⟨rfl, rfl⟩⟩
def ti131 : TI := { size := 1, agg := false, bytes := 8, kind := .other, zc := [.nilFunc], ty := none } -- func([]commute.Range, int, int, int, *int, func(commute.Rang
theorem ti131_ok : ti131.ok Try.prog 131 := ⟨by kernel_rfl, ⟨_, Try.underlying131, rfl⟩, ⟨rfl, rfl⟩⟩
def ti132 : TI := { size := 1, agg := false, bytes := 8, kind := .other, zc := [.pointer none], ty := none } -- *slices.xorshift
theorem ti132_ok : ti132.ok Try.prog 132 := ⟨by kernel_rfl, ⟨_, Try.underlying132, rfl⟩, ⟨rfl, rfl⟩⟩
def ti134 : TI := { size := 1, agg := false, bytes := 8, kind := .other, zc := [.nilFunc], ty := none } -- func([]commute.Range, int, int, *int, func(commute.Range, co
theorem ti134_ok : ti134.ok Try.prog 134 := ⟨by kernel_rfl, ⟨_, Try.underlying134, rfl⟩, ⟨rfl, rfl⟩⟩
def ti135 : TI := { size := 1, agg := false, bytes := 8, kind := .other, zc := [.nilFunc], ty := none } -- func() string
theorem ti135_ok : ti135.ok Try.prog 135 := ⟨by kernel_rfl, ⟨_, Try.underlying135, rfl⟩, ⟨rfl, rfl⟩⟩
def ti136 : TI := { size := 4, agg := true, bytes := 40, kind := .struct [(0, 17), (1, 17), (2, 17), (3, 9)], zc := [.pointer none, .pointer none, .pointer none, .string .empty], ty := none } -- struct { _interface *abi.Type; concrete *abi.Type; asserted 
theorem ti136_ok : ti136.ok Try.prog 136 := ⟨by kernel_rfl, ⟨_, Try.underlying136, ⟨rfl, _, rfl, rfl⟩⟩, ⟨rfl, rfl⟩⟩
def ti137 : TI := { size := 4, agg := true, bytes := 40, kind := .struct [(0, 17), (1, 17), (2, 17), (3, 9)], zc := [.pointer none, .pointer none, .pointer none, .string .empty], ty := none } -- runtime.TypeAssertionError
theorem ti137_ok : ti137.ok Try.prog 137 := ⟨by kernel_rfl, ⟨_, Try.underlying137, ⟨rfl, _, rfl, rfl⟩⟩, ⟨rfl, rfl⟩⟩
def ti141 : TI := { size := 1, agg := false, bytes := 8, kind := .other, zc := [.nilFunc], ty := none } -- func() int
theorem ti141_ok : ti141.ok Try.prog 141 := ⟨by kernel_rfl, ⟨_, Try.underlying141, rfl⟩, ⟨rfl, rfl⟩⟩
def ti142 : TI := { size := 1, agg := false, bytes := 1, kind := .int .u8, zc := [.int .u8 0], ty := none } -- abi.TFlag
theorem ti142_ok : ti142.ok Try.prog 142 := ⟨by kernel_rfl, ⟨_, Try.underlying142, ⟨rfl, rfl⟩⟩, ⟨rfl, rfl⟩⟩
def ty142 : Ty := .int .u8
theorem ty142_ok : TyOk Try.prog 142 ti142 ty142 := ⟨ti142_ok, rfl, rfl⟩
def ti143 : TI := { size := 1, agg := false, bytes := 1, kind := .int .u8, zc := [.int .u8 0], ty := none } -- abi.Kind
theorem ti143_ok : ti143.ok Try.prog 143 := ⟨by kernel_rfl, ⟨_, Try.underlying143, ⟨rfl, rfl⟩⟩, ⟨rfl, rfl⟩⟩
def ty143 : Ty := .int .u8
theorem ty143_ok : TyOk Try.prog 143 ti143 ty143 := ⟨ti143_ok, rfl, rfl⟩
def ti144 : TI := { size := 1, agg := false, bytes := 8, kind := .other, zc := [.nilFunc], ty := none } -- func(unsafe.Pointer, unsafe.Pointer) bool
theorem ti144_ok : ti144.ok Try.prog 144 := ⟨by kernel_rfl, ⟨_, Try.underlying144, rfl⟩, ⟨rfl, rfl⟩⟩
def ti145 : TI := { size := 1, agg := false, bytes := 8, kind := .other, zc := [.pointer none], ty := none } -- *uint8
theorem ti145_ok : ti145.ok Try.prog 145 := ⟨by kernel_rfl, ⟨_, Try.underlying145, rfl⟩, ⟨rfl, rfl⟩⟩
def ti146 : TI := { size := 1, agg := false, bytes := 4, kind := .int .i32, zc := [.int .i32 0], ty := none } -- abi.NameOff
theorem ti146_ok : ti146.ok Try.prog 146 := ⟨by kernel_rfl, ⟨_, Try.underlying146, ⟨rfl, rfl⟩⟩, ⟨rfl, rfl⟩⟩
def ty146 : Ty := .int .i32
theorem ty146_ok : TyOk Try.prog 146 ti146 ty146 := ⟨ti146_ok, rfl, rfl⟩
def ti147 : TI := { size := 1, agg := false, bytes := 4, kind := .int .i32, zc := [.int .i32 0], ty := none } -- abi.TypeOff
theorem ti147_ok : ti147.ok Try.prog 147 := ⟨by kernel_rfl, ⟨_, Try.underlying147, ⟨rfl, rfl⟩⟩, ⟨rfl, rfl⟩⟩
def ty147 : Ty := .int .i32
theorem ty147_ok : TyOk Try.prog 147 ti147 ty147 := ⟨ti147_ok, rfl, rfl⟩
def ti148 : TI := { size := 11, agg := true, bytes := 48, kind := .struct [(0, 12), (1, 12), (2, 123), (3, 142), (4, 5), (5, 5), (6, 143), (7, 144), (8, 145), (9, 146), (10, 147)], zc := [.int .u64 0, .int .u64 0, .int .u32 0, .int .u8 0, .int .u8 0, .int .u8 0, .int .u8 0, .nilFunc, .pointer none, .int .i32 0, .int .i32 0], ty := none } -- struct { Size_ uintptr; PtrBytes uintptr; Hash uint32; TFlag
theorem ti148_ok : ti148.ok Try.prog 148 := ⟨by kernel_rfl, ⟨_, Try.underlying148, ⟨rfl, _, rfl, rfl⟩⟩, ⟨rfl, rfl⟩⟩
def ti149 : TI := { size := 11, agg := true, bytes := 48, kind := .struct [(0, 12), (1, 12), (2, 123), (3, 142), (4, 5), (5, 5), (6, 143), (7, 144), (8, 145), (9, 146), (10, 147)], zc := [.int .u64 0, .int .u64 0, .int .u32 0, .int .u8 0, .int .u8 0, .int .u8 0, .int .u8 0, .nilFunc, .pointer none, .int .i32 0, .int .i32 0], ty := none } -- abi.Type
theorem ti149_ok : ti149.ok Try.prog 149 := ⟨by kernel_rfl, ⟨_, Try.underlying149, ⟨rfl, _, rfl, rfl⟩⟩, ⟨rfl, rfl⟩⟩

def lk {α : Type} : List (Nat × α) → Nat → Option α
  | [], _ => none
  | (k, x) :: l, t => bif Nat.beq t k then some x else lk l t
def lkAll {α : Type} (Q : Nat → α → Prop) : List (Nat × α) → Prop
  | [] => True
  | (k, x) :: l => Q k x ∧ lkAll Q l
theorem lk_all {α : Type} {Q : Nat → α → Prop} : ∀ (l : List (Nat × α)), lkAll Q l → ∀ t x, lk l t = some x → Q t x
  | [], _, t, x, h => by cases h
  | (k, y) :: l, hq, t, x, h => by
    unfold lk at h
    cases hb : Nat.beq t k
    · rw [hb] at h; exact lk_all l hq.2 t x h
    · rw [hb] at h
      cases h
      rw [Nat.eq_of_beq_eq_true hb]
      exact hq.1
theorem lk_mem {α : Type} {Q : Nat → α → Prop} (l : List (Nat × α)) (h : ∀ p ∈ l, Q p.1 p.2) : ∀ t x, lk l t = some x → Q t x := by
  refine lk_all l ?_
  induction l with
  | nil => trivial
  | cons p l ih => exact ⟨h p List.mem_cons_self, ih fun q hq => h q (List.mem_cons_of_mem _ hq)⟩
def tlist : List (Nat × TI) := [(1, { size := 1, agg := false, bytes := 8, kind := .other, zc := [.nilFunc], ty := none }), (2, { size := 1, agg := false, bytes := 8, kind := .int .i64, zc := [.int .i64 0], ty := none }), (3, { size := 1, agg := false, bytes := 8, kind := .int .i64, zc := [.int .i64 0], ty := none }), (4, { size := 1, agg := false, bytes := 1, kind := .bool, zc := [.bool false], ty := none }), (5, { size := 1, agg := false, bytes := 1, kind := .int .u8, zc := [.int .u8 0], ty := none }), (6, { size := 1, agg := false, bytes := 1, kind := .int .u8, zc := [.int .u8 0], ty := none }), (7, { size := 4, agg := true, bytes := 24, kind := .struct [(0, 2), (1, 3), (2, 4), (3, 6)], zc := [.int .i64 0, .int .i64 0, .bool false, .int .u8 0], ty := none }), (8, { size := 4, agg := true, bytes := 24, kind := .struct [(0, 2), (1, 3), (2, 4), (3, 6)], zc := [.int .i64 0, .int .i64 0, .bool false, .int .u8 0], ty := none }), (9, { size := 1, agg := false, bytes := 16, kind := .str, zc := [.string .empty], ty := none }), (10, { size := 1, agg := false, bytes := 16, kind := .str, zc := [.string .empty], ty := none }), (11, { size := 1, agg := false, bytes := 16, kind := .str, zc := [.string .empty], ty := none }), (12, { size := 1, agg := false, bytes := 8, kind := .int .u64, zc := [.int .u64 0], ty := none }), (13, { size := 2, agg := true, bytes := 24, kind := .struct [(0, 9), (1, 12)], zc := [.string .empty, .int .u64 0], ty := none }), (14, { size := 2, agg := true, bytes := 24, kind := .struct [(0, 9), (1, 12)], zc := [.string .empty, .int .u64 0], ty := none }), (15, { size := 1, agg := false, bytes := 8, kind := .other, zc := [.pointer none], ty := none }), (16, { size := 1, agg := false, bytes := 8, kind := .other, zc := [.pointer none], ty := none }), (17, { size := 1, agg := false, bytes := 8, kind := .other, zc := [.pointer none], ty := none }), (18, { size := 1, agg := true, bytes := 8, kind := .struct [(0, 17)], zc := [.pointer none], ty := none }), (19, { size := 1, agg := true, bytes := 8, kind := .struct [(0, 17)], zc := [.pointer none], ty := none }), (21, { size := 1, agg := false, bytes := 4, kind := .int .i32, zc := [.int .i32 0], ty := none }), (22, { size := 1, agg := false, bytes := 24, kind := .slice 9, zc := [.slice none 0 0], ty := none }), (23, { size := 1, agg := false, bytes := 24, kind := .slice 40, zc := [.slice none 0 0], ty := none }), (24, { size := 2, agg := true, bytes := 16, kind := .struct [(0, 3), (1, 3)], zc := [.int .i64 0, .int .i64 0], ty := none }), (25, { size := 2, agg := true, bytes := 16, kind := .struct [(0, 3), (1, 3)], zc := [.int .i64 0, .int .i64 0], ty := none }), (27, { size := 1, agg := false, bytes := 8, kind := .other, zc := [.nilFunc], ty := none }), (28, { size := 1, agg := false, bytes := 8, kind := .other, zc := [.nilFunc], ty := none }), (29, { size := 1, agg := false, bytes := 8, kind := .other, zc := [.nilFunc], ty := none }), (30, { size := 1, agg := false, bytes := 8, kind := .other, zc := [.nilFunc], ty := none }), (31, { size := 1, agg := false, bytes := 8, kind := .other, zc := [.nilFunc], ty := none }), (33, { size := 1, agg := false, bytes := 8, kind := .other, zc := [.nilFunc], ty := none }), (34, { size := 1, agg := false, bytes := 8, kind := .other, zc := [.nilFunc], ty := none }), (36, { size := 1, agg := false, bytes := 8, kind := .other, zc := [.nilFunc], ty := none }), (37, { size := 1, agg := false, bytes := 24, kind := .slice 3, zc := [.slice none 0 0], ty := none }), (38, { size := 1, agg := false, bytes := 8, kind := .other, zc := [.nilFunc], ty := none }), (39, { size := 5, agg := true, bytes := 104, kind := .struct [(0, 4), (1, 22), (2, 22), (3, 22), (4, 22)], zc := [.bool false, .slice none 0 0, .slice none 0 0, .slice none 0 0, .slice none 0 0], ty := none }), (40, { size := 5, agg := true, bytes := 104, kind := .struct [(0, 4), (1, 22), (2, 22), (3, 22), (4, 22)], zc := [.bool false, .slice none 0 0, .slice none 0 0, .slice none 0 0, .slice none 0 0], ty := none }), (41, { size := 1, agg := false, bytes := 8, kind := .other, zc := [.nilFunc], ty := none }), (42, { size := 1, agg := false, bytes := 24, kind := .slice 85, zc := [.slice none 0 0], ty := none }), (43, { size := 1, agg := true, bytes := 24, kind := .struct [(0, 42)], zc := [.slice none 0 0], ty := none }), (44, { size := 1, agg := true, bytes := 24, kind := .struct [(0, 42)], zc := [.slice none 0 0], ty := none }), (46, { size := 1, agg := false, bytes := 8, kind := .other, zc := [.nilFunc], ty := none }), (48, { size := 1, agg := false, bytes := 8, kind := .other, zc := [.nilFunc], ty := none }), (49, { size := 1, agg := false, bytes := 8, kind := .other, zc := [.nilFunc], ty := none }), (50, { size := 1, agg := false, bytes := 8, kind := .other, zc := [.nilFunc], ty := none }), (51, { size := 1, agg := false, bytes := 8, kind := .other, zc := [.nilFunc], ty := none }), (52, { size := 1, agg := true, bytes := 24, kind := .struct [(0, 23)], zc := [.slice none 0 0], ty := none }), (53, { size := 1, agg := true, bytes := 24, kind := .struct [(0, 23)], zc := [.slice none 0 0], ty := none }), (54, { size := 1, agg := false, bytes := 24, kind := .slice 57, zc := [.slice none 0 0], ty := none }), (55, { size := 1, agg := false, bytes := 8, kind := .other, zc := [.nilFunc], ty := none }), (56, { size := 3, agg := true, bytes := 24, kind := .struct [(0, 3), (1, 3), (2, 3)], zc := [.int .i64 0, .int .i64 0, .int .i64 0], ty := none }), (57, { size := 3, agg := true, bytes := 24, kind := .struct [(0, 3), (1, 3), (2, 3)], zc := [.int .i64 0, .int .i64 0, .int .i64 0], ty := none }), (58, { size := 1, agg := false, bytes := 8, kind := .other, zc := [.nilFunc], ty := none }), (59, { size := 1, agg := false, bytes := 8, kind := .other, zc := [.nilFunc], ty := none }), (60, { size := 1, agg := false, bytes := 8, kind := .other, zc := [.nilFunc], ty := none }), (61, { size := 1, agg := false, bytes := 8, kind := .other, zc := [.nilFunc], ty := none }), (62, { size := 1, agg := false, bytes := 8, kind := .other, zc := [.nilFunc], ty := none }), (63, { size := 1, agg := false, bytes := 8, kind := .other, zc := [.nilFunc], ty := none }), (64, { size := 1, agg := false, bytes := 8, kind := .other, zc := [.nilFunc], ty := none }), (65, { size := 1, agg := false, bytes := 8, kind := .other, zc := [.nilFunc], ty := none }), (66, { size := 1, agg := false, bytes := 8, kind := .other, zc := [.nilFunc], ty := none }), (68, { size := 1, agg := false, bytes := 8, kind := .other, zc := [.nilFunc], ty := none }), (69, { size := 1, agg := false, bytes := 8, kind := .other, zc := [.nilFunc], ty := none }), (70, { size := 1, agg := false, bytes := 8, kind := .other, zc := [.nilFunc], ty := none }), (71, { size := 1, agg := false, bytes := 8, kind := .other, zc := [.nilFunc], ty := none }), (72, { size := 3, agg := true, bytes := 40, kind := .struct [(0, 42), (1, 3), (2, 4)], zc := [.slice none 0 0, .int .i64 0, .bool false], ty := none }), (73, { size := 3, agg := true, bytes := 40, kind := .struct [(0, 42), (1, 3), (2, 4)], zc := [.slice none 0 0, .int .i64 0, .bool false], ty := none }), (74, { size := 1, agg := false, bytes := 8, kind := .other, zc := [.nilFunc], ty := none }), (75, { size := 1, agg := false, bytes := 8, kind := .other, zc := [.nilFunc], ty := none }), (76, { size := 1, agg := false, bytes := 8, kind := .other, zc := [.nilFunc], ty := none }), (77, { size := 1, agg := false, bytes := 8, kind := .other, zc := [.nilFunc], ty := none }), (78, { size := 1, agg := false, bytes := 8, kind := .other, zc := [.nilFunc], ty := none }), (79, { size := 1, agg := false, bytes := 8, kind := .other, zc := [.nilFunc], ty := none }), (80, { size := 1, agg := false, bytes := 8, kind := .other, zc := [.nilFunc], ty := none }), (81, { size := 1, agg := false, bytes := 8, kind := .other, zc := [.nilFunc], ty := none }), (82, { size := 1, agg := false, bytes := 8, kind := .other, zc := [.nilFunc], ty := none }), (83, { size := 1, agg := false, bytes := 8, kind := .other, zc := [.nilFunc], ty := none }), (84, { size := 3, agg := true, bytes := 56, kind := .struct [(0, 3), (1, 22), (2, 22)], zc := [.int .i64 0, .slice none 0 0, .slice none 0 0], ty := none }), (85, { size := 3, agg := true, bytes := 56, kind := .struct [(0, 3), (1, 22), (2, 22)], zc := [.int .i64 0, .slice none 0 0, .slice none 0 0], ty := none }), (86, { size := 1, agg := false, bytes := 8, kind := .other, zc := [.nilFunc], ty := none }), (87, { size := 1, agg := false, bytes := 8, kind := .other, zc := [.nilFunc], ty := none }), (88, { size := 1, agg := false, bytes := 8, kind := .other, zc := [.nilFunc], ty := none }), (89, { size := 1, agg := false, bytes := 8, kind := .other, zc := [.nilFunc], ty := none }), (90, { size := 1, agg := false, bytes := 8, kind := .other, zc := [.nilFunc], ty := none }), (91, { size := 1, agg := false, bytes := 8, kind := .other, zc := [.pointer none], ty := none }), (92, { size := 1, agg := false, bytes := 8, kind := .other, zc := [.pointer none], ty := none }), (93, { size := 1, agg := false, bytes := 8, kind := .other, zc := [.nilFunc], ty := none }), (94, { size := 1, agg := false, bytes := 8, kind := .other, zc := [.nilFunc], ty := none }), (95, { size := 1, agg := false, bytes := 24, kind := .slice 110, zc := [.slice none 0 0], ty := none }), (96, { size := 1, agg := false, bytes := 8, kind := .other, zc := [.nilFunc], ty := none }), (97, { size := 4, agg := true, bytes := 96, kind := .array 4 22, zc := [.slice none 0 0, .slice none 0 0, .slice none 0 0, .slice none 0 0], ty := none }), (98, { size := 1, agg := false, bytes := 8, kind := .other, zc := [.nilFunc], ty := none }), (99, { size := 1, agg := false, bytes := 8, kind := .other, zc := [.pointer none], ty := none }), (100, { size := 1, agg := false, bytes := 8, kind := .other, zc := [.pointer none], ty := none }), (101, { size := 1, agg := false, bytes := 8, kind := .other, zc := [.nilFunc], ty := none }), (102, { size := 1, agg := false, bytes := 8, kind := .other, zc := [.nilFunc], ty := none }), (103, { size := 1, agg := false, bytes := 8, kind := .other, zc := [.nilFunc], ty := none }), (104, { size := 1, agg := false, bytes := 8, kind := .other, zc := [.nilFunc], ty := none }), (105, { size := 1, agg := false, bytes := 8, kind := .other, zc := [.nilFunc], ty := none }), (106, { size := 1, agg := false, bytes := 8, kind := .other, zc := [.nilFunc], ty := none }), (107, { size := 1, agg := false, bytes := 8, kind := .other, zc := [.nilFunc], ty := none }), (108, { size := 1, agg := false, bytes := 8, kind := .int .u64, zc := [.int .u64 0], ty := none }), (109, { size := 2, agg := true, bytes := 24, kind := .struct [(0, 3), (1, 9)], zc := [.int .i64 0, .string .empty], ty := none }), (110, { size := 2, agg := true, bytes := 24, kind := .struct [(0, 3), (1, 9)], zc := [.int .i64 0, .string .empty], ty := none }), (111, { size := 1, agg := false, bytes := 24, kind := .slice 37, zc := [.slice none 0 0], ty := none }), (112, { size := 1, agg := false, bytes := 8, kind := .other, zc := [.nilFunc], ty := none }), (113, { size := 2, agg := true, bytes := 48, kind := .array 2 22, zc := [.slice none 0 0, .slice none 0 0], ty := none }), (114, { size := 1, agg := false, bytes := 8, kind := .other, zc := [.nilFunc], ty := none }), (115, { size := 1, agg := false, bytes := 8, kind := .int .i64, zc := [.int .i64 0], ty := none }), (117, { size := 1, agg := false, bytes := 8, kind := .other, zc := [.nilFunc], ty := none }), (118, { size := 1, agg := false, bytes := 8, kind := .other, zc := [.nilFunc], ty := none }), (119, { size := 1, agg := false, bytes := 8, kind := .other, zc := [.nilFunc], ty := none }), (121, { size := 1, agg := false, bytes := 8, kind := .other, zc := [.nilFunc], ty := none }), (122, { size := 1, agg := false, bytes := 8, kind := .other, zc := [.nilFunc], ty := none }), (123, { size := 1, agg := false, bytes := 4, kind := .int .u32, zc := [.int .u32 0], ty := none }), (124, { size := 1, agg := false, bytes := 8, kind := .other, zc := [.nilFunc], ty := none }), (125, { size := 1, agg := false, bytes := 8, kind := .int .u64, zc := [.int .u64 0], ty := none }), (126, { size := 1, agg := false, bytes := 8, kind := .int .u64, zc := [.int .u64 0], ty := none }), (127, { size := 1, agg := false, bytes := 8, kind := .other, zc := [.nilFunc], ty := none }), (128, { size := 1, agg := false, bytes := 8, kind := .other, zc := [.nilFunc], ty := none }), (129, { size := 1, agg := false, bytes := 8, kind := .other, zc := [.nilFunc], ty := none }), (130, { size := 1, agg := false, bytes := 8, kind := .other, zc := [.pointer none], ty := none }), (131, { size := 1, agg := false, bytes := 8, kind := .other, zc := [.nilFunc], ty := none }), (132, { size := 1, agg := false, bytes := 8, kind := .other, zc := [.pointer none], ty := none }), (134, { size := 1, agg := false, bytes := 8, kind := .other, zc := [.nilFunc], ty := none }), (135, { size := 1, agg := false, bytes := 8, kind := .other, zc := [.nilFunc], ty := none }), (136, { size := 4, agg := true, bytes := 40, kind := .struct [(0, 17), (1, 17), (2, 17), (3, 9)], zc := [.pointer none, .pointer none, .pointer none, .string .empty], ty := none }), (137, { size := 4, agg := true, bytes := 40, kind := .struct [(0, 17), (1, 17), (2, 17), (3, 9)], zc := [.pointer none, .pointer none, .pointer none, .string .empty], ty := none }), (141, { size := 1, agg := false, bytes := 8, kind := .other, zc := [.nilFunc], ty := none }), (142, { size := 1, agg := false, bytes := 1, kind := .int .u8, zc := [.int .u8 0], ty := none }), (143, { size := 1, agg := false, bytes := 1, kind := .int .u8, zc := [.int .u8 0], ty := none }), (144, { size := 1, agg := false, bytes := 8, kind := .other, zc := [.nilFunc], ty := none }), (145, { size := 1, agg := false, bytes := 8, kind := .other, zc := [.pointer none], ty := none }), (146, { size := 1, agg := false, bytes := 4, kind := .int .i32, zc := [.int .i32 0], ty := none }), (147, { size := 1, agg := false, bytes := 4, kind := .int .i32, zc := [.int .i32 0], ty := none }), (148, { size := 11, agg := true, bytes := 48, kind := .struct [(0, 12), (1, 12), (2, 123), (3, 142), (4, 5), (5, 5), (6, 143), (7, 144), (8, 145), (9, 146), (10, 147)], zc := [.int .u64 0, .int .u64 0, .int .u32 0, .int .u8 0, .int .u8 0, .int .u8 0, .int .u8 0, .nilFunc, .pointer none, .int .i32 0, .int .i32 0], ty := none }), (149, { size := 11, agg := true, bytes := 48, kind := .struct [(0, 12), (1, 12), (2, 123), (3, 142), (4, 5), (5, 5), (6, 143), (7, 144), (8, 145), (9, 146), (10, 147)], zc := [.int .u64 0, .int .u64 0, .int .u32 0, .int .u8 0, .int .u8 0, .int .u8 0, .int .u8 0, .nilFunc, .pointer none, .int .i32 0, .int .i32 0], ty := none })]
def tl (t : Nat) : Option TI := lk tlist t
theorem tl_ok : ∀ t i, tl t = some i → i.ok Try.prog t ∧ (i.agg = false → i.size = 1) ∧ 0 < i.size := by
  intro t i h
  exact lk_all (Q := fun t i => i.ok Try.prog t ∧ (i.agg = false → i.size = 1) ∧ 0 < i.size) tlist
    ⟨⟨ti1_ok, fun _ => rfl, Nat.succ_pos _⟩, ⟨ti2_ok, fun _ => rfl, Nat.succ_pos _⟩, ⟨ti3_ok, fun _ => rfl, Nat.succ_pos _⟩, ⟨ti4_ok, fun _ => rfl, Nat.succ_pos _⟩, ⟨ti5_ok, fun _ => rfl, Nat.succ_pos _⟩, ⟨ti6_ok, fun _ => rfl, Nat.succ_pos _⟩, ⟨ti7_ok, fun h => (by cases h), Nat.succ_pos _⟩, ⟨ti8_ok, fun h => (by cases h), Nat.succ_pos _⟩, ⟨ti9_ok, fun _ => rfl, Nat.succ_pos _⟩, ⟨ti10_ok, fun _ => rfl, Nat.succ_pos _⟩, ⟨ti11_ok, fun _ => rfl, Nat.succ_pos _⟩, ⟨ti12_ok, fun _ => rfl, Nat.succ_pos _⟩, ⟨ti13_ok, fun h => (by cases h), Nat.succ_pos _⟩, ⟨ti14_ok, fun h => (by cases h), Nat.succ_pos _⟩, ⟨ti15_ok, fun _ => rfl, Nat.succ_pos _⟩, ⟨ti16_ok, fun _ => rfl, Nat.succ_pos _⟩, ⟨ti17_ok, fun _ => rfl, Nat.succ_pos _⟩, ⟨ti18_ok, fun h => (by cases h), Nat.succ_pos _⟩, ⟨ti19_ok, fun h => (by cases h), Nat.succ_pos _⟩, ⟨ti21_ok, fun _ => rfl, Nat.succ_pos _⟩, ⟨ti22_ok, fun _ => rfl, Nat.succ_pos _⟩, ⟨ti23_ok, fun _ => rfl, Nat.succ_pos _⟩, ⟨ti24_ok, fun h => (by cases h), Nat.succ_pos _⟩, ⟨ti25_ok, fun h => (by cases h), Nat.succ_pos _⟩, ⟨ti27_ok, fun _ => rfl, Nat.succ_pos _⟩, ⟨ti28_ok, fun _ => rfl, Nat.succ_pos _⟩, ⟨ti29_ok, fun _ => rfl, Nat.succ_pos _⟩, ⟨ti30_ok, fun _ => rfl, Nat.succ_pos _⟩, ⟨ti31_ok, fun _ => rfl, Nat.succ_pos _⟩, ⟨ti33_ok, fun _ => rfl, Nat.succ_pos _⟩, ⟨ti34_ok, fun _ => rfl, Nat.succ_pos _⟩, ⟨ti36_ok, fun _ => rfl, Nat.succ_pos _⟩, ⟨ti37_ok, fun _ => rfl, Nat.succ_pos _⟩, ⟨ti38_ok, fun _ => rfl, Nat.succ_pos _⟩, ⟨ti39_ok, fun h => (by cases h), Nat.succ_pos _⟩, ⟨ti40_ok, fun h => (by cases h), Nat.succ_pos _⟩, ⟨ti41_ok, fun _ => rfl, Nat.succ_pos _⟩, ⟨ti42_ok, fun _ => rfl, Nat.succ_pos _⟩, ⟨ti43_ok, fun h => (by cases h), Nat.succ_pos _⟩, ⟨ti44_ok, fun h => (by cases h), Nat.succ_pos _⟩, ⟨ti46_ok, fun _ => rfl, Nat.succ_pos _⟩, ⟨ti48_ok, fun _ => rfl, Nat.succ_pos _⟩, ⟨ti49_ok, fun _ => rfl, Nat.succ_pos _⟩, ⟨ti50_ok, fun _ => rfl, Nat.succ_pos _⟩, ⟨ti51_ok, fun _ => rfl, Nat.succ_pos _⟩, ⟨ti52_ok, fun h => (by cases h), Nat.succ_pos _⟩, ⟨ti53_ok, fun h => (by cases h), Nat.succ_pos _⟩, ⟨ti54_ok, fun _ => rfl, Nat.succ_pos _⟩, ⟨ti55_ok, fun _ => rfl, Nat.succ_pos _⟩, ⟨ti56_ok, fun h => (by cases h), Nat.succ_pos _⟩, ⟨ti57_ok, fun h => (by cases h), Nat.succ_pos _⟩, ⟨ti58_ok, fun _ => rfl, Nat.succ_pos _⟩, ⟨ti59_ok, fun _ => rfl, Nat.succ_pos _⟩, ⟨ti60_ok, fun _ => rfl, Nat.succ_pos _⟩, ⟨ti61_ok, fun _ => rfl, Nat.succ_pos _⟩, ⟨ti62_ok, fun _ => rfl, Nat.succ_pos _⟩, ⟨ti63_ok, fun _ => rfl, Nat.succ_pos _⟩, ⟨ti64_ok, fun _ => rfl, Nat.succ_pos _⟩, ⟨ti65_ok, fun _ => rfl, Nat.succ_pos _⟩, ⟨ti66_ok, fun _ => rfl, Nat.succ_pos _⟩, ⟨ti68_ok, fun _ => rfl, Nat.succ_pos _⟩, ⟨ti69_ok, fun _ => rfl, Nat.succ_pos _⟩, ⟨ti70_ok, fun _ => rfl, Nat.succ_pos _⟩, ⟨ti71_ok, fun _ => rfl, Nat.succ_pos _⟩, ⟨ti72_ok, fun h => (by cases h), Nat.succ_pos _⟩, ⟨ti73_ok, fun h => (by cases h), Nat.succ_pos _⟩, ⟨ti74_ok, fun _ => rfl, Nat.succ_pos _⟩, ⟨ti75_ok, fun _ => rfl, Nat.succ_pos _⟩, ⟨ti76_ok, fun _ => rfl, Nat.succ_pos _⟩, ⟨ti77_ok, fun _ => rfl, Nat.succ_pos _⟩, ⟨ti78_ok, fun _ => rfl, Nat.succ_pos _⟩, ⟨ti79_ok, fun _ => rfl, Nat.succ_pos _⟩, ⟨ti80_ok, fun _ => rfl, Nat.succ_pos _⟩, ⟨ti81_ok, fun _ => rfl, Nat.succ_pos _⟩, ⟨ti82_ok, fun _ => rfl, Nat.succ_pos _⟩, ⟨ti83_ok, fun _ => rfl, Nat.succ_pos _⟩, ⟨ti84_ok, fun h => (by cases h), Nat.succ_pos _⟩, ⟨ti85_ok, fun h => (by cases h), Nat.succ_pos _⟩, ⟨ti86_ok, fun _ => rfl, Nat.succ_pos _⟩, ⟨ti87_ok, fun _ => rfl, Nat.succ_pos _⟩, ⟨ti88_ok, fun _ => rfl, Nat.succ_pos _⟩, ⟨ti89_ok, fun _ => rfl, Nat.succ_pos _⟩, ⟨ti90_ok, fun _ => rfl, Nat.succ_pos _⟩, ⟨ti91_ok, fun _ => rfl, Nat.succ_pos _⟩, ⟨ti92_ok, fun _ => rfl, Nat.succ_pos _⟩, ⟨ti93_ok, fun _ => rfl, Nat.succ_pos _⟩, ⟨ti94_ok, fun _ => rfl, Nat.succ_pos _⟩, ⟨ti95_ok, fun _ => rfl, Nat.succ_pos _⟩, ⟨ti96_ok, fun _ => rfl, Nat.succ_pos _⟩, ⟨ti97_ok, fun h => (by cases h), Nat.succ_pos _⟩, ⟨ti98_ok, fun _ => rfl, Nat.succ_pos _⟩, ⟨ti99_ok, fun _ => rfl, Nat.succ_pos _⟩, ⟨ti100_ok, fun _ => rfl, Nat.succ_pos _⟩, ⟨ti101_ok, fun _ => rfl, Nat.succ_pos _⟩, ⟨ti102_ok, fun _ => rfl, Nat.succ_pos _⟩, ⟨ti103_ok, fun _ => rfl, Nat.succ_pos _⟩, ⟨ti104_ok, fun _ => rfl, Nat.succ_pos _⟩, ⟨ti105_ok, fun _ => rfl, Nat.succ_pos _⟩, ⟨ti106_ok, fun _ => rfl, Nat.succ_pos _⟩, ⟨ti107_ok, fun _ => rfl, Nat.succ_pos _⟩, ⟨ti108_ok, fun _ => rfl, Nat.succ_pos _⟩, ⟨ti109_ok, fun h => (by cases h), Nat.succ_pos _⟩, ⟨ti110_ok, fun h => (by cases h), Nat.succ_pos _⟩, ⟨ti111_ok, fun _ => rfl, Nat.succ_pos _⟩, ⟨ti112_ok, fun _ => rfl, Nat.succ_pos _⟩, ⟨ti113_ok, fun h => (by cases h), Nat.succ_pos _⟩, ⟨ti114_ok, fun _ => rfl, Nat.succ_pos _⟩, ⟨ti115_ok, fun _ => rfl, Nat.succ_pos _⟩, ⟨ti117_ok, fun _ => rfl, Nat.succ_pos _⟩, ⟨ti118_ok, fun _ => rfl, Nat.succ_pos _⟩, ⟨ti119_ok, fun _ => rfl, Nat.succ_pos _⟩, ⟨ti121_ok, fun _ => rfl, Nat.succ_pos _⟩, ⟨ti122_ok, fun _ => rfl, Nat.succ_pos _⟩, ⟨ti123_ok, fun _ => rfl, Nat.succ_pos _⟩, ⟨ti124_ok, fun _ => rfl, Nat.succ_pos _⟩, ⟨ti125_ok, fun _ => rfl, Nat.succ_pos _⟩, ⟨ti126_ok, fun _ => rfl, Nat.succ_pos _⟩, ⟨ti127_ok, fun _ => rfl, Nat.succ_pos _⟩, ⟨ti128_ok, fun _ => rfl, Nat.succ_pos _⟩, ⟨ti129_ok, fun _ => rfl, Nat.succ_pos _⟩, ⟨ti130_ok, fun _ => rfl, Nat.succ_pos _⟩, ⟨ti131_ok, fun _ => rfl, Nat.succ_pos _⟩, ⟨ti132_ok, fun _ => rfl, Nat.succ_pos _⟩, ⟨ti134_ok, fun _ => rfl, Nat.succ_pos _⟩, ⟨ti135_ok, fun _ => rfl, Nat.succ_pos _⟩, ⟨ti136_ok, fun h => (by cases h), Nat.succ_pos _⟩, ⟨ti137_ok, fun h => (by cases h), Nat.succ_pos _⟩, ⟨ti141_ok, fun _ => rfl, Nat.succ_pos _⟩, ⟨ti142_ok, fun _ => rfl, Nat.succ_pos _⟩, ⟨ti143_ok, fun _ => rfl, Nat.succ_pos _⟩, ⟨ti144_ok, fun _ => rfl, Nat.succ_pos _⟩, ⟨ti145_ok, fun _ => rfl, Nat.succ_pos _⟩, ⟨ti146_ok, fun _ => rfl, Nat.succ_pos _⟩, ⟨ti147_ok, fun _ => rfl, Nat.succ_pos _⟩, ⟨ti148_ok, fun h => (by cases h), Nat.succ_pos _⟩, ⟨ti149_ok, fun h => (by cases h), Nat.succ_pos _⟩, True.intro⟩ t i h
def tylist : List (Nat × Ty) := [(2, .int .i64), (3, .int .i64), (4, .bool), (5, .int .u8), (6, .int .u8), (7, .st (.pair (.int .i64) (.pair (.int .i64) (.pair (.bool) (.int .u8))))), (8, .st (.pair (.int .i64) (.pair (.int .i64) (.pair (.bool) (.int .u8))))), (9, .str), (10, .str), (11, .str), (12, .int .u64), (13, .st (.pair (.str) (.int .u64))), (14, .st (.pair (.str) (.int .u64))), (21, .int .i32), (22, .slice (.str)), (23, .slice (.st (.pair (.bool) (.pair (.slice (.str)) (.pair (.slice (.str)) (.pair (.slice (.str)) (.slice (.str)))))))), (24, .st (.pair (.int .i64) (.int .i64))), (25, .st (.pair (.int .i64) (.int .i64))), (37, .slice (.int .i64)), (39, .st (.pair (.bool) (.pair (.slice (.str)) (.pair (.slice (.str)) (.pair (.slice (.str)) (.slice (.str))))))), (40, .st (.pair (.bool) (.pair (.slice (.str)) (.pair (.slice (.str)) (.pair (.slice (.str)) (.slice (.str))))))), (42, .slice (.st (.pair (.int .i64) (.pair (.slice (.str)) (.slice (.str)))))), (43, .st (.slice (.st (.pair (.int .i64) (.pair (.slice (.str)) (.slice (.str))))))), (44, .st (.slice (.st (.pair (.int .i64) (.pair (.slice (.str)) (.slice (.str))))))), (52, .st (.slice (.st (.pair (.bool) (.pair (.slice (.str)) (.pair (.slice (.str)) (.pair (.slice (.str)) (.slice (.str))))))))), (53, .st (.slice (.st (.pair (.bool) (.pair (.slice (.str)) (.pair (.slice (.str)) (.pair (.slice (.str)) (.slice (.str))))))))), (54, .slice (.st (.pair (.int .i64) (.pair (.int .i64) (.int .i64))))), (56, .st (.pair (.int .i64) (.pair (.int .i64) (.int .i64)))), (57, .st (.pair (.int .i64) (.pair (.int .i64) (.int .i64)))), (72, .st (.pair (.slice (.st (.pair (.int .i64) (.pair (.slice (.str)) (.slice (.str)))))) (.pair (.int .i64) (.bool)))), (73, .st (.pair (.slice (.st (.pair (.int .i64) (.pair (.slice (.str)) (.slice (.str)))))) (.pair (.int .i64) (.bool)))), (84, .st (.pair (.int .i64) (.pair (.slice (.str)) (.slice (.str))))), (85, .st (.pair (.int .i64) (.pair (.slice (.str)) (.slice (.str))))), (95, .slice (.st (.pair (.int .i64) (.str)))), (97, .st (.pair (.slice (.str)) (.pair (.slice (.str)) (.pair (.slice (.str)) (.slice (.str)))))), (108, .int .u64), (109, .st (.pair (.int .i64) (.str))), (110, .st (.pair (.int .i64) (.str))), (111, .slice (.slice (.int .i64))), (113, .st (.pair (.slice (.str)) (.slice (.str)))), (115, .int .i64), (123, .int .u32), (125, .int .u64), (126, .int .u64), (142, .int .u8), (143, .int .u8), (146, .int .i32), (147, .int .i32)]
def tyl (t : Nat) : Option Ty := lk tylist t
theorem tyl_ok : ∀ t y, tyl t = some y → ∃ i, tl t = some i ∧ TyOk Try.prog t i y := by
  intro t y h
  exact lk_all (Q := fun t y => ∃ i, tl t = some i ∧ TyOk Try.prog t i y) tylist
    ⟨⟨ti2, rfl, ty2_ok⟩, ⟨ti3, rfl, ty3_ok⟩, ⟨ti4, rfl, ty4_ok⟩, ⟨ti5, rfl, ty5_ok⟩, ⟨ti6, rfl, ty6_ok⟩, ⟨ti7, rfl, ty7_ok⟩, ⟨ti8, rfl, ty8_ok⟩, ⟨ti9, rfl, ty9_ok⟩, ⟨ti10, rfl, ty10_ok⟩, ⟨ti11, rfl, ty11_ok⟩, ⟨ti12, rfl, ty12_ok⟩, ⟨ti13, rfl, ty13_ok⟩, ⟨ti14, rfl, ty14_ok⟩, ⟨ti21, rfl, ty21_ok⟩, ⟨ti22, rfl, ty22_ok⟩, ⟨ti23, rfl, ty23_ok⟩, ⟨ti24, rfl, ty24_ok⟩, ⟨ti25, rfl, ty25_ok⟩, ⟨ti37, rfl, ty37_ok⟩, ⟨ti39, rfl, ty39_ok⟩, ⟨ti40, rfl, ty40_ok⟩, ⟨ti42, rfl, ty42_ok⟩, ⟨ti43, rfl, ty43_ok⟩, ⟨ti44, rfl, ty44_ok⟩, ⟨ti52, rfl, ty52_ok⟩, ⟨ti53, rfl, ty53_ok⟩, ⟨ti54, rfl, ty54_ok⟩, ⟨ti56, rfl, ty56_ok⟩, ⟨ti57, rfl, ty57_ok⟩, ⟨ti72, rfl, ty72_ok⟩, ⟨ti73, rfl, ty73_ok⟩, ⟨ti84, rfl, ty84_ok⟩, ⟨ti85, rfl, ty85_ok⟩, ⟨ti95, rfl, ty95_ok⟩, ⟨ti97, rfl, ty97_ok⟩, ⟨ti108, rfl, ty108_ok⟩, ⟨ti109, rfl, ty109_ok⟩, ⟨ti110, rfl, ty110_ok⟩, ⟨ti111, rfl, ty111_ok⟩, ⟨ti113, rfl, ty113_ok⟩, ⟨ti115, rfl, ty115_ok⟩, ⟨ti123, rfl, ty123_ok⟩, ⟨ti125, rfl, ty125_ok⟩, ⟨ti126, rfl, ty126_ok⟩, ⟨ti142, rfl, ty142_ok⟩, ⟨ti143, rfl, ty143_ok⟩, ⟨ti146, rfl, ty146_ok⟩, ⟨ti147, rfl, ty147_ok⟩, True.intro⟩ t y h
theorem tl_1 : tl 1 = some ti1 := rfl
theorem tl_2 : tl 2 = some ti2 := rfl
theorem tl_3 : tl 3 = some ti3 := rfl
theorem tl_4 : tl 4 = some ti4 := rfl
theorem tl_5 : tl 5 = some ti5 := rfl
theorem tl_6 : tl 6 = some ti6 := rfl
theorem tl_7 : tl 7 = some ti7 := rfl
theorem tl_8 : tl 8 = some ti8 := rfl
theorem tl_9 : tl 9 = some ti9 := rfl
theorem tl_10 : tl 10 = some ti10 := rfl
theorem tl_11 : tl 11 = some ti11 := rfl
theorem tl_12 : tl 12 = some ti12 := rfl
theorem tl_13 : tl 13 = some ti13 := rfl
theorem tl_14 : tl 14 = some ti14 := rfl
theorem tl_15 : tl 15 = some ti15 := rfl
theorem tl_16 : tl 16 = some ti16 := rfl
theorem tl_17 : tl 17 = some ti17 := rfl
theorem tl_18 : tl 18 = some ti18 := rfl
theorem tl_19 : tl 19 = some ti19 := rfl
theorem tl_21 : tl 21 = some ti21 := rfl
theorem tl_22 : tl 22 = some ti22 := rfl
theorem tl_23 : tl 23 = some ti23 := rfl
theorem tl_24 : tl 24 = some ti24 := rfl
theorem tl_25 : tl 25 = some ti25 := rfl
theorem tl_27 : tl 27 = some ti27 := rfl
theorem tl_28 : tl 28 = some ti28 := rfl
theorem tl_29 : tl 29 = some ti29 := rfl
theorem tl_30 : tl 30 = some ti30 := rfl
theorem tl_31 : tl 31 = some ti31 := rfl
theorem tl_33 : tl 33 = some ti33 := rfl
theorem tl_34 : tl 34 = some ti34 := rfl
theorem tl_36 : tl 36 = some ti36 := rfl
theorem tl_37 : tl 37 = some ti37 := rfl
theorem tl_38 : tl 38 = some ti38 := rfl
theorem tl_39 : tl 39 = some ti39 := rfl
theorem tl_40 : tl 40 = some ti40 := rfl
theorem tl_41 : tl 41 = some ti41 := rfl
theorem tl_42 : tl 42 = some ti42 := rfl
theorem tl_43 : tl 43 = some ti43 := rfl
theorem tl_44 : tl 44 = some ti44 := rfl
theorem tl_46 : tl 46 = some ti46 := rfl
theorem tl_48 : tl 48 = some ti48 := rfl
theorem tl_49 : tl 49 = some ti49 := rfl
theorem tl_50 : tl 50 = some ti50 := rfl
theorem tl_51 : tl 51 = some ti51 := rfl
theorem tl_52 : tl 52 = some ti52 := rfl
theorem tl_53 : tl 53 = some ti53 := rfl
theorem tl_54 : tl 54 = some ti54 := rfl
theorem tl_55 : tl 55 = some ti55 := rfl
theorem tl_56 : tl 56 = some ti56 := rfl
theorem tl_57 : tl 57 = some ti57 := rfl
theorem tl_58 : tl 58 = some ti58 := rfl
theorem tl_59 : tl 59 = some ti59 := rfl
theorem tl_60 : tl 60 = some ti60 := rfl
theorem tl_61 : tl 61 = some ti61 := rfl
theorem tl_62 : tl 62 = some ti62 := rfl
theorem tl_63 : tl 63 = some ti63 := rfl
theorem tl_64 : tl 64 = some ti64 := rfl
theorem tl_65 : tl 65 = some ti65 := rfl
theorem tl_66 : tl 66 = some ti66 := rfl
theorem tl_68 : tl 68 = some ti68 := rfl
theorem tl_69 : tl 69 = some ti69 := rfl
theorem tl_70 : tl 70 = some ti70 := rfl
theorem tl_71 : tl 71 = some ti71 := rfl
theorem tl_72 : tl 72 = some ti72 := rfl
theorem tl_73 : tl 73 = some ti73 := rfl
theorem tl_74 : tl 74 = some ti74 := rfl
theorem tl_75 : tl 75 = some ti75 := rfl
theorem tl_76 : tl 76 = some ti76 := rfl
theorem tl_77 : tl 77 = some ti77 := rfl
theorem tl_78 : tl 78 = some ti78 := rfl
theorem tl_79 : tl 79 = some ti79 := rfl
theorem tl_80 : tl 80 = some ti80 := rfl
theorem tl_81 : tl 81 = some ti81 := rfl
theorem tl_82 : tl 82 = some ti82 := rfl
theorem tl_83 : tl 83 = some ti83 := rfl
theorem tl_84 : tl 84 = some ti84 := rfl
theorem tl_85 : tl 85 = some ti85 := rfl
theorem tl_86 : tl 86 = some ti86 := rfl
theorem tl_87 : tl 87 = some ti87 := rfl
theorem tl_88 : tl 88 = some ti88 := rfl
theorem tl_89 : tl 89 = some ti89 := rfl
theorem tl_90 : tl 90 = some ti90 := rfl
theorem tl_91 : tl 91 = some ti91 := rfl
theorem tl_92 : tl 92 = some ti92 := rfl
theorem tl_93 : tl 93 = some ti93 := rfl
theorem tl_94 : tl 94 = some ti94 := rfl
theorem tl_95 : tl 95 = some ti95 := rfl
theorem tl_96 : tl 96 = some ti96 := rfl
theorem tl_97 : tl 97 = some ti97 := rfl
theorem tl_98 : tl 98 = some ti98 := rfl
theorem tl_99 : tl 99 = some ti99 := rfl
theorem tl_100 : tl 100 = some ti100 := rfl
theorem tl_101 : tl 101 = some ti101 := rfl
theorem tl_102 : tl 102 = some ti102 := rfl
theorem tl_103 : tl 103 = some ti103 := rfl
theorem tl_104 : tl 104 = some ti104 := rfl
theorem tl_105 : tl 105 = some ti105 := rfl
theorem tl_106 : tl 106 = some ti106 := rfl
theorem tl_107 : tl 107 = some ti107 := rfl
theorem tl_108 : tl 108 = some ti108 := rfl
theorem tl_109 : tl 109 = some ti109 := rfl
theorem tl_110 : tl 110 = some ti110 := rfl
theorem tl_111 : tl 111 = some ti111 := rfl
theorem tl_112 : tl 112 = some ti112 := rfl
theorem tl_113 : tl 113 = some ti113 := rfl
theorem tl_114 : tl 114 = some ti114 := rfl
theorem tl_115 : tl 115 = some ti115 := rfl
theorem tl_117 : tl 117 = some ti117 := rfl
theorem tl_118 : tl 118 = some ti118 := rfl
theorem tl_119 : tl 119 = some ti119 := rfl
theorem tl_121 : tl 121 = some ti121 := rfl
theorem tl_122 : tl 122 = some ti122 := rfl
theorem tl_123 : tl 123 = some ti123 := rfl
theorem tl_124 : tl 124 = some ti124 := rfl
theorem tl_125 : tl 125 = some ti125 := rfl
theorem tl_126 : tl 126 = some ti126 := rfl
theorem tl_127 : tl 127 = some ti127 := rfl
theorem tl_128 : tl 128 = some ti128 := rfl
theorem tl_129 : tl 129 = some ti129 := rfl
theorem tl_130 : tl 130 = some ti130 := rfl
theorem tl_131 : tl 131 = some ti131 := rfl
theorem tl_132 : tl 132 = some ti132 := rfl
theorem tl_134 : tl 134 = some ti134 := rfl
theorem tl_135 : tl 135 = some ti135 := rfl
theorem tl_136 : tl 136 = some ti136 := rfl
theorem tl_137 : tl 137 = some ti137 := rfl
theorem tl_141 : tl 141 = some ti141 := rfl
theorem tl_142 : tl 142 = some ti142 := rfl
theorem tl_143 : tl 143 = some ti143 := rfl
theorem tl_144 : tl 144 = some ti144 := rfl
theorem tl_145 : tl 145 = some ti145 := rfl
theorem tl_146 : tl 146 = some ti146 := rfl
theorem tl_147 : tl 147 = some ti147 := rfl
theorem tl_148 : tl 148 = some ti148 := rfl
theorem tl_149 : tl 149 = some ti149 := rfl
theorem tyl_2 : tyl 2 = some ty2 := rfl
theorem tyl_3 : tyl 3 = some ty3 := rfl
theorem tyl_4 : tyl 4 = some ty4 := rfl
theorem tyl_5 : tyl 5 = some ty5 := rfl
theorem tyl_6 : tyl 6 = some ty6 := rfl
theorem tyl_7 : tyl 7 = some ty7 := rfl
theorem tyl_8 : tyl 8 = some ty8 := rfl
theorem tyl_9 : tyl 9 = some ty9 := rfl
theorem tyl_10 : tyl 10 = some ty10 := rfl
theorem tyl_11 : tyl 11 = some ty11 := rfl
theorem tyl_12 : tyl 12 = some ty12 := rfl
theorem tyl_13 : tyl 13 = some ty13 := rfl
theorem tyl_14 : tyl 14 = some ty14 := rfl
theorem tyl_21 : tyl 21 = some ty21 := rfl
theorem tyl_22 : tyl 22 = some ty22 := rfl
theorem tyl_23 : tyl 23 = some ty23 := rfl
theorem tyl_24 : tyl 24 = some ty24 := rfl
theorem tyl_25 : tyl 25 = some ty25 := rfl
theorem tyl_37 : tyl 37 = some ty37 := rfl
theorem tyl_39 : tyl 39 = some ty39 := rfl
theorem tyl_40 : tyl 40 = some ty40 := rfl
theorem tyl_42 : tyl 42 = some ty42 := rfl
theorem tyl_43 : tyl 43 = some ty43 := rfl
theorem tyl_44 : tyl 44 = some ty44 := rfl
theorem tyl_52 : tyl 52 = some ty52 := rfl
theorem tyl_53 : tyl 53 = some ty53 := rfl
theorem tyl_54 : tyl 54 = some ty54 := rfl
theorem tyl_56 : tyl 56 = some ty56 := rfl
theorem tyl_57 : tyl 57 = some ty57 := rfl
theorem tyl_72 : tyl 72 = some ty72 := rfl
theorem tyl_73 : tyl 73 = some ty73 := rfl
theorem tyl_84 : tyl 84 = some ty84 := rfl
theorem tyl_85 : tyl 85 = some ty85 := rfl
theorem tyl_95 : tyl 95 = some ty95 := rfl
theorem tyl_97 : tyl 97 = some ty97 := rfl
theorem tyl_108 : tyl 108 = some ty108 := rfl
theorem tyl_109 : tyl 109 = some ty109 := rfl
theorem tyl_110 : tyl 110 = some ty110 := rfl
theorem tyl_111 : tyl 111 = some ty111 := rfl
theorem tyl_113 : tyl 113 = some ty113 := rfl
theorem tyl_115 : tyl 115 = some ty115 := rfl
theorem tyl_123 : tyl 123 = some ty123 := rfl
theorem tyl_125 : tyl 125 = some ty125 := rfl
theorem tyl_126 : tyl 126 = some ty126 := rfl
theorem tyl_142 : tyl 142 = some ty142 := rfl
theorem tyl_143 : tyl 143 = some ty143 := rfl
theorem tyl_146 : tyl 146 = some ty146 := rfl
theorem tyl_147 : tyl 147 = some ty147 := rfl
def env1 (sp : List (FuncId × SpecF)) (eq : List (TypeId × Bool)) (inl : List (FuncId × Func)) (cl : List Nat := []) : Env := { nb := 0, tl := tl, ty := tyl, sp := lk sp, eq := fun t => (lk eq t).getD false, inl := lk inl, cl := fun d => cl.any (Nat.beq d) }
def env0 (sp : List (FuncId × SpecF)) (eq : List (TypeId × Bool)) : Env := env1 sp eq []
structure SpFact (f : FuncId) (s : SpecF) : Prop where
  fn : ∃ fn, Try.prog.funcs[f]? = some fn ∧ fn.body.isSome = true ∧ (fn.name == "runtime.NumGoroutine") = false ∧ SpecOk Try.prog f s
  loc : SpLoc s
def allSp : List (FuncId × SpecF) → Prop
  | [] => True
  | p :: l => SpFact p.1 p.2 ∧ allSp l
theorem allSp_mem : ∀ {l : List (FuncId × SpecF)}, allSp l → ∀ p ∈ l, SpFact p.1 p.2
  | p :: l, h, q, hq => by
    rcases List.mem_cons.1 hq with e | e
    · subst e; exact h.1
    · exact allSp_mem h.2 q e
def allEq : List (TypeId × Bool) → Prop
  | [] => True
  | p :: l => Eq2 Try.prog p.1 ∧ allEq l
theorem allEq_mem : ∀ {l : List (TypeId × Bool)}, allEq l → ∀ p ∈ l, Eq2 Try.prog p.1
  | p :: l, h, q, hq => by
    rcases List.mem_cons.1 hq with e | e
    · subst e; exact h.1
    · exact allEq_mem h.2 q e
def InlFact (f : FuncId) (fn : Func) : Prop := Try.prog.funcs[f]? = some fn ∧ fn.body.isSome = true ∧ (fn.name == "runtime.NumGoroutine") = false
def allInl : List (FuncId × Func) → Prop
  | [] => True
  | p :: l => InlFact p.1 p.2 ∧ allInl l
theorem allInl_mem : ∀ {l : List (FuncId × Func)}, allInl l → ∀ p ∈ l, InlFact p.1 p.2
  | p :: l, h, q, hq => by
    rcases List.mem_cons.1 hq with e | e
    · subst e; exact h.1
    · exact allInl_mem h.2 q e
theorem env1_fine {sp : List (FuncId × SpecF)} {eq : List (TypeId × Bool)} {inl : List (FuncId × Func)} {cl : List Nat} (h1 : allSp sp) (h2 : allEq eq) (h3 : allInl inl) : (env1 sp eq inl cl).Fine Try.prog := by
  refine ⟨⟨tl_ok, tyl_ok, fun f s hs => ?_, fun t ht => ?_, fun f fn hf => ?_⟩, fun f s hs => ?_, by kernel_rfl⟩
  · exact lk_mem (Q := fun f s => SpFact f s) sp (allSp_mem h1) f s hs |>.fn
  · have ht : (lk eq t).getD false = true := ht
    cases hl : lk eq t with
    | none => rw [hl] at ht; cases ht
    | some b => exact lk_mem (Q := fun t _ => Eq2 Try.prog t) eq (allEq_mem h2) t b hl
  · exact lk_mem (Q := fun f fn => InlFact f fn) inl (allInl_mem h3) f fn hf
  · exact lk_mem (Q := fun f s => SpFact f s) sp (allSp_mem h1) f s hs |>.loc
theorem env_fine {sp : List (FuncId × SpecF)} {eq : List (TypeId × Bool)} (h1 : allSp sp) (h2 : allEq eq) : (env0 sp eq).Fine Try.prog := env1_fine h1 h2 True.intro
end Go.Proofs.Ytppmhjaooiameaa
