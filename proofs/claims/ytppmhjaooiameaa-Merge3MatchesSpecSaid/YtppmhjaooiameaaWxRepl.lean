/- The walk of replaced, and the law of the involution. -/
import Derived.Test.YtppmhjaooiameaaWxApply
namespace Go.Proofs.Ytppmhjaooiameaa
open Go.RowKit
set_option maxRecDepth 10000
set_option linter.unusedSimpArgs false

def bA : ByteArray := ⟨#[97]⟩
def bB : ByteArray := ⟨#[98]⟩
def bC' : ByteArray := ⟨#[99]⟩
def bD : ByteArray := ⟨#[100]⟩
theorem rep1 : (apF [(1, [⟨#[98]⟩], [⟨#[99]⟩, ⟨#[100]⟩])] [⟨#[97]⟩, ⟨#[98]⟩]).1 = 0 := by decide +kernel
theorem rep2 : ivC [(1, [⟨#[98]⟩], [⟨#[99]⟩, ⟨#[100]⟩])] = 0 := by decide +kernel
theorem rep3 : apL [(1, [⟨#[98]⟩], [⟨#[99]⟩, ⟨#[100]⟩])] [⟨#[97]⟩, ⟨#[98]⟩] = [⟨#[97]⟩, ⟨#[99]⟩, ⟨#[100]⟩] := by decide +kernel
theorem rep4 : ivP [(1, [⟨#[98]⟩], [⟨#[99]⟩, ⟨#[100]⟩])] = [(1, [⟨#[99]⟩, ⟨#[100]⟩], [⟨#[98]⟩])] := by decide +kernel
end Go.Proofs.Ytppmhjaooiameaa
