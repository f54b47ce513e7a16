/- The seat's masks. -/
import Derived.Test.YtkgbpnihbamceaaNum1
import Derived.Test.YtkgbpnihbamceaaChecked
namespace Go.Proofs.Ytkgbpnihbamceaa
set_option linter.unusedVariables false
set_option linter.unusedSimpArgs false
open Go Go.Eng Go.Num
set_option maxRecDepth 100000
set_option maxHeartbeats 1000000
set_option linter.unusedSimpArgs false
set_option linter.unusedVariables false
def bodyOf (f : Func) : Code := f.body.getD .skip
def mask : FuncId → Nat := fun f => match f with | 2 => 0 | 3 => 66557 | 4 => 4831839475 | 5 => 67110899 | 6 => 633835123229018746174000074739 | 7 => 3064991093150107707508424662307151045158241418191830983 | 8 => 61 | 9 => 431 | 10 => 5 | 11 => 604110879 | 12 => 138416159 | 13 => 31 | 14 => 31 | 15 => 7 | 16 => 157 | 17 => 29 | 18 => 5 | 19 => 5 | 20 => 5 | 21 => 31 | 22 => 7 | 23 => 255 | 24 => 1151 | 25 => 6297727 | 26 => 31 | 27 => 442938030551212031999 | 28 => 8959 | 29 => 7 | 30 => 39 | 31 => 2147484479 | 32 => 19816712040022917843543179263 | 33 => 95 | 34 => 4125 | 35 => 2097335 | 36 => 247 | 37 => 1 | 38 => 1050743 | 39 => 33267 | 40 => 159 | 41 => 125 | 42 => 543 | 43 => 65727 | 44 => 39 | 45 => 6442696815 | 46 => 975 | 47 => 7 | 48 => 1535 | 49 => 16371 | _ => 0
theorem hmix : Try.prog.follows .mixedOrders = true := by kernel_rfl
def cs0 : CS := noCS
theorem cs0_ok : CSOk Try.prog cs0 := noCS_ok _
end Go.Proofs.Ytkgbpnihbamceaa
