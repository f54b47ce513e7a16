/- The engine over this seat's program. -/
import Derived.Test.YthnejkbldfcpiaaZz19
import Derived.Test.YthnejkbldfcpiaaChecked
namespace Go.Eng
open Go
def bodyOf (f : Func) : Code := f.body.getD .skip
end Go.Eng
