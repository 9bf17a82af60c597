/-
  What is proved here: nothing; the package-level variable that this seat's walk reads, with its cells (internal/strconv.uint64pow10). A text to be imported.
-/
import Derived.WalkKit
namespace Sm
open Go
def laidPow : List Int := [1, 10, 100, 1000, 10000, 100000, 1000000, 10000000, 100000000, 1000000000, 10000000000, 100000000000, 1000000000000, 10000000000000, 100000000000000, 1000000000000000, 10000000000000000, 100000000000000000, 1000000000000000000, 10000000000000000000]
def laidT : Nat → Option (List Value)
  | 0 => some (laidPow.map (Value.int .u64))
  | _ => none
end Sm
