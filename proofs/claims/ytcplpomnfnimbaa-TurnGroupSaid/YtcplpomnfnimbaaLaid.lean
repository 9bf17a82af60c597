/-
  What is proved here: nothing; the package-level variables that a seat's rows list, with their cells: here there are none. A text to be imported.
-/
import Derived.WalkKit
namespace Sm
open Go
def laidT : Nat → Option (List Value) := fun _ => none
end Sm
