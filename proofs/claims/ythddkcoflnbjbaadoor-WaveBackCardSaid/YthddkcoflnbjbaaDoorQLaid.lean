/-
  What is proved here: nothing; the package-level variables that this seat's rows list, with their cells (math._cos, math._sin). A text to be imported.
-/
import Derived.WalkKit
namespace Sm
open Go
def laidSin : List Nat := [4460209587652500685, 13716528389658582877, 4523617212962785441, 13774824197404483331, 4575957461383575504, 13818544856648471880]
def laidCos : List Nat := [13666448263388469915, 4477121864728985349, 13732177093698800582, 4537941361668146421, 13787419979223748497, 4586165620538955083]
def laidT : Nat → Option (List Value)
  | 1 => some (laidCos.map (Value.float .f64))
  | 2 => some (laidSin.map (Value.float .f64))
  | _ => none
end Sm
