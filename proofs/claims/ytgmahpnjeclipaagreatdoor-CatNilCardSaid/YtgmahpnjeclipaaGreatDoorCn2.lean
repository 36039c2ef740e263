/- The example of layer 21 holds: the program's wakes answers true. Over the program's given form. -/
import Derived.Test.YtgmahpnjeclipaaGreatDoorCn1
namespace Go.AM.Code
open Go.Proofs
set_option maxRecDepth 1000000
def X2 : FuncId → Option XFun
  | 274 => some (xClosed [] crcTab)
  | 180 => some (xEither (xClosed catDb (.prim (.bool true))) (xClosed catLog (.prim (.bool true))))
  | f => X1 f
theorem X2_ok : AtOnceOk Tryz.prog X2 := by
  intro f x hx
  unfold X2 at hx
  split at hx
  · cases hx; exact begin_ok
  · cases hx; exact either_ok db_ok log_ok
  · exact X1_ok _ x hx
def fast2 : Callee := callK (aveq 5) X2 tab 10000 40
theorem fast2_ok : CalleeOk Tryz.prog fast2 := callK_ok orders (aveq_sound 5) X2_ok tab_ok 10000 40
theorem wakes21_came : came (.prim (.bool true)) (fast2 29 [] AHeap.empty) = true := by kernel_rfl
theorem wakes21_ok : OnceOk Tryz.prog 29 (xClosed [] (.prim (.bool true))) := closed_came fast2_ok wakes21_came rfl rfl
end Go.AM.Code
