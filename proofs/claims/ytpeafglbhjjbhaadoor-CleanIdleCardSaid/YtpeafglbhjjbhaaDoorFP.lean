/- Numbers, bit by bit. -/
import Derived.Test.YtpeafglbhjjbhaaDoorFN
namespace Go.Proofs.YtpeafglbhjjbhaaDoor
open Go Go.RowKit

/-- Short for 'rfl'. -/
theorem A {α : Sort _} {a : α} : a = a := rfl
def bAnd (k : IntKind) (x y : Int) : Int := k.wrap ((BitVec.ofInt k.bits x &&& BitVec.ofInt k.bits y).toNat : Int)
section
variable {P : Program}
theorem b_and {T : Nat} {k : IntKind} {m q s : Int} (h : bAnd k m q = s) (w : World) : (binOp .and T (.int k m) (.int k q)).run P w = .ok (.int k s) w := by
  subst h
  simp [binOp, Op.intBits, bAnd]
end
end Go.Proofs.YtpeafglbhjjbhaaDoor

