/- What is proved here: works of layer 18 as the printer's function. -/
import Derived.Test.YtjfmoildblcjiaaH16
namespace Go.Proofs.Ytjfmoildblcjiaa.Orc
open Go.RowKit
def trestlelaw18_works.f : Option Bool := some true
theorem trestlelaw18_works.calls (r : Bool) (w : World) (h : trestlelaw18_works.f = some r) : Calls Try.prog 12 #[] w fun e w' => e = .returned (.bool r) ∧ Below w.heap.size w w' := by
  obtain rfl : true = r := Option.some.inj h
  exact H16.works_any w
end Go.Proofs.Ytjfmoildblcjiaa.Orc
