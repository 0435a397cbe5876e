/- SpanNobody's end: the one table that printing reads, out of the row's own laid tables. -/
import Derived.Test.YteeijjhgdplifaaDoorVz
import Derived.Test.YteeijjhgdplifaaDoorS5
namespace Go.Proofs.YteeijjhgdplifaaDoor
open Go.RowKit Go.ChangeShapes Go.WideShapes Go.ChangeAt Go.Deep

set_option maxRecDepth 100000 in
theorem gt_of {W : World} (hL : laidMetH Tryd.prog Rows.spanNobodyRow.laid W) : GT W := by
  rw [MakeChecks.laidMetH_plain _ _ _ (by kernel_rfl)] at hL
  obtain ⟨rest, h3⟩ : ∃ rest, laidMet Tryd.prog (("internal/strconv.uint64pow10", Lib.tabData .u64 Lib.pow10Tab) :: rest) W := ⟨_, by rw [← pow10_eq]; exact hL.tail.tail⟩
  exact ⟨Lib.tabIs_of_head (g := 3) (n := 20) (by kernel_rfl) (t := 160) (by kernel_rfl) Tryd.underlying160 Tryd.underlying126 (by kernel_rfl) (by kernel_rfl) h3⟩
end Go.Proofs.YteeijjhgdplifaaDoor
