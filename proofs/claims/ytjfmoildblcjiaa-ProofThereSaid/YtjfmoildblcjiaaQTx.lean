-- Made for this seat by wip/pr.py: the kit's printer, run with functions that were proved by hand.
import Derived.Test.YtjfmoildblcjiaaQTx0
import Derived.Test.YtjfmoildblcjiaaQTx1
namespace Go.Proofs.Ytjfmoildblcjiaa.QT
open Go.Proofs.Ytjfmoildblcjiaa.QK (S39 z39 k39 k39_open k39_openM k39_mk k39_mkM rd_T39 at_T39)
open Go.Proofs.Ytjfmoildblcjiaa.Orc Go.RowKit Go.Proofs.YtjfmoildblcjiaaW.PrintWords Go.Proofs.YtjfmoildblcjiaaW.PrintLast Go.Proofs.YtjfmoildblcjiaaW.PrintMore
attribute [local go_sem] max2_int min2_int max_two min_two max_three min_three max_four min_four   -- for this text's walks alone
set_option linter.unusedVariables false
set_option linter.unusedSimpArgs false

end Go.Proofs.Ytjfmoildblcjiaa.QT
