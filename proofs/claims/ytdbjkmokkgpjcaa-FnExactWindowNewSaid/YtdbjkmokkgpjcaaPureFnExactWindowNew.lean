/- Proved: the program's WindowNew returns what the reference's WindowNew returns; no condition. -/
import Derived.Test.YtdbjkmokkgpjcaaPFnExactWindowNewx1
import Derived.Test.YtdbjkmokkgpjcaaBase
namespace Go.Proofs.Ytdbjkmokkgpjcaa.Pure
open Go.RowKit Go.Proofs.Ytdbjkmokkgpjcaa.PFnExactWindowNew Go.Proofs.Ytdbjkmokkgpjcaa.Base Go.Proofs.YtdbjkmokkgpjcaaW.PrintWords Go.Proofs.YtdbjkmokkgpjcaaW.PrintLast Go.Proofs.YtdbjkmokkgpjcaaW.PrintMore
set_option linter.unusedVariables false
set_option linter.unusedSimpArgs false

theorem FnExactWindowNew : laws_FnExactWindowNew.Pure := rfl

end Go.Proofs.Ytdbjkmokkgpjcaa.Pure
