/- The program's NewDesk returns what the reference's returns, for all arguments (it has none). Conditions: none. -/
import Derived.Test.YtdleajokhhijhaaDx2
import Derived.Test.YtdleajokhhijhaaDuBase
set_option linter.unusedVariables false
set_option linter.unusedSimpArgs false
namespace Go.Proofs.Ytdleajokhhijhaa.Pure
open Go.RowKit Go.Proofs.YtdleajokhhijhaaW.PrintWords Go.Proofs.YtdleajokhhijhaaW.PrintLast Go.Proofs.Ytdleajokhhijhaa.D Go.Proofs.Ytdleajokhhijhaa.Db

theorem FnExactNewDesk : laws_FnExactNewDesk.Pure := ⟨20, by decide +kernel⟩
end Go.Proofs.Ytdleajokhhijhaa.Pure
