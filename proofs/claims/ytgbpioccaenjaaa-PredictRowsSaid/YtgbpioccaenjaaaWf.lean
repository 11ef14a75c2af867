import Derived.Test.YtgbpioccaenjaaaGW
set_option linter.unusedSimpArgs false
set_option linter.unusedVariables false
namespace Go.Proofs.Ytgbpioccaenjaaa
open Go Go.Hm

end Go.Proofs.Ytgbpioccaenjaaa
