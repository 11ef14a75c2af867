import Derived.Test.YtdmaganalpamlaaGE
set_option linter.unusedSimpArgs false
set_option linter.unusedVariables false
namespace Go.Proofs.Ytdmaganalpamlaa
open Go Go.Hm

end Go.Proofs.Ytdmaganalpamlaa
