/- Net: what every statement's text wants. -/
import Derived.Test.YtfmjmjppkdaanaaLaw
import Derived.Test.YtfmjmjppkdaanaaProg
import Derived.SizedLaws
import Derived.OpenShut
import Derived.ChangeSlices
import Derived.ProofKit
import Derived.WalkKit
namespace Go.Proofs.Ytfmjmjppkdaanaa

theorem own : ownKnob Try.prog.godebug = none := by kernel_rfl
end Go.Proofs.Ytfmjmjppkdaanaa
