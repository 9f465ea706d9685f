import Derived.Test.YtbdfmjgndeigpaaDoorPureKeyPrefix
import Derived.KernelRfl
import Derived.Test.YtbdfmjgndeigpaaDoorPx15
namespace Go.Proofs.YtbdfmjgndeigpaaDoor.Pure
open Go.RowKit Go.Proofs.YtbdfmjgndeigpaaDoor.P Go.Proofs.YtbdfmjgndeigpaaDoorW.PrintWords Go.Proofs.YtbdfmjgndeigpaaDoorW.PrintLast Go.Proofs.YtbdfmjgndeigpaaDoorW.PrintMore
theorem lives_60 : w21_lives.f 60 = some true := by kernel_rfl
theorem lives_f : Ev (fun k => w21_lives.f k) true := Ev.mono (K := 60) (fun k => w21_lives.mono k) lives_60
end Go.Proofs.YtbdfmjgndeigpaaDoor.Pure
