import Derived.Test.YtbnakfpdmiibdaaAEDraw9
import Derived.Test.YtbnakfpdmiibdaaAELaw
namespace Go.AE
theorem ev_loud {E : Env} (T : TabOk E) (hQ : E.quiets = false) (n : Nat) : SelfOk E (ev E n) := ev_ok T (fun _ S => draw_ok T S) (fun _ _ => quietOk_off hQ) n
end Go.AE
