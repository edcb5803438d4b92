/- Small ones: byDot, and the bounds of nothing. -/
import Derived.Test.YtjngckeeoohegaaDoorRefLoad
namespace Go.Proofs.YtjngckeeoohegaaDoor
open Go.RowKit Go.Rel Go.Shelf

set_option maxRecDepth 100000 in
set_option maxHeartbeats 1000000 in
theorem great_nil (w : World) : Calls Tryd.prog 8 #[.slice none 0 0, .slice none 0 0] w fun e w' => e = .returned (.int .i64 0) ∧ w = w' := by
  go_enter Tryd.func8, Tryd.ntmps8
  go_wp2
  go_loop [5] (fun i => i = .int .i64 0) (fun _ => 0)
  case atStart => rfl
  case round =>
    subst hrel
    go_wp2
    go_ret
    exact ⟨rfl, rfl⟩

set_option maxRecDepth 100000 in
set_option maxHeartbeats 1000000 in
theorem byDot_any (x y : Rec) (w : World) : Ret Tryd.prog 9 #[recV x, recV y] w fun v _ => v = .int .i64 (dotCmp x.site x.cnt y.site y.cnt) := by
  unfold Ret recV
  go_enter Tryd.func9, Tryd.ntmps9
  go_wp2_with fail
  refine Calls.mono (dotCompare_any x.site x.cnt y.site y.cnt _) ?_
  rintro e w' ⟨v, rfl, hg, rfl⟩
  go_wp2
  go_ret
  exact RetP.mk ((((Gr.refl w).alloc _).alloc _).trans hg) rfl

end Go.Proofs.YtjngckeeoohegaaDoor
