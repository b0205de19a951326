/-
Contracts of demand.right, jobs, due and its iterator, and of the law's own helpers, at streams that can be.
Conditions: as each theorem states them.
-/
import Derived.Test.YtkbninfdehppiaaDoorC4
import Derived.Test.YtkbninfdehppiaaDoorA3
namespace Go.Proofs.YtkbninfdehppiaaDoor
open Go Go.Proofs Go.RowKit Go.Shelf

attribute [local go_sem] Oper.semAt_some

theorem drRight_ok (v : Value) (ss : List Str) (len : Int) (w : World) (h : Checks ss len) (hr : RdS w v ss) :
    Calls Tryd.prog 12 #[v, .int .i64 len] w fun e w' => e = .returned (.bool true) ∧ Below w.heap.size w w' := by
  have hcon := Lib.hid (check_ok v ss len w h hr)
  obtain ⟨a, cap, rfl⟩ := hr.slice
  clear h hr
  go_enter Tryd.func12, Tryd.ntmps12
  go_wp2_with (go_at_call 19; refine hcon.out.mono ?_; rintro e w1 ⟨rfl, hb⟩)
  go_ret
  exact ⟨rfl, hb⟩

end Go.Proofs.YtkbninfdehppiaaDoor
