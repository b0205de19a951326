/-
Contracts of small functions that only compute with numbers: exact.Clamp, exact.Div, part, within.
Conditions: as each theorem states them.
-/
import Derived.WalkKit
import Derived.Lib.Hide
import Derived.Test.YtkbninfdehppiaaDoorProg
namespace Go.Proofs.YtkbninfdehppiaaDoor
open Go Go.Proofs Go.RowKit

theorem ret_int {k : IntKind} {a b : Int} (h : a = b) : Ending.returned (.int k a) = .returned (.int k b) := by rw [h]
theorem ret_bool {a b : Bool} (h : a = b) : Ending.returned (.bool a) = .returned (.bool b) := by rw [h]

/-- The plain function of exact.Clamp. -/
def clampI (a lo hi : Int) : Int := if a < lo then lo else if a ≤ hi then a else hi
/-- within. -/
def withinB (n most : Int) : Bool := decide (1 ≤ n) && decide (n ≤ most)
/-- part. -/
def partI (n b : Int) : Int := if n < 0 then 0 else n % b

theorem clamp_any (a lo hi : Int) (w : World) :
    Calls Tryd.prog 11 #[.int .i64 a, .int .i64 lo, .int .i64 hi] w fun e w' => e = .returned (.int .i64 (clampI a lo hi)) ∧ w = w' := by
  go_enter Tryd.func11, Tryd.ntmps11
  go_wp2
  all_goals (go_ret; exact ⟨ret_int (by unfold clampI; split <;> (try split) <;> omega), rfl⟩)

theorem within_any (n most : Int) (w : World) :
    Calls Tryd.prog 31 #[.int .i64 n, .int .i64 most] w fun e w' => e = .returned (.bool (withinB n most)) ∧ w = w' := by
  go_enter Tryd.func31, Tryd.ntmps31
  go_wp2
  all_goals (go_ret; exact ⟨ret_bool (by unfold withinB; simp; omega), rfl⟩)

theorem part_any (n b : Int) (w : World) (hb : 1 ≤ b) (hb2 : b ≤ 1000000) (hn : n ≤ 9223372036854775807) :
    Calls Tryd.prog 17 #[.int .i64 n, .int .i64 b] w fun e w' => e = .returned (.int .i64 (partI n b)) ∧ w = w' := by
  by_cases h : n < 0
  · go_enter Tryd.func17, Tryd.ntmps17
    go_wp2
    go_ret
    exact ⟨ret_int (by unfold partI; rw [if_pos h]), rfl⟩
  · have h' : 0 ≤ n := by omega
    go_enter Tryd.func17, Tryd.ntmps17
    go_wp2
    go_ret
    exact ⟨ret_int (by unfold partI; rw [if_neg (by omega)]), rfl⟩
end Go.Proofs.YtkbninfdehppiaaDoor
