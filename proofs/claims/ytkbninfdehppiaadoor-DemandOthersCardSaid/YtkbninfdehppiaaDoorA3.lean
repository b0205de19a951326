/-
Contract of exact.Div.
Conditions: as each theorem states them.
-/
import Derived.Test.YtkbninfdehppiaaDoorA1
import Derived.Outline
import Derived.WalkMore
import Derived.WalkSmall
namespace Go.Proofs.YtkbninfdehppiaaDoor
open Go Go.Proofs Go.RowKit

/-- a divided by b, rounded down. -/
theorem div_any (a b : Int) (w : World) (hb : 1 ≤ b) (ha : -4611686018427387904 ≤ a) (ha2 : a ≤ 4611686018427387904) :
    Calls Tryd.prog 39 #[.int .i64 a, .int .i64 b] w fun e w' => e = .returned (.tuple #[.int .i64 (a / b), .bool true]) ∧ w = w' := by
  by_cases h0 : 0 ≤ a
  · have h1 : 0 ≤ a % b := Int.emod_nonneg _ (by omega)
    go_enter Tryd.func39, Tryd.ntmps39
    go_wp2
    go_ret2
    exact ⟨rfl, rfl⟩
  · obtain ⟨c, rfl⟩ : ∃ c, a = -c := ⟨-a, by omega⟩
    have hc : 0 < c := by omega
    have hq : (-c).tdiv b = -(c / b) := by rw [Int.neg_tdiv, Int.tdiv_eq_ediv_of_nonneg (by omega)]
    have hm : (-c).tmod b = -(c % b) := by rw [Int.neg_tmod, Int.tmod_eq_emod_of_nonneg (by omega)]
    have hd := Int.mul_ediv_add_emod c b
    have hr0 := Int.emod_nonneg c (b := b) (by omega)
    have hr1 := Int.emod_lt_of_pos c (b := b) (by omega)
    have hle : c / b ≤ c := Int.ediv_le_self _ (by omega)
    have hge : 0 ≤ c / b := Int.ediv_nonneg (by omega) (by omega)
    by_cases hz : c % b = 0
    · have hfin : (-c) / b = -(c / b) := by
        rw [show -c = b * (-(c / b)) by rw [Int.mul_neg]; omega, Int.mul_ediv_cancel_left _ (by omega)]
      have HF := Lib.hid hfin
      have hw : wrap64 (-(c / b)) = -(c / b) := by unfold wrap64; omega
      have HH := Lib.hid hd
      clear hd hfin
      go_enter Tryd.func39, Tryd.ntmps39
      go_wp2
      go_ret2
      exact ⟨by rw [HF.out]; rfl, rfl⟩
    · have hfin : (-c) / b = -(c / b) - 1 := by
        rw [show -c = (b - c % b) + b * (-(c / b) - 1) by rw [Int.mul_sub, Int.mul_neg]; omega, Int.add_mul_ediv_left _ _ (by omega), Int.ediv_eq_zero_of_lt (by omega) (by omega)]
        omega
      have HF := Lib.hid hfin
      have HH := Lib.hid hd
      clear hd hfin
      go_enter Tryd.func39, Tryd.ntmps39
      go_wp2
      go_ret2
      exact ⟨by rw [HF.out]; rfl, rfl⟩
end Go.Proofs.YtkbninfdehppiaaDoor
