/-
Contracts of wire.Most and stream.Cost, at streams that can be.
Conditions: as each theorem states them.
-/
import Derived.Test.YtkbninfdehppiaaDoorB5
import Derived.Test.YtkbninfdehppiaaDoorD2
namespace Go.Proofs.YtkbninfdehppiaaDoor
open Go Go.Proofs Go.RowKit Go.Shelf

def mostI (k : Nat) : Int := ((54 + 8 * k : Nat) : Int) + (((54 + 8 * k : Nat) : Int) - 1) / 4 + 10

theorem most_any (k : Nat) (w : World) (hk : k ≤ 8) (hd : Div w) :
    Calls Tryd.prog 28 #[.bool true, .int .i64 (k : Int)] w fun e w' => e = .returned (.int .i64 (mostI k)) ∧ Below w.heap.size w w' := by
  have HD := Lib.hid hd
  clear hd
  go_enter Tryd.func28, Tryd.ntmps28
  go_wp2_with (first
    | (go_at_call 44; refine (body_any k _ hk (HD.out.below ((Below.refl _ _).alloc (Nat.le_refl _) _))).mono ?_; rintro e w1 ⟨⟨a1, c1, rfl⟩, hb⟩)
    | (go_at_call 43; refine (stuffMost_any _ _ (by omega) (by omega)).mono ?_; rintro e w2 ⟨rfl, rfl⟩))
  go_ret
  exact ⟨by unfold mostI; rfl, ((Below.refl _ _).alloc (Nat.le_refl _) _).trans (hb.mono (by simp))⟩

/-- How many bits a stream's frame takes at most, with the pause behind it. -/
def costI (s : Str) : Int := mostI s.byt.toNat + 3

theorem cost_any (s : Str) (w : World) (h : s.ok) (hd : Div w) :
    Calls Tryd.prog 16 #[s.val] w fun e w' => e = .returned (.int .i64 (costI s)) ∧ Below w.heap.size w w' := by
  have hcon := Lib.hid (fun w => right_ok s w h)
  obtain ⟨id, node, cls, per, dl, slot, byt⟩ := s
  have b0 := h.byt0
  have b1 := h.byt1
  dsimp only at b0 b1
  obtain ⟨k, rfl⟩ : ∃ k : Nat, byt = k := ⟨byt.toNat, by omega⟩
  have hk : k ≤ 8 := by omega
  have HM := Lib.hid (fun w hd => most_any k w hk hd)
  have hm0 : 0 ≤ mostI k ∧ mostI k ≤ 1000 := by unfold mostI; omega
  obtain ⟨m0, m1⟩ := hm0
  generalize hmk : mostI k = m at *
  have HMK := Lib.hid hmk
  clear hmk
  have HD := Lib.hid hd
  clear hd h
  go_enter Tryd.func16, Tryd.ntmps16
  go_wp2_with (first
    | (go_at_call 27; refine (hcon.out _).mono ?_; rintro e w1 ⟨rfl, hb⟩; obtain ⟨g1, g2⟩ := bcell hb; have gs : w.heap.size < w1.heap.size := by (have := hb.size; simp at this; omega))
    | (go_at_call 28; refine (HM.out _ (HD.out.below (((Below.refl _ _).alloc (Nat.le_refl _) _).trans (hb.mono (by simp))))).mono ?_; rintro e w2 ⟨rfl, hb2⟩))
  go_ret
  exact ⟨by unfold costI; rw [show (Str.byt ⟨id, node, cls, per, dl, slot, (k : Int)⟩).toNat = k from Int.toNat_natCast k, HMK.out]; rfl, (((Below.refl _ _).alloc (Nat.le_refl _) _).trans (hb.mono (by simp))).trans (hb2.mono (by omega))⟩
end Go.Proofs.YtkbninfdehppiaaDoor
