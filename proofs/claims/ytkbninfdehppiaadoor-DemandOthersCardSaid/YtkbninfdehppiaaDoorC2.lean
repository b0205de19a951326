/-
Contracts of stream.Find, and of the closures of stream.Check, at streams that can be.
Conditions: as each theorem states them.
-/
import Derived.Test.YtkbninfdehppiaaDoorC1
namespace Go.Proofs.YtkbninfdehppiaaDoor
open Go Go.Proofs Go.RowKit

/-- What Find tells. -/
def Found (ss : List Str) (id : Int) (r : Int) : Prop :=
  (r = -1 ∧ ∀ j (hj : j < ss.length), ss[j].id ≠ id) ∨ ∃ (i : Nat) (hi : i < ss.length), r = i ∧ ss[i].id = id ∧ ∀ j (hj : j < i), ss[j].id ≠ id

set_option maxHeartbeats 1000000 in
theorem find_any (v : Value) (ss : List Str) (id : Int) (w : World) (hn : ss.length ≤ 1000000) (hr : RdS w v ss) :
    Calls Tryd.prog 35 #[v, .int .i64 id] w fun e w' => ∃ r : Int, e = .returned (.int .i64 r) ∧ Found ss id r ∧ Below w.heap.size w w' := by
  obtain ⟨a, cap, rfl⟩ := hr.slice
  have HR := Lib.hid hr
  clear hr
  have hcon := Lib.hid (indexFuncS _ ss id w.heap.size (w.alloc (.cells #[.int .i64 id] 3)) hn (HR.out.alloc _) (by simp) (by go_simp))
  go_enter Tryd.func35, Tryd.ntmps35
  go_wp2_with (go_at_call 48; refine hcon.out.mono ?_; rintro e w1 ⟨r, rfl, hf, hb⟩; have HF := Lib.hid hf; clear hf)
  go_ret
  exact ⟨r, rfl, HF.out, ((Below.refl _ _).alloc (Nat.le_refl _) _).trans (hb.mono (by simp))⟩

theorem wrong_false (e : Int) (w : World) :
    Calls Tryd.prog 34 #[.bool false, .int .i64 e] w fun e w' => e = .returned (.int .i64 0) ∧ w = w' := by
  go_enter Tryd.func34, Tryd.ntmps34
  go_wp2
  go_ret
  exact ⟨rfl, rfl⟩

/-- Check's first rule. -/
theorem check1_ok (i : Int) (s : Str) (w : World) (h : s.ok) :
    Calls Tryd.prog 32 #[.int .i64 i, s.val] w fun e w' => e = .returned (.int .i64 0) ∧ Below w.heap.size w w' := by
  have hcon := Lib.hid (fun w => right_ok s w h)
  obtain ⟨id, node, cls, per, dl, slot, byt⟩ := s
  clear h
  go_enter Tryd.func32, Tryd.ntmps32
  go_wp2_with (go_at_call 27; refine (hcon.out _).mono ?_; rintro e w1 ⟨rfl, hb⟩)
  go_ret
  exact ⟨rfl, ((Below.refl _ _).alloc (Nat.le_refl _) _).trans (hb.mono (by simp))⟩

/-- Check's second rule: an identifier that stands nowhere ahead. -/
theorem check2_ok (i : Nat) (v : Value) (ss : List Str) (B : Nat) (w : World) (hn : ss.length ≤ 1000000) (hi : i < ss.length) (hd : ∀ j (hj : j < i), ss[j].id ≠ ss[i].id) (hr : RdS w v ss) (hB : B < w.heap.size) (hc : w.cell? ⟨B, 0, none⟩ = some v) :
    Calls Tryd.prog 33 #[.int .i64 i, ss[i].val, .pointer (some ⟨B, 0, none⟩)] w fun e w' => e = .returned (.int .i64 0) ∧ Below w.heap.size w w' := by
  obtain ⟨a, cap, rfl⟩ := hr.slice
  generalize hsi : ss[i] = si at *
  obtain ⟨id, node, cls, per, dl, slot, byt⟩ := si
  have HR := Lib.hid hr
  have HD := Lib.hid hd
  have HSI := Lib.hid hsi
  clear hr hd hsi
  have hcon := Lib.hid (find_any _ ss id (w.alloc (.cells #[.int .i64 id, .int .i64 node, .int .i64 cls, .int .i64 per, .int .i64 dl, .int .i64 slot, .int .i64 byt] 27)) hn (HR.out.alloc _))
  go_enter Tryd.func33, Tryd.ntmps33
  go_wp2_with fail
  refine hcon.out.mono ?_
  rintro e w1 ⟨r, rfl, hf, hb⟩
  obtain rfl : r = i := by
    rcases hf with ⟨_, h⟩ | ⟨j, hj, rfl, h1, h2⟩
    · exact absurd (by rw [HSI.out]) (h i hi)
    · have : j = i := by
        by_cases hji : j < i
        · exact absurd h1 (HD.out j hji)
        · by_cases hij : i < j
          · exact absurd (by rw [HSI.out]) (h2 i hij)
          · omega
      rw [this]
  have hne : (!((i : Int) == (i : Int))) = false := by simp
  clear hf
  go_wp2_with (go_at_call 34; refine (wrong_false _ _).mono ?_; rintro e w2 ⟨rfl, rfl⟩)
  go_ret
  exact ⟨rfl, ((Below.refl _ _).alloc (Nat.le_refl _) _).trans (hb.mono (by simp))⟩

/-- Check's third rule. -/
theorem check3_ok (i : Int) (s : Str) (len : Int) (B : Nat) (w : World) (h : s.cls = 1 → len ≤ s.dl) (hB : B < w.heap.size) (hc : w.cell? ⟨B, 0, none⟩ = some (.int .i64 len)) :
    Calls Tryd.prog 36 #[.int .i64 i, s.val, .pointer (some ⟨B, 0, none⟩)] w fun e w' => e = .returned (.int .i64 0) ∧ Below w.heap.size w w' := by
  obtain ⟨id, node, cls, per, dl, slot, byt⟩ := s
  dsimp only at h
  by_cases h1 : cls = 1
  · have h2 := h h1
    subst h1
    have h3 : decide (dl < len) = false := by simp; omega
    go_enter Tryd.func36, Tryd.ntmps36
    go_wp2_with (go_at_call 34; refine (wrong_false _ _).mono ?_; rintro e w2 ⟨rfl, rfl⟩)
    go_ret
    exact ⟨rfl, (Below.refl _ _).alloc (Nat.le_refl _) _⟩
  · have h3 : (cls == 1) = false := by simpa using h1
    clear h h1
    go_enter Tryd.func36, Tryd.ntmps36
    go_wp2_with (go_at_call 34; refine (wrong_false _ _).mono ?_; rintro e w2 ⟨rfl, rfl⟩)
    go_ret
    exact ⟨rfl, (Below.refl _ _).alloc (Nat.le_refl _) _⟩
end Go.Proofs.YtkbninfdehppiaaDoor
