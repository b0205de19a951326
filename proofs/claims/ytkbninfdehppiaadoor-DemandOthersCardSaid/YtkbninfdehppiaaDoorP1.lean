/-
The plain law of DemandOthers: no program in sight.
Conditions: as each theorem states them.
-/
import Derived.Test.YtkbninfdehppiaaDoorD8
import Derived.Test.YtkbninfdehppiaaDoorD6
namespace Go.Proofs.YtkbninfdehppiaaDoor
open Go Go.Proofs Go.RowKit

theorem edf_edf (ss : List Str) : edf (edf ss) = edf ss := by simp [edf, List.filter_filter]

theorem foldl_max_filter (ss : List Str) : ∀ a b : Int, a ≤ b → ((edf ss).map costI).foldl max a ≤ (ss.map costI).foldl max b := by
  induction ss with
  | nil => intro a b h; exact h
  | cons s r ih =>
    intro a b h
    by_cases hc : s.cls = 1
    · have e : edf (s :: r) = s :: edf r := by simp [edf, hc]
      rw [e, List.map_cons, List.map_cons, List.foldl_cons, List.foldl_cons]
      exact ih _ _ (by omega)
    · have e : edf (s :: r) = edf r := by simp [edf, hc]
      rw [e, List.map_cons, List.foldl_cons]
      exact ih _ _ (by omega)
theorem blkI_edf (ss : List Str) : blkI (edf ss) ≤ blkI ss := foldl_max_filter ss 0 0 (Int.le_refl _)

theorem Checks.of {ss : List Str} {len : Int} (h1 : ss.length ≤ 64) (h2 : ∀ s ∈ ss, s.ok) (h3 : ss.Pairwise (fun a b => a.id ≠ b.id)) (h4 : 1 ≤ len) (h5 : len ≤ 100) (h6 : ∀ s ∈ ss, 100 ≤ s.dl) : Checks ss len where
  many := h1
  ok := fun i hi => h2 _ (List.getElem_mem hi)
  one := fun i hi j hj => List.pairwise_iff_getElem.1 h3 j i (by omega) hi hj
  len0 := h4
  len1 := by omega
  over := fun i hi _ => by have := h6 _ (List.getElem_mem hi); omega

theorem fewK_mem (ls : List Str) (k : Nat) (hk : k ≤ 6) : ∀ s ∈ fewK ls k, s.ok ∧ 100 ≤ s.dl := by
  intro s hs
  obtain ⟨i, hi, rfl⟩ := List.mem_map.1 hs
  have := List.mem_range.1 hi
  exact streamI_ok _ _ (by omega) (by omega)
theorem fewK_pair (ls : List Str) (k : Nat) : (fewK ls k).Pairwise (fun a b => a.id ≠ b.id) := by
  unfold fewK
  rw [List.pairwise_map]
  refine List.Pairwise.imp ?_ List.nodup_range
  intro a b h
  show ((a : Int)) ≠ (b : Int)
  omega
theorem few_checks (ls : List Str) (k : Nat) (hk : k ≤ 6) (len : Int) (h4 : 1 ≤ len) (h5 : len ≤ 100) : Checks (fewK ls k) len :=
  Checks.of (by rw [fewK_len]; omega) (fun s hs => (fewK_mem ls k hk s hs).1) (fewK_pair ls k) h4 h5 (fun s hs => (fewK_mem ls k hk s hs).2)
theorem edf_checks (ls : List Str) (k : Nat) (hk : k ≤ 6) (len : Int) (h4 : 1 ≤ len) (h5 : len ≤ 100) : Checks (edf (fewK ls k)) len :=
  Checks.of (Nat.le_trans (List.length_filter_le _ _) (by rw [fewK_len]; omega)) (fun s hs => (fewK_mem ls k hk s (List.mem_filter.1 hs).1).1) ((fewK_pair ls k).filter _) h4 h5 (fun s hs => (fewK_mem ls k hk s (List.mem_filter.1 hs).1).2)

/-- live's two streams. -/
def liveL : Str := ⟨1, 0, 1, 2000, 1000, 0, 8⟩
def liveM : Str := ⟨1, 0, 1, 2000, 200, 0, 8⟩
theorem live_vals : blkI [liveL] = 160 ∧ sumI 1000 1 (edf [liveL]) = 160 ∧ sumI 999 1 (edf [liveL]) = 0 ∧ sumI 3000 1 (edf [liveL]) = 320 ∧ loadI (edf [liveL]) = 80000 ∧
    sumI 5000 1 (edf [liveL]) = 480 ∧ sumI 200 1 (edf [liveM]) = 160 ∧ blkI [liveM] = 160 := by decide
end Go.Proofs.YtkbninfdehppiaaDoor
