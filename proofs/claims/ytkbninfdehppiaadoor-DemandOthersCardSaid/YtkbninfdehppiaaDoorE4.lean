/-
The law's live() is true.
Conditions: as each theorem states them.
-/
import Derived.Test.YtkbninfdehppiaaDoorE3
set_option linter.unusedSimpArgs false
namespace Go.Proofs.YtkbninfdehppiaaDoor
open Go Go.Proofs Go.RowKit Go.Shelf Go.Maps

theorem keysN : intKeys (growsD (edf []) 1 100) = [] := by decide +kernel
theorem keysL : intKeys (growsD (edf [liveL]) 1 5000) = [1000, 3000, 5000] := by decide +kernel
theorem keysM : intKeys (growsD (edf [liveM]) 1 1000) = [200] := by decide +kernel
theorem chkN : Checks [] 1 := Checks.of (by decide) (by simp) (by simp) (by decide) (by decide) (by simp)
theorem okL : liveL.ok := by constructor <;> decide
theorem okM : liveM.ok := by constructor <;> decide
theorem chkL : Checks [liveL] 1 := Checks.of (by decide) (fun s hs => by rw [List.mem_singleton.1 hs]; exact okL) (by simp) (by decide) (by decide) (fun s hs => by rw [List.mem_singleton.1 hs]; decide)
theorem chkM : Checks [liveM] 1 := Checks.of (by decide) (fun s hs => by rw [List.mem_singleton.1 hs]; exact okM) (by simp) (by decide) (by decide) (fun s hs => by rw [List.mem_singleton.1 hs]; decide)
theorem passN : passI (blkI []) (fun sp => sumI sp 1 (edf [])) [] = (0, true) := rfl
theorem passL : passI (blkI [liveL]) (fun sp => sumI sp 1 (edf [liveL])) [1000, 3000, 5000] = (0, true) := by decide +kernel
theorem passM : passI (blkI [liveM]) (fun sp => sumI sp 1 (edf [liveM])) [200] = (200, false) := by decide +kernel

theorem rdS1 {W : World} {s : Str} {g : Nat} (h : W.heap[g]? = some (.cells #[.int .i64 s.id, .int .i64 s.node, .int .i64 s.cls, .int .i64 s.per, .int .i64 s.dl, .int .i64 s.slot, .int .i64 s.byt] 27 (0, 0))) : RdS W (.slice (some ⟨g, 0, none⟩) 1 1) [s] := by
  refine .inr ⟨_, 0, 1, rfl, (Array.getElem?_eq_some_iff.1 h).1, by simp, fun j hj => ?_⟩
  obtain rfl : j = 0 := by simpa using hj
  refine ⟨?_, ?_, ?_, ?_, ?_, ?_, ?_⟩ <;> simp [World.cell?, h]

set_option maxRecDepth 100000 in
set_option maxHeartbeats 4000000 in
theorem live_ok (w : World) (hd : Div w) : Calls Tryd.prog 5 #[] w fun e w' => e = .returned (.bool true) ∧ Below w.heap.size w w' := by
  obtain ⟨v1, v2, v3, v4, v5, _⟩ := live_vals
  have c1 := Lib.hid (fun W (h : Div W) => passes_any (.slice none 0 0) [] 1 100 [] W chkN (by decide) (by decide) (.inl ⟨rfl, rfl⟩) h (by decide) (by decide) keysN (by decide) (by simp) (by decide))
  have c2 := Lib.hid (fun v W (hr : RdS W v [liveL]) (h : Div W) => passes_any v [liveL] 1 5000 [1000, 3000, 5000] W chkL (by decide) (by decide) hr h (by decide) (by decide) keysL (by decide) (by decide) (by decide))
  have c3 := Lib.hid (fun v W (hr : RdS W v [liveM]) (h : Div W) => passes_any v [liveM] 1 1000 [200] W chkM (by decide) (by decide) hr h (by decide) (by decide) keysM (by decide) (by decide) (by decide))
  have c4 := Lib.hid (fun v W (hr : RdS W v [liveL]) (h : Div W) => blocking_any v [liveL] W chkL.many chkL.ok hr h)
  have c5 := Lib.hid (fun v W (hr : RdS W v [liveL]) (h : Div W) => Of_any v [liveL] 1000 1 W chkL (by decide) hr h (by decide) (by decide))
  have c6 := Lib.hid (fun v W (hr : RdS W v [liveL]) (h : Div W) => Of_any v [liveL] 999 1 W chkL (by decide) hr h (by decide) (by decide))
  have c7 := Lib.hid (fun v W (hr : RdS W v [liveL]) (h : Div W) => Of_any v [liveL] 3000 1 W chkL (by decide) hr h (by decide) (by decide))
  have c8 := Lib.hid (fun v W (hr : RdS W v [liveL]) (h : Div W) => load_any v [liveL] W chkL hr h)
  have r1 : RdS ((w.alloc (.cells #[.int .i64 1, .int .i64 0, .int .i64 1, .int .i64 2000, .int .i64 1000, .int .i64 0, .int .i64 8] 27)).alloc (.cells #[.int .i64 1, .int .i64 0, .int .i64 1, .int .i64 2000, .int .i64 200, .int .i64 0, .int .i64 8] 27)) (.slice (some ⟨w.heap.size, 0, none⟩) 1 1) [liveL] :=
    rdS1 (s := liveL) ((Below.heap_alloc _ _ _ (by simp)).trans (World.alloc_heap_new w _))
  have h2 := World.alloc_heap_new (w.alloc (.cells #[.int .i64 1, .int .i64 0, .int .i64 1, .int .i64 2000, .int .i64 1000, .int .i64 0, .int .i64 8] 27)) (.cells #[.int .i64 1, .int .i64 0, .int .i64 1, .int .i64 2000, .int .i64 200, .int .i64 0, .int .i64 8] 27)
  rw [World.size_alloc] at h2
  have r2 : RdS ((w.alloc (.cells #[.int .i64 1, .int .i64 0, .int .i64 1, .int .i64 2000, .int .i64 1000, .int .i64 0, .int .i64 8] 27)).alloc (.cells #[.int .i64 1, .int .i64 0, .int .i64 1, .int .i64 2000, .int .i64 200, .int .i64 0, .int .i64 8] 27)) (.slice (some ⟨w.heap.size + 1, 0, none⟩) 1 1) [liveM] :=
    rdS1 (s := liveM) h2
  have d2 : Div ((w.alloc (.cells #[.int .i64 1, .int .i64 0, .int .i64 1, .int .i64 2000, .int .i64 1000, .int .i64 0, .int .i64 8] 27)).alloc (.cells #[.int .i64 1, .int .i64 0, .int .i64 1, .int .i64 2000, .int .i64 200, .int .i64 0, .int .i64 8] 27)) := hd.below (((Below.refl _ w).alloc (Nat.le_refl _) _).alloc (by simp) _)
  have b2 := ((Below.refl _ w).alloc (Nat.le_refl _) (.cells #[.int .i64 1, .int .i64 0, .int .i64 1, .int .i64 2000, .int .i64 1000, .int .i64 0, .int .i64 8] 27)).alloc (by simp) (.cells #[.int .i64 1, .int .i64 0, .int .i64 1, .int .i64 2000, .int .i64 200, .int .i64 0, .int .i64 8] 27)
  have R1 := Lib.hid r1
  have R2 := Lib.hid r2
  have D2 := Lib.hid d2
  clear h2 r1 r2 d2 hd
  rw [passN] at c1
  rw [passL] at c2
  rw [passM] at c3
  rw [v1] at c4
  rw [v2] at c5
  rw [v3] at c6
  rw [v4] at c7
  rw [v5] at c8
  clear v1 v2 v3 v4 v5
  go_enter Tryd.func5, Tryd.ntmps5
  go_wp2_with fail
  refine (c1.out _ D2.out).mono ?_
  rintro e wa ⟨rfl, ha⟩
  have hab := b2.trans (ha.mono b2.size)
  go_wp2_with fail
  refine (c2.out _ _ (R1.out.below ha) (D2.out.below ha)).mono ?_
  rintro e wb ⟨rfl, h3⟩
  replace ha := ha.trans (h3.mono ha.size)
  clear h3
  go_wp2_with fail
  refine (c3.out _ _ (R2.out.below ha) (D2.out.below ha)).mono ?_
  rintro e wc ⟨rfl, h3⟩
  replace ha := ha.trans (h3.mono ha.size)
  clear h3
  go_wp2_with fail
  refine (c4.out _ _ (R1.out.below ha) (D2.out.below ha)).mono ?_
  rintro e wd ⟨rfl, h3⟩
  replace ha := ha.trans (h3.mono ha.size)
  clear h3
  go_wp2_with fail
  refine (c5.out _ _ (R1.out.below ha) (D2.out.below ha)).mono ?_
  rintro e we ⟨rfl, h3⟩
  replace ha := ha.trans (h3.mono ha.size)
  clear h3
  go_wp2_with fail
  refine (c6.out _ _ (R1.out.below ha) (D2.out.below ha)).mono ?_
  rintro e wf ⟨rfl, h3⟩
  replace ha := ha.trans (h3.mono ha.size)
  clear h3
  go_wp2_with fail
  refine (c7.out _ _ (R1.out.below ha) (D2.out.below ha)).mono ?_
  rintro e wg ⟨rfl, h3⟩
  replace ha := ha.trans (h3.mono ha.size)
  clear h3
  go_wp2_with fail
  refine (c8.out _ _ (R1.out.below ha) (D2.out.below ha)).mono ?_
  rintro e wh ⟨rfl, h3⟩
  replace ha := ha.trans (h3.mono ha.size)
  clear h3
  go_wp2
  go_ret
  exact ⟨rfl, b2.trans (ha.mono b2.size)⟩
end Go.Proofs.YtkbninfdehppiaaDoor
