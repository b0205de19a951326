/-
Contract of law25.Stream, at any stream.
Conditions: as each theorem states them.
-/
import Derived.Test.YtkbninfdehppiaaDoorA1
import Derived.Test.YtkbninfdehppiaaDoorC1
namespace Go.Proofs.YtkbninfdehppiaaDoor
open Go Go.Proofs Go.RowKit

theorem partI_bd (n b : Int) (hb : 1 ≤ b) : 0 ≤ partI n b ∧ partI n b < b := by
  unfold partI
  split
  · omega
  · exact ⟨Int.emod_nonneg _ (by omega), Int.emod_lt_of_pos _ (by omega)⟩

/-- The plain function of law25.Stream. -/
def streamI (s : Str) (id : Int) : Str :=
  ⟨id, partI s.node 4, partI s.cls 3 + 1, partI s.per 4000 + 200, partI s.dl (partI s.per 4000 + 101) + 100, partI s.slot 256, partI s.byt 9⟩

theorem streamI_ok (s : Str) (id : Int) (h0 : 0 ≤ id) (h1 : id ≤ 100) : (streamI s id).ok ∧ 100 ≤ (streamI s id).dl := by
  have a1 := partI_bd s.node 4 (by omega)
  have a2 := partI_bd s.cls 3 (by omega)
  have a3 := partI_bd s.per 4000 (by omega)
  have a4 := partI_bd s.dl (partI s.per 4000 + 101) (by omega)
  have a5 := partI_bd s.slot 256 (by omega)
  have a6 := partI_bd s.byt 9 (by omega)
  unfold streamI
  refine ⟨⟨?_, ?_, ?_, ?_, ?_, ?_, ?_, ?_, ?_, ?_, ?_, ?_, ?_, ?_⟩, ?_⟩ <;> dsimp only <;> omega

/-- Any stream's fields: 64 bits. -/
structure Str.fits (s : Str) : Prop where
  node : s.node ≤ 9223372036854775807
  cls : s.cls ≤ 9223372036854775807
  per : s.per ≤ 9223372036854775807
  dl : s.dl ≤ 9223372036854775807
  slot : s.slot ≤ 9223372036854775807
  byt : s.byt ≤ 9223372036854775807

set_option maxHeartbeats 2000000 in
set_option maxRecDepth 100000 in
theorem stream_any (s : Str) (id : Int) (w : World) (h : s.fits) :
    Calls Tryd.prog 9 #[s.val, .int .i64 id] w fun e w' => e = .returned (streamI s id).val ∧ Below w.heap.size w w' := by
  obtain ⟨a1, b1⟩ := partI_bd s.node 4 (by omega)
  obtain ⟨a2, b2⟩ := partI_bd s.cls 3 (by omega)
  obtain ⟨a3, b3⟩ := partI_bd s.per 4000 (by omega)
  obtain ⟨a4, b4⟩ := partI_bd s.dl (partI s.per 4000 + 101) (by omega)
  obtain ⟨a5, b5⟩ := partI_bd s.slot 256 (by omega)
  obtain ⟨a6, b6⟩ := partI_bd s.byt 9 (by omega)
  have p1 := Lib.hid (fun w => part_any s.node 4 w (by omega) (by omega) h.node)
  have p2 := Lib.hid (fun w => part_any s.cls 3 w (by omega) (by omega) h.cls)
  have p3 := Lib.hid (fun w => part_any s.per 4000 w (by omega) (by omega) h.per)
  have p4 := Lib.hid (fun w => part_any s.dl (partI s.per 4000 + 101) w (by omega) (by omega) h.dl)
  have p5 := Lib.hid (fun w => part_any s.slot 256 w (by omega) (by omega) h.slot)
  have p6 := Lib.hid (fun w => part_any s.byt 9 w (by omega) (by omega) h.byt)
  clear h
  unfold streamI
  obtain ⟨sid, node, cls, per, dl, slot, byt⟩ := s
  dsimp only at *
  generalize partI per 4000 = q3 at *
  generalize partI node 4 = q1 at *
  generalize partI cls 3 = q2 at *
  generalize partI dl (q3 + 101) = q4 at *
  generalize partI slot 256 = q5 at *
  generalize partI byt 9 = q6 at *
  have e4 : q3 + 200 - 99 = q3 + 101 := by omega
  go_enter Tryd.func9, Tryd.ntmps9
  go_wp2_with fail
  refine (p1.out _).mono ?_
  rintro e w1 ⟨rfl, rfl⟩
  go_wp2_with fail
  refine (p2.out _).mono ?_
  rintro e w2 ⟨rfl, rfl⟩
  go_wp2_with fail
  refine (p3.out _).mono ?_
  rintro e w3 ⟨rfl, rfl⟩
  go_wp2_with fail
  refine (p4.out _).mono ?_
  rintro e w4 ⟨rfl, rfl⟩
  go_wp2_with fail
  refine (p5.out _).mono ?_
  rintro e w5 ⟨rfl, rfl⟩
  go_wp2_with fail
  refine (p6.out _).mono ?_
  rintro e w6 ⟨rfl, rfl⟩
  go_wp2
  exact bodyPost_ret (v := .agg #[.int .i64 id, .int .i64 q1, .int .i64 (q2 + 1), .int .i64 (q3 + 200), .int .i64 (q4 + 100), .int .i64 q5, .int .i64 q6]) (by simp [results, Tryd.results9, go_sem]) rfl ⟨rfl, (((Below.refl _ _).alloc (Nat.le_refl _) _).alloc (by simp) _)⟩
end Go.Proofs.YtkbninfdehppiaaDoor
