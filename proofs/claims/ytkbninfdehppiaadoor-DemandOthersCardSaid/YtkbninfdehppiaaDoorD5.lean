/-
Contracts of demand.Of and demand.Blocking, at streams that can be.
Conditions: as each theorem states them.
-/
import Derived.Test.YtkbninfdehppiaaDoorD4
namespace Go.Proofs.YtkbninfdehppiaaDoor
open Go Go.Proofs Go.RowKit Go.Shelf

theorem Checks.mem {ss : List Str} {len : Int} (h : Checks ss len) : ∀ s ∈ ss, s.ok := fun s hs => by
  obtain ⟨i, hi, rfl⟩ := List.mem_iff_getElem.1 hs
  exact h.ok i hi

theorem Of_any (v : Value) (ss : List Str) (span len : Int) (w : World) (h : Checks ss len) (l1 : len ≤ 1000000) (hr : RdS w v ss) (hd : Div w) (s0 : 1 ≤ span) (s1 : span ≤ 65536) :
    Calls Tryd.prog 6 #[v, .int .i64 span, .int .i64 len] w fun e w' => e = .returned (.int .i64 (sumI span len (edf ss))) ∧ Below w.heap.size w w' := by
  have l0 := h.len0
  have hc1 : clampI span 1 65536 = span := by unfold clampI; split <;> (try split) <;> omega
  have hcl := Lib.hid (fun w => clamp_any span 1 65536 w)
  rw [hc1] at hcl
  have hri := Lib.hid (drRight_ok v ss len w h hr)
  have hof := Lib.hid (fun w hr hd => dof_any v ss span len w h.many h.mem hr hd (by omega) (by omega) (by omega) l1)
  obtain ⟨a, cap, rfl⟩ := hr.slice
  have HR := Lib.hid hr
  have HD := Lib.hid hd
  clear h hr hd hc1
  go_enter Tryd.func6, Tryd.ntmps6
  go_wp2_with (first
    | (go_at_call 11; refine (hcl.out _).mono ?_; rintro e w1 ⟨rfl, rfl⟩)
    | (go_at_call 12; refine hri.out.mono ?_; rintro e w1 ⟨rfl, hb⟩)
    | (go_at_call 13; refine (hof.out _ (HR.out.below hb) (HD.out.below hb)).mono ?_; rintro e w2 ⟨rfl, hb2⟩))
  go_ret
  exact ⟨rfl, hb.trans (hb2.mono hb.size)⟩

theorem int_eq {a b : Int} (h : a = b) : Value.int .i64 a = .int .i64 b := by rw [h]
/-- The longest frame of streams. -/
def blkI (ss : List Str) : Int := (ss.map costI).foldl max 0
theorem blkI_take (ss : List Str) (k : Nat) (hk : k < ss.length) : blkI (ss.take (k + 1)) = max (blkI (ss.take k)) (costI ss[k]) := by
  unfold blkI
  rw [List.take_succ_eq_append_getElem hk, List.map_append, List.foldl_append]
  rfl

set_option maxRecDepth 100000 in
set_option maxHeartbeats 2000000 in
theorem blocking_any (v : Value) (ss : List Str) (w : World) (hn : ss.length ≤ 64) (hok : ∀ i (hi : i < ss.length), ss[i].ok) (hr : RdS w v ss) (hd : Div w) :
    Calls Tryd.prog 8 #[v] w fun e w' => e = .returned (.int .i64 (blkI ss)) ∧ Below w.heap.size w w' := by
  obtain ⟨a, cap, rfl⟩ := hr.slice
  have HR := Lib.hid hr
  have HLT := Lib.hid hr.lt
  have HD := Lib.hid hd
  have HOK := Lib.hid hok
  clear hr hd hok
  go_enter Tryd.func8, Tryd.ntmps8
  go_wp2
  go_loopw [3, 8] (fun m i wr => ∃ k : Nat, k ≤ ss.length ∧ i = .int .i64 k ∧ m = .int .i64 (blkI (ss.take k)) ∧ Below w.heap.size w wr) (fun _ i _ => ss.length - (intOf i).toNat)
  case atStart => exact ⟨0, Nat.zero_le _, rfl, rfl, Below.refl _ _⟩
  case round =>
    obtain ⟨k, hk, rfl, rfl, hB⟩ := hrel
    by_cases hlt : k < ss.length
    · rcases HR.out.belowN hB HLT.out with ⟨_, e2⟩ | ⟨b, off, cap', e1, hl, hcap, hcc⟩
      · rw [e2] at hlt; simp at hlt
      · cases e1
        obtain ⟨a0, a1, a2, a3, a4, a5, a6⟩ := hcc k hlt
        clear hcc
        have hcs := Lib.hid (fun w hd => cost_any ss[k] w (HOK.out k hlt) hd)
        have HT := Lib.hid (blkI_take ss k hlt)
        generalize hsj : ss[k] = sj at *
        obtain ⟨id', node, cls, per, dl, slot, byt⟩ := sj
        dsimp only at a0 a1 a2 a3 a4 a5 a6 hcs HT
        clear hsj
        generalize hC : costI ⟨id', node, cls, per, dl, slot, byt⟩ = C at *
        clear hC
        generalize hM : blkI (ss.take k) = M at *
        clear hM
        go_wp2_with (go_at_call 16; refine (hcs.out _ (HD.out.below (hB.alloc hB.size _))).mono ?_; rintro e w1 ⟨rfl, hb⟩)
        all_goals
          go_roundw
          case rel => exact ⟨k + 1, by omega, by simp, by rw [HT.out]; exact int_eq (by omega), (hB.alloc hB.size _).trans (hb.mono (by have := hB.size; simp; omega))⟩
          case measure => simp [intOf]; omega
    · obtain rfl : k = ss.length := by omega
      rw [List.take_length]
      go_wp2
      go_ret
      exact ⟨rfl, hB⟩
end Go.Proofs.YtkbninfdehppiaaDoor
