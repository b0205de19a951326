/-
Contracts of the functions below frame.Body at the empty frame of an extended identifier.
Conditions: as each theorem states them.
-/
import Derived.WalkKit
import Derived.Lib.Hide
import Derived.Outline
import Derived.Deep.QuietTactic
import Derived.BigQuiet
import Derived.WalkMore
import Derived.WalkSmall
import Derived.LoopTactic
import Derived.Test.YtkbninfdehppiaaDoorA2
namespace Go.Proofs.YtkbninfdehppiaaDoor
open Go Go.Proofs Go.RowKit

/-- A value is a byte. -/
def IsB (v : Value) : Prop := ∃ z : Int, v = .int .u8 z ∧ 0 ≤ z ∧ z ≤ 255

/-- A call that leaves the world, met in a quiet region. -/
theorem qsame {P : Program} {f : FuncId} {xs : Array Value} {w : World} {n : Nat} {v : Value} (c : Calls P f xs (w.drewN n) fun e w' => e = .returned v ∧ w.drewN n = w') :
    Calls P f xs (w.drewN n) fun e w' => e = .returned v ∧ ∃ m, w' = w.drewN m := c.mono fun _ _ h => ⟨h.1, n, h.2.symm⟩

theorem identRight_zero (w : World) :
    Calls Tryd.prog 62 #[.agg #[.bool true, .int .u32 0]] w fun e w' => e = .returned (.bool true) ∧ Below w.heap.size w w' := by
  go_enter Tryd.func62, Tryd.ntmps62
  go_wp2
  go_ret
  exact ⟨rfl, (Below.refl _ _).alloc (Nat.le_refl _) _⟩

theorem truth_any (b : Bool) (w : World) :
    Calls Tryd.prog 81 #[.bool b] w fun e w' => e = .returned (.int .u32 (if b then 1 else 0)) ∧ w = w' := by
  cases b
  all_goals
    go_enter Tryd.func81, Tryd.ntmps81
    go_wp2
    go_ret
    exact ⟨rfl, rfl⟩

theorem key_zero (w : World) :
    Calls Tryd.prog 66 #[.agg #[.bool true, .int .u32 0], .bool false] w fun e w' => (∃ n : Int, e = .returned (.int .u32 n) ∧ 0 ≤ n ∧ n ≤ 4294967295) ∧ Below w.heap.size w w' := by
  go_enter Tryd.func66, Tryd.ntmps66
  go_wp2_with (go_at_call 62; refine (identRight_zero _).mono ?_; rintro e w1 ⟨rfl, hb⟩; obtain ⟨g1, g2⟩ := bcell hb; have gs := hb.size)
  go_quiet ((go_at_call 81; exact qsame (truth_any _ _)))
  all_goals (try go_wp2)
  go_ret
  refine ⟨⟨_, rfl, ?_, ?_⟩, below_drewN (((Below.refl _ _).alloc (Nat.le_refl _) _).trans (hb.mono (by simp))) nq⟩
  · decide
  · decide

def truthI (x : Int) : Int := if x = 0 then 0 else 1
theorem truthI_bd (x : Int) : 0 ≤ truthI x ∧ truthI x ≤ 255 := by unfold truthI; split <;> omega
theorem strTruth_any (x : Int) (w : World) :
    Calls Tryd.prog 91 #[.int .u8 x] w fun e w' => e = .returned (.int .u8 (truthI x)) ∧ w = w' := by
  by_cases h : x = 0
  · subst h
    go_enter Tryd.func91, Tryd.ntmps91
    go_wp2
    go_ret
    exact ⟨rfl, rfl⟩
  · have h' : (x == 0) = false := by simpa using h
    go_enter Tryd.func91, Tryd.ntmps91
    go_wp2
    go_ret
    exact ⟨by unfold truthI; rw [if_neg h]; rfl, rfl⟩

theorem nz_any (x : Int) (w : World) :
    Calls Tryd.prog 64 #[.int .u8 x] w fun e w' => e = .returned (.bool (x != 0)) ∧ w = w' := by
  go_enter Tryd.func64, Tryd.ntmps64
  go_wp2
  go_ret
  exact ⟨rfl, rfl⟩

theorem owns_cell {w : World} {base : Nat} {e : TypeId} {g n cap : Nat} {xs : List Value} (h : w.ownsRow base e 1 (.slice (some ⟨g, 0, none⟩) n cap) n xs) (j : Nat) (hj : j < n) : ∃ v, w.cell? ⟨g, j, none⟩ = some v ∧ v ∈ xs := by
  have hl : xs.length = n := by have := h.1; omega
  exact ⟨xs[j]'(by omega), by rw [h.cellAt j (by omega), List.getElem?_eq_getElem (by omega)], List.getElem_mem _⟩

theorem info5 : (Tryd.prog.info? 5).map (fun i => (i.zero, i.size, i.bytes)) = some (some (.int .u8 0), 1, 1) := by kernel_rfl

set_option maxRecDepth 100000 in
set_option maxHeartbeats 1000000 in
/-- strand.Of: as many bytes as its width. -/
theorem of_any (n : Int) (k : Nat) (w : World) (hk1 : 1 ≤ k) (hk : k ≤ 64) (h0 : 0 ≤ n) (h1 : n ≤ 18446744073709551615) :
    Calls Tryd.prog 55 #[.int .u64 n, .int .i64 k] w fun e w' => ∃ (g : Nat) (xs : List Value), e = .returned (.slice (some ⟨g, 0, none⟩) k k) ∧ w'.ownsRow w.heap.size 5 1 (.slice (some ⟨g, 0, none⟩) k k) k xs ∧ (∀ v ∈ xs, IsB v) ∧ Below w.heap.size w w' := by
  obtain ⟨i0, hi, hz0, hz1, hz2⟩ := info_parts info5
  go_enter Tryd.func55, Tryd.ntmps55
  go_wp2_with (at_make; refine wpList_make_full _ rfl _ _ 89 rfl w.heap.size 5 i0 (.int .u8 0) 1 Tryd.underlying89 hi hz0 hz1 _ _ (k : Int) (k : Int) k rfl rfl rfl rfl (by rw [hz2]; omega) (by unfold maxLen; omega) (Nat.le_refl _) ?_; intro w1 hown hgrow)
  clear hi hz0 hz1 hz2
  have hbl : Below w.heap.size w w1 := (Below.refl _ _).grown hgrow (Nat.le_refl _) (fun k e => by cases e)
  obtain ⟨wo, rfl⟩ : ∃ wo : World, wo = w1 := ⟨_, rfl⟩
  have hxs : ∀ v ∈ (madeCells (Value.int IntKind.u8 0).cells (k * 1)).toList, IsB v := by
    intro v hv
    rw [show (Value.int IntKind.u8 0).cells = #[.int .u8 0] from rfl, toList_madeCells_one] at hv
    rw [List.eq_of_mem_replicate hv]
    exact ⟨0, rfl, by decide, by decide⟩
  go_loopw [0, 17] (fun nv iv wr => ∃ (j : Nat) (m : Int) (xs : List Value), j ≤ k ∧ iv = .int .i64 j ∧ nv = .int .u64 m ∧ 0 ≤ m ∧ m ≤ 18446744073709551615 ∧ wr.ownsRow w.heap.size 5 1 (.slice (some ⟨w.heap.size, 0, none⟩) k k) k xs ∧ (∀ v ∈ xs, IsB v) ∧ Below w.heap.size w wr) (fun _ i _ => k - (intOf i).toNat)
  case atStart => exact ⟨0, n, _, Nat.zero_le _, rfl, rfl, h0, h1, hown, hxs, hbl⟩
  case round =>
    obtain ⟨j, m, xs, hj, rfl, rfl, hm0, hm1, hrow, hall, hB⟩ := hrel
    have HALL := Lib.hid hall
    clear hall hxs hown hgrow hbl
    by_cases hjk : j < k
    · have hst := Lib.hid (fun u => hrow.stored (k - 1 - j) u)
      obtain ⟨v0, hcell, _⟩ := owns_cell hrow (k - 1 - j) (by omega)
      have hfr := hrow.frozenAt (k - 1 - j)
      have HR := Lib.hid hrow
      clear hrow
      go_wp2
      go_roundw
      case rel =>
        refine ⟨j + 1, _, _, by omega, by go_num, rfl, by omega, by omega, (hst.out _).1, ?_, hB.setCell (Nat.le_refl _) _⟩
        intro v hv
        rcases List.mem_or_eq_of_mem_set hv with h | h
        · exact HALL.out v h
        · exact ⟨_, h, by omega, by omega⟩
      case measure => simp [intOf]; omega
    · go_wp2
      go_ret
      exact ⟨_, xs, rfl, hrow, HALL.out, hB⟩

/-- slices.IndexFunc over bytes that are all zero, asked for one that isn't. -/
theorem indexFuncB_zero (b off n cap : Nat) (w : World) (hn : n ≤ 4611686018427387904) (hc : ∀ i, i < n → w.cell? ⟨b, off + i, none⟩ = some (.int .u8 0)) :
    Calls Tryd.prog 80 #[.slice (some ⟨b, off, none⟩) n cap, .func (.func 64) #[] #[]] w fun e w' => e = .returned (.int .i64 (-1)) ∧ w = w' := by
  go_enter Tryd.func80, Tryd.ntmps80
  go_wp2
  have HC := Lib.hid hc
  clear hc
  go_loop [8] (fun iv => ∃ j : Nat, j ≤ n ∧ iv = .int .i64 j) (fun iv => n - (intOf iv).toNat)
  case atStart => exact ⟨0, Nat.zero_le _, rfl⟩
  case round =>
    obtain ⟨j, hj, rfl⟩ := hrel
    by_cases hjn : j < n
    · have hcell := HC.out j hjn
      go_wp2_with (go_at_call 64; refine (nz_any _ _).mono ?_; rintro e w1 ⟨rfl, rfl⟩)
      go_round
      case rel => exact ⟨j + 1, by omega, by go_num⟩
      case measure => simp [intOf]; omega
    · go_wp2
      go_ret
      exact ⟨rfl, rfl⟩
end Go.Proofs.YtkbninfdehppiaaDoor
