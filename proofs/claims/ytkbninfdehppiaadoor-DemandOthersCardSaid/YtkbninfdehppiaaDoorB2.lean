/-
Contracts of frame.Right, ident.Bits, slices.Concat of bytes, strand.Unpack, at the empty frame.
Conditions: as each theorem states them.
-/
import Derived.Test.YtkbninfdehppiaaDoorB1
import Derived.Lib.AppendZeros
import Derived.Laws.AppendOwnNone
import Derived.Lib.AppendZerosOnto
namespace Go.Proofs.YtkbninfdehppiaaDoor
open Go Go.Proofs Go.RowKit

/-- A slice of n bytes that can be read. -/
def RdB (w : World) (v : Value) (n : Nat) : Prop :=
  (v = .slice none 0 0 ∧ n = 0) ∨ ∃ b off cap, v = .slice (some ⟨b, off, none⟩) n cap ∧ b < w.heap.size ∧ n ≤ cap ∧ ∀ j, j < n → ∃ x, w.cell? ⟨b, off + j, none⟩ = some x ∧ IsB x

theorem RdB.below {w w' : World} {v : Value} {n : Nat} (h : RdB w v n) (hb : Below w.heap.size w w') : RdB w' v n := by
  rcases h with h | ⟨b, off, cap, rfl, hl, hcap, hc⟩
  · exact .inl h
  · refine .inr ⟨b, off, cap, rfl, Nat.lt_of_lt_of_le hl hb.size, hcap, fun j hj => ?_⟩
    obtain ⟨x, hx, hB⟩ := hc j hj
    exact ⟨x, (hb.cell (p := ⟨b, off + j, none⟩) hl).trans hx, hB⟩

theorem RdB.of_row {w : World} {base : Nat} {v : Value} {n : Nat} {xs : List Value} (h : w.ownsRow base 5 1 v n xs) (hx : ∀ v ∈ xs, IsB v) : RdB w v n := by
  rcases h.2 with ⟨h1, h2⟩ | ⟨g, cap, cur, rfl, hb, hg, hn, _, hs, ht⟩
  · exact .inl ⟨h1, h2⟩
  · refine .inr ⟨g, 0, cap, rfl, ?_, hn, fun j hj => ?_⟩
    · exact (Array.getElem?_eq_some_iff.1 hg).1
    · obtain ⟨x, hc, hm⟩ := owns_cell h j hj
      exact ⟨x, by simpa using hc, hx x hm⟩

theorem news_of {w : World} {b off n : Nat} (h : ∀ j, j < n → ∃ x, w.cell? ⟨b, off + j, none⟩ = some x ∧ IsB x) :
    ∃ news : List Value, news.length = n * 1 ∧ (∀ j u, news[j]? = some u → w.cell? ((⟨b, off, none⟩ : Addr).add j) = some u) ∧ (∀ u ∈ news, u.oneCell' = true) ∧ (∀ u ∈ news, IsB u) := by
  have hf : ∃ f : Nat → Value, ∀ j, j < n → w.cell? ⟨b, off + j, none⟩ = some (f j) ∧ IsB (f j) := by
    classical
    exact ⟨fun j => if hj : j < n then Classical.choose (h j hj) else default, fun j hj => by simp only [dif_pos hj]; exact Classical.choose_spec (h j hj)⟩
  obtain ⟨f, hf⟩ := hf
  refine ⟨(List.range n).map f, by simp, ?_, ?_, ?_⟩
  · intro j u hu
    rw [List.getElem?_map] at hu
    by_cases hj : j < n
    · rw [List.getElem?_range hj] at hu
      simp at hu
      rw [← hu]
      have h0 := (hf j hj).1
      simp only [Addr.add]
      split
      · rename_i hz
        subst hz
        simpa using h0
      · exact h0
    · rw [List.getElem?_eq_none (by simp; omega)] at hu
      simp at hu
  · intro u hu
    obtain ⟨j, hj, rfl⟩ := List.mem_map.1 hu
    obtain ⟨z, hz, _⟩ := (hf j (List.mem_range.1 hj)).2
    rw [hz]; rfl
  · intro u hu
    obtain ⟨j, hj, rfl⟩ := List.mem_map.1 hu
    exact (hf j (List.mem_range.1 hj)).2

/-- The empty frame of an extended identifier, of k bytes. -/
abbrev f0 (k : Nat) : Value := .agg #[.bool true, .int .u32 0, .bool false, .int .i64 k, .int .u8 0, .int .u8 0, .int .u8 0, .int .u8 0, .int .u8 0, .int .u8 0, .int .u8 0, .int .u8 0]

theorem containsB_zero (b off n cap : Nat) (w : World) (hn : n ≤ 4611686018427387904) (hc : ∀ i, i < n → w.cell? ⟨b, off + i, none⟩ = some (.int .u8 0)) :
    Calls Tryd.prog 63 #[.slice (some ⟨b, off, none⟩) n cap, .func (.func 64) #[] #[]] w fun e w' => e = .returned (.bool false) ∧ w = w' := by
  have hcon := Lib.hid (indexFuncB_zero b off n cap w hn hc)
  clear hc
  go_enter Tryd.func63, Tryd.ntmps63
  go_wp2_with (go_at_call 80; refine (hcon.out).mono ?_; rintro e w1 ⟨rfl, rfl⟩)
  go_ret
  exact ⟨rfl, rfl⟩

theorem f0_cells (k : Nat) (w : World) : ∀ j, 4 ≤ j → j < 12 → (w.alloc (.cells #[.bool true, .int .u32 0, .bool false, .int .i64 k, .int .u8 0, .int .u8 0, .int .u8 0, .int .u8 0, .int .u8 0, .int .u8 0, .int .u8 0, .int .u8 0] 87)).cell? ⟨w.heap.size, j, none⟩ = some (.int .u8 0) := by
  intro j h1 h2
  have : j = 4 ∨ j = 5 ∨ j = 6 ∨ j = 7 ∨ j = 8 ∨ j = 9 ∨ j = 10 ∨ j = 11 := by omega
  rcases this with rfl | rfl | rfl | rfl | rfl | rfl | rfl | rfl <;> go_simp

set_option maxHeartbeats 1000000 in
theorem frameRight_zero (k : Nat) (w : World) (hk : k ≤ 8) :
    Calls Tryd.prog 52 #[f0 k] w fun e w' => e = .returned (.int .i64 0) ∧ Below w.heap.size w w' := by
  by_cases h8 : k = 8
  · subst h8
    go_enter Tryd.func52, Tryd.ntmps52
    go_wp2_with (first | (go_at_call 62; refine (identRight_zero _).mono ?_; rintro e w1 ⟨rfl, hb⟩; obtain ⟨g1, g2⟩ := bcell hb; have gs := hb.size) | (go_at_call 63; refine (containsB_zero _ _ _ _ _ (by omega) (fun i hi => by omega)).mono ?_; rintro e w2 ⟨rfl, rfl⟩))
    go_ret
    exact ⟨rfl, ((Below.refl _ _).alloc (Nat.le_refl _) _).trans (hb.mono (by simp))⟩
  · have hz := Lib.hid (f0_cells k w)
    go_enter Tryd.func52, Tryd.ntmps52
    go_wp2_with (first | (go_at_call 62; refine (identRight_zero _).mono ?_; rintro e w1 ⟨rfl, hb⟩; obtain ⟨g1, g2⟩ := bcell hb; have gs := hb.size; have HG := Lib.hid g1) | (go_at_call 63; refine (containsB_zero _ _ _ _ _ (by omega) (fun i hi => (HG.out _ _ (by simp)).trans (hz.out _ (by omega) (by omega)))).mono ?_; rintro e w2 ⟨rfl, rfl⟩))
    all_goals (try (exfalso; omega))
    go_ret
    exact ⟨rfl, ((Below.refl _ _).alloc (Nat.le_refl _) _).trans (hb.mono (by simp))⟩

set_option maxHeartbeats 1000000 in
theorem identBits_zero (w : World) :
    Calls Tryd.prog 54 #[.agg #[.bool true, .int .u32 0], .bool false] w fun e w' => ∃ (v : Value), e = .returned v ∧ RdB w' v 32 ∧ Below w.heap.size w w' := by
  go_enter Tryd.func54, Tryd.ntmps54
  go_wp2_with (first | (go_at_call 62; refine (identRight_zero _).mono ?_; rintro e w1 ⟨rfl, hb⟩; obtain ⟨g1, g2⟩ := bcell hb; have gs : w.heap.size < w1.heap.size := by (have := hb.size; simp at this; omega)) | (go_at_call 66; refine (key_zero _).mono ?_; rintro e w2 ⟨⟨n, rfl, n0, n1⟩, hb2⟩; obtain ⟨k1, k2⟩ := bcell hb2; have ks : w.heap.size < w2.heap.size := by (have := hb2.size; omega)) | (go_at_call 55; refine (of_any _ 32 _ (by omega) (by omega) (by omega) (by omega)).mono ?_; rintro e w3 ⟨g, xs, rfl, hrow, hx, hb3⟩; obtain ⟨l1, l2⟩ := bcell hb3; have HX := Lib.hid hx; have HR := Lib.hid hrow; clear hx hrow))
  go_ret
  exact ⟨_, rfl, RdB.of_row HR.out HX.out, (((Below.refl _ _).alloc (Nat.le_refl _) _).trans (hb.mono (by simp))).trans ((hb2.trans (hb3.mono hb2.size)).mono (by omega))⟩

theorem infoS : (Tryd.prog.info? 89).map (fun i => (i.zero, i.size, i.bytes)) = some (some (.slice none 0 0), 1, 24) := by kernel_rfl

/-- The four slices that Concat is given. -/
structure Rd4 (w : World) (b : Nat) (v : Nat → Value) (n : Nat → Nat) : Prop where
  cell : ∀ j, j < 4 → w.cell? ⟨b, j, none⟩ = some (v j)
  rd : ∀ j, j < 4 → RdB w (v j) (n j)
  lt : b < w.heap.size

def sum4 (n : Nat → Nat) : Nat → Nat | 0 => 0 | k + 1 => sum4 n k + n k
theorem sum4_le (n : Nat → Nat) (h : ∀ j, j < 4 → n j ≤ 1000) : ∀ k, k ≤ 4 → sum4 n k ≤ 1000 * k
  | 0, _ => by simp [sum4]
  | k + 1, hk => by have := sum4_le n h k (by omega); have := h k (by omega); simp only [sum4]; omega

theorem heap_new (w : World) (o : Obj) : (w.alloc o).heap[w.heap.size]? = some o := by
  show (w.heap.push o)[w.heap.size]? = some o
  simp

set_option maxRecDepth 100000 in
set_option maxHeartbeats 1000000 in
/-- slices.Grow of the nil slice of bytes. -/
theorem growB_nil (k : Nat) (w : World) (h1 : 1 ≤ k) (hk : k ≤ 100000) :
    Calls Tryd.prog 65 #[.slice none 0 0, .int .i64 k] w fun e w' => ∃ v, e = .returned v ∧ w'.ownsRow w.heap.size 5 1 v 0 [] ∧ Below w.heap.size w w' := by
  obtain ⟨i0, hi, hz0, hz1, hz2⟩ := info_parts info5
  have hG := grownCap_ge w k 0 5
  have hGm := grownCap_le_maxLen w k 0 5 (by unfold maxLen; omega)
  have hrun := fun ty => Lib.run_append_nil_zeros (P := Tryd.prog) w 89 3 ty 5 i0 (.int .u8 0) .i64 .i64 Tryd.underlying89 Tryd.underlying3 hi hz0 k (by omega) (by omega) (by omega) (by rw [hz2]; omega)
  generalize hGG : grownCap w k 0 5 = G at *
  have HRUN := Lib.hid hrun
  clear hrun hGG hi hz0 hz1 hz2
  have hGu : G ≤ 9223372036854775807 := by unfold maxLen at hGm; omega
  go_enter Tryd.func65, Tryd.ntmps65
  go_wp2_with (at_builtin; refine Lib.wpList_append_run _ rfl _ _ 89 3 rfl (.slice none 0 0) (.int .i64 k) rfl rfl _ _ (HRUN.out _) ?_)
  go_ret
  refine ⟨_, rfl, ⟨by simp, .inr ⟨w.heap.size, G, _, rfl, Nat.le_refl _, heap_new _ _, by omega, hGm, ?_, by simp⟩⟩, ((Below.refl _ _).alloc (Nat.le_refl _) _).drew⟩
  rw [Array.size_append, size_zeroCells, size_zeroCells]
  simp
  omega

set_option maxRecDepth 100000 in
set_option maxHeartbeats 1000000 in
/-- slices.Concat of four slices of bytes. -/
theorem concatB4 (b : Nat) (v : Nat → Value) (n : Nat → Nat) (w : World) (h : Rd4 w b v n) (hn : ∀ j, j < 4 → n j ≤ 1000) (h1 : 1 ≤ sum4 n 4) :
    Calls Tryd.prog 53 #[.slice (some ⟨b, 0, none⟩) 4 4] w fun e w' => ∃ r xs, e = .returned r ∧ w'.ownsRow w.heap.size 5 1 r (sum4 n 4) xs ∧ (∀ v ∈ xs, IsB v) ∧ Below w.heap.size w w' := by
  obtain ⟨i0, hi, hz0, hz1, hz2⟩ := info_parts info5
  have HN := Lib.hid hn
  have H := Lib.hid h
  have h4 := sum4_le n hn 4 (by omega)
  clear hn h
  go_enter Tryd.func53, Tryd.ntmps53
  go_wp2
  go_loop [3, 11] (fun s iv => ∃ j : Nat, j ≤ 4 ∧ iv = .int .i64 j ∧ s = .int .i64 (sum4 n j : Nat)) (fun _ iv => 4 - (intOf iv).toNat)
  case atStart => exact ⟨0, Nat.zero_le _, rfl, rfl⟩
  case round =>
    obtain ⟨j, hj, rfl, rfl⟩ := hrel
    have hsl := sum4_le n HN.out j hj
    by_cases hj4 : j < 4
    · have hcell := H.out.cell j hj4
      have hnj := HN.out j hj4
      rcases H.out.rd j hj4 with ⟨e1, e2⟩ | ⟨b1, off1, cap1, e1, _⟩
      · rw [e1] at hcell
        have hs : sum4 n (j + 1) = sum4 n j := by simp [sum4, e2]
        have HS := Lib.hid hs
        clear hs e1 e2
        go_wp2
        go_round
        case rel => exact ⟨j + 1, by omega, by go_num, by rw [HS.out]⟩
        case measure => simp [intOf]; omega
      · rw [e1] at hcell
        have hs : sum4 n (j + 1) = sum4 n j + n j := rfl
        have HS := Lib.hid hs
        clear hs e1
        go_wp2
        go_round
        case rel => exact ⟨j + 1, by omega, by go_num, by rw [HS.out]; go_num⟩
        case measure => simp [intOf]; omega
    · obtain rfl : j = 4 := by omega
      go_wp2_with (go_at_call 65; refine (growB_nil (sum4 n 4) _ h1 (by omega)).mono ?_; rintro e w1 ⟨r, rfl, hrow, hb⟩)
      have HR := Lib.hid hrow
      clear hrow hsl
      obtain ⟨wo, rfl⟩ : ∃ wo : World, wo = w1 := ⟨_, rfl⟩
      go_loopw [6, 27] (fun rv iv wr => ∃ (j : Nat) (xs : List Value), j ≤ 4 ∧ iv = .int .i64 j ∧ wr.ownsRow w.heap.size 5 1 rv (sum4 n j) xs ∧ (∀ v ∈ xs, IsB v) ∧ Below w.heap.size w wr) (fun _ iv _ => 4 - (intOf iv).toNat)
      case atStart => exact ⟨0, [], Nat.zero_le _, rfl, HR.out, by simp, hb⟩
      case round =>
        obtain ⟨j, xs, hj, rfl, hrow, hall, hB⟩ := hrel
        have HALL := Lib.hid hall
        have HROW := Lib.hid hrow
        have hsl := sum4_le n HN.out j hj
        clear hall hrow
        by_cases hj4 : j < 4
        · have hcell := (hB.cell (p := ⟨b, j, none⟩) H.out.lt).trans (H.out.cell j hj4)
          have hnj := HN.out j hj4
          have hrd := (H.out.rd j hj4).below hB
          rcases hrd with ⟨e1, e2⟩ | ⟨b1, off1, cap1, e1, hl1, hcap1, hc1⟩
          · rw [e1] at hcell
            have hs : sum4 n (j + 1) = sum4 n j := by simp [sum4, e2]
            have HS := Lib.hid hs
            clear hs e1 e2
            go_wp2_with (at_builtin; refine wpList_append_own_none rfl _ _ 89 rfl w.heap.size 5 i0 1 Tryd.underlying89 hi _ _ xs rfl HROW.out rfl ?_)
            go_roundw
            case rel => exact ⟨j + 1, xs, by omega, by go_num, by rw [HS.out]; exact HROW.out, HALL.out, hB⟩
            case measure => simp [intOf]; omega
          · rw [e1] at hcell
            obtain ⟨news, g1, g2, g3, g4⟩ := news_of hc1
            have hs : sum4 n (j + 1) = sum4 n j + n j := rfl
            have HS := Lib.hid hs
            have G1 := Lib.hid g1
            have G2 := Lib.hid g2
            have G3 := Lib.hid g3
            have hsz := hB.size
            have C1 : Hid (sum4 n j + n j ≤ maxLen) := Lib.hid (by unfold maxLen; omega)
            have C2 : Hid ((sum4 n j + n j) * 1 ≤ 140737488355328) := Lib.hid (by omega)
            clear hs e1 hc1 g1 g2 g3
            go_wp2_with (at_builtin; refine wpList_append_own _ rfl _ _ 89 rfl w.heap.size 5 i0 (.int .u8 0) 1 1 Tryd.underlying89 hi hz0 hz1 hz2 rfl (by decide) _ _ xs rfl HROW.out ⟨b1, off1, none⟩ (n j) cap1 news rfl G1.out G2.out G3.out C1.out C2.out hsz ?_; intro v' w2 hown' hgrow _; have HOWN := Lib.hid hown'; clear hown')
            go_roundw
            case rel => exact ⟨j + 1, xs ++ news, by omega, by go_num, by rw [HS.out]; exact HOWN.out, (fun u hu => (List.mem_append.1 hu).elim (HALL.out u) (g4 u)), hB.grown hgrow hsz (fun k e => (HROW.out.lt k (show _ = some k from e)).1)⟩
            case measure => simp [intOf]; omega
        · obtain rfl : j = 4 := by omega
          go_wp2
          go_ret
          exact ⟨_, xs, rfl, HROW.out, HALL.out, hB⟩
end Go.Proofs.YtkbninfdehppiaaDoor
