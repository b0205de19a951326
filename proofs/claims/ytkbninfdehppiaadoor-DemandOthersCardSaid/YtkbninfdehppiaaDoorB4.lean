/-
Contracts of strand.Unpack, crc.Bits, crc.Sum, crc.Seal and frame.Body: how many bits there are.
Conditions: as each theorem states them.
-/
import Derived.Test.YtkbninfdehppiaaDoorB3
namespace Go.Proofs.YtkbninfdehppiaaDoor
open Go Go.Proofs Go.RowKit

theorem owns_below {w w' : World} {base : Nat} {e : TypeId} {size : Nat} {v : Value} {n : Nat} {xs : List Value} (h : w.ownsRow base e size v n xs) (hb : Below w.heap.size w w') : w'.ownsRow base e size v n xs := by
  refine ⟨h.1, ?_⟩
  rcases h.2 with h2 | ⟨g, cap, cur, hv, hg, hh, r⟩
  · exact .inl h2
  · exact .inr ⟨g, cap, cur, hv, hg, by rw [hb.block g (Array.getElem?_eq_some_iff.1 hh).1]; exact hh, r⟩
theorem owns_base {w : World} {base base' : Nat} {e : TypeId} {size : Nat} {v : Value} {n : Nat} {xs : List Value} (h : w.ownsRow base e size v n xs) (hb : base' ≤ base) : w.ownsRow base' e size v n xs := by
  refine ⟨h.1, ?_⟩
  rcases h.2 with h2 | ⟨g, cap, cur, hv, hg, r⟩
  · exact .inl h2
  · exact .inr ⟨g, cap, cur, hv, by omega, r⟩

theorem RdB.cut {w : World} {g c n : Nat} (h : RdB w (.slice (some ⟨g, 0, none⟩) n c) n) : RdB w (.slice (some ⟨g, 0, none⟩) n n) n := by
  rcases h with ⟨e, _⟩ | ⟨b, off, cap, e, h1, h2, h3⟩
  · cases e
  · cases e; exact .inr ⟨g, 0, n, rfl, h1, Nat.le_refl _, h3⟩

theorem crcBits_any (n : Int) (w : World) (h0 : 0 ≤ n) (h1 : n ≤ 65535) :
    Calls Tryd.prog 68 #[.int .u16 n] w fun e w' => ∃ r xs, e = .returned r ∧ w'.ownsRow w.heap.size 5 1 r 15 xs ∧ (∀ v ∈ xs, IsB v) ∧ Below w.heap.size w w' := by
  go_enter Tryd.func68, Tryd.ntmps68
  go_wp2_with (go_at_call 55; refine (of_any n 15 _ (by omega) (by omega) (by omega) (by omega)).mono ?_; rintro e w1 ⟨g, xs, rfl, hrow, hx, hb⟩; have HR := Lib.hid hrow; have HX := Lib.hid hx; clear hrow hx)
  go_ret
  exact ⟨_, xs, rfl, HR.out, HX.out, hb⟩

set_option maxRecDepth 100000 in
set_option maxHeartbeats 1000000 in
/-- strand.Unpack of k bytes. -/
theorem unpack_any (v : Value) (k : Nat) (w : World) (hk : k ≤ 8) (hr : RdB w v k) :
    Calls Tryd.prog 56 #[v, .int .i64 ((8 * k : Nat) : Int)] w fun e w' => ∃ r, e = .returned r ∧ RdB w' r (8 * k) ∧ (k = 0 → r = .slice none 0 0) ∧ Below w.heap.size w w' := by
  obtain ⟨i0, hi, hz0, hz1, hz2⟩ := info_parts info5
  obtain ⟨a, cap, rfl⟩ := hr.slice
  have HR := Lib.hid hr
  clear hr
  go_enter Tryd.func56, Tryd.ntmps56
  go_wp2
  go_loopw [5, 19] (fun rv iv wr => ∃ (j : Nat) (xs : List Value), j ≤ k ∧ iv = .int .i64 j ∧ wr.ownsRow w.heap.size 5 1 rv (8 * j) xs ∧ (∀ v ∈ xs, IsB v) ∧ (j = 0 → rv = .slice none 0 0) ∧ Below w.heap.size w wr) (fun _ iv _ => k - (intOf iv).toNat)
  case atStart => exact ⟨0, [], Nat.zero_le _, rfl, World.ownsRow_nil _ _ _ _, by simp, fun _ => rfl, Below.refl _ _⟩
  case round =>
    obtain ⟨j, xs, hj, rfl, hrow, hall, hnil, hB⟩ := hrel
    have HALL := Lib.hid hall
    have HROW := Lib.hid hrow
    have HNIL := Lib.hid hnil
    have hsz := hB.size
    clear hall hrow hnil
    by_cases hjk : j < k
    · rcases HR.out.below hB with ⟨e1, e2⟩ | ⟨b1, off1, cap1, e1, hl1, hcap1, hc1⟩
      · exfalso; omega
      · obtain ⟨x, hcell, z, rfl, y0, y1⟩ := hc1 j hjk
        cases e1
        clear hc1
        have C1 : Hid (8 * j + 8 ≤ maxLen) := Lib.hid (by unfold maxLen; omega)
        have C2 : Hid ((8 * j + 8) * 1 ≤ 140737488355328) := Lib.hid (by omega)
        go_wp2_with (first | (go_at_call 55; refine (of_any z 8 _ (by omega) (by omega) (by omega) (by omega)).mono ?_; rintro e w1 ⟨g, ys, rfl, hrow1, hx1, hb1⟩; have H1 := Lib.hid hrow1; have HX1 := Lib.hid hx1; clear hrow1 hx1) | (at_builtin; refine wpList_append_own _ rfl _ _ 89 rfl w.heap.size 5 i0 (.int .u8 0) 1 1 Tryd.underlying89 hi hz0 hz1 hz2 rfl (by decide) _ _ xs rfl (owns_below HROW.out hb1) ⟨g, 0, none⟩ 8 8 ys rfl H1.out.1 (H1.out.cells rfl) (fun u hu => by obtain ⟨z, hz, _⟩ := HX1.out u hu; rw [hz]; rfl) C1.out C2.out (Nat.le_trans hsz hb1.size) ?_; intro v' w2 hown' hgrow _; have HOWN := Lib.hid hown'; clear hown'))
        go_roundw
        case rel => exact ⟨j + 1, xs ++ ys, by omega, by go_num, HOWN.out, (fun u hu => (List.mem_append.1 hu).elim (HALL.out u) (HX1.out u)), (fun h => by omega), (hB.trans (hb1.mono hsz)).grown hgrow (Nat.le_trans hsz hb1.size) (fun k e => (HROW.out.lt k (show _ = some k from e)).1)⟩
        case measure => simp [intOf]; omega
    · obtain rfl : j = k := by omega
      rcases HROW.out.2 with ⟨rfl, e2⟩ | ⟨g, c, cur, rfl, _, hg, hc, _⟩
      · obtain rfl : j = 0 := by omega
        go_wp2
        go_ret
        exact ⟨_, rfl, .inl ⟨rfl, rfl⟩, (by first | rfl | exact fun _ => rfl), hB⟩
      · have hrd := RdB.of_row HROW.out HALL.out
        have HRD := Lib.hid hrd
        clear hrd
        have hgl := (Array.getElem?_eq_some_iff.1 hg).1
        have HC := Lib.hid hc
        clear hg
        go_wp2
        go_ret
        exact ⟨_, rfl, HRD.out.cut, (fun h => by have := HNIL.out h; cases this), hB⟩

/-- The table of crc: 16 bits. -/
def dv (j : Nat) : Int := [1, 1, 0, 0, 0, 1, 0, 1, 1, 0, 0, 1, 1, 0, 0, 1].getD j 0
/-- The package-level variable crc.divisor holds the table. -/
def Div (w : World) : Prop := ∀ j, j < 16 → w.cell? ⟨2, j, none⟩ = some (.int .u8 (dv j))
theorem Div.lt {w : World} (h : Div w) : 2 < w.heap.size := by
  have h0 := h 0 (by omega)
  unfold World.cell? at h0
  split at h0
  · rename_i hs; exact (Array.getElem?_eq_some_iff.1 hs).1
  · cases h0
theorem Div.below {w w' : World} (h : Div w) (hb : Below w.heap.size w w') : Div w' := fun j hj => (hb.cell (p := ⟨2, j, none⟩) h.lt).trans (h j hj)

abbrev divV : Value := .agg #[.int .u8 1, .int .u8 1, .int .u8 0, .int .u8 0, .int .u8 0, .int .u8 1, .int .u8 0, .int .u8 1, .int .u8 1, .int .u8 0, .int .u8 0, .int .u8 1, .int .u8 1, .int .u8 0, .int .u8 0, .int .u8 1]
theorem idx_div (k : Nat) (hk : k < 16) : ∀ w, (Instr.index 128 divV (.int .i64 (k : Int))).run Tryd.prog w = .ok (.int .u8 (dv k)) w := by
  have : k = 0 ∨ k = 1 ∨ k = 2 ∨ k = 3 ∨ k = 4 ∨ k = 5 ∨ k = 6 ∨ k = 7 ∨ k = 8 ∨ k = 9 ∨ k = 10 ∨ k = 11 ∨ k = 12 ∨ k = 13 ∨ k = 14 ∨ k = 15 := by omega
  rcases this with rfl | rfl | rfl | rfl | rfl | rfl | rfl | rfl | rfl | rfl | rfl | rfl | rfl | rfl | rfl | rfl
  all_goals (intro w; kernel_rfl)

theorem wrap_u16_bd (n : Int) : 0 ≤ IntKind.u16.wrap n ∧ IntKind.u16.wrap n ≤ 65535 := by
  have : IntKind.u16.wrap n = n % 65536 := by simp [IntKind.wrap, IntKind.bits, IntKind.signed]
  omega

theorem xor_u8_bd (a b : Int) : 0 ≤ bits BinOp.xor IntKind.u8 a b ∧ bits BinOp.xor IntKind.u8 a b ≤ 255 := by
  show 0 ≤ IntKind.u8.wrap _ ∧ IntKind.u8.wrap _ ≤ _
  rw [IntKind.wrap_u8]
  omega

/-- append(s, make([]byte, 15)...) of a full row. -/
theorem append15 {w : World} {base g len : Nat} {xs : List Value} (hl : len ≤ 10000) (h : w.ownsRow base 5 1 (.slice (some ⟨g, 0, none⟩) len len) len xs) :
    ∃ G, len + 15 ≤ G ∧ G ≤ maxLen ∧ ∀ ty, (Builtin.append_ #[89, 3] ty #[.slice (some ⟨g, 0, none⟩) len len, .int .i64 15]).run Tryd.prog w =
      .ok (.slice (some ⟨w.heap.size, 0, none⟩) (len + 15) G) (w.drew.alloc (.cells (xs.toArray ++ Builtin.zeroCells (Value.int .u8 0).cells 15 ++ Builtin.zeroCells (Value.int .u8 0).cells (G - (len + 15))) 5)) := by
  obtain ⟨i0, hi, hz0, hz1, hz2⟩ := info_parts info5
  refine ⟨grownCap w (len + 15) len 5, grownCap_ge _ _ _ _, grownCap_le_maxLen _ _ _ _ (by unfold maxLen; omega), fun ty => ?_⟩
  have hc := h.cells (g := g) rfl
  have hold : (Builtin.firstCells i0.size len (.slice (some ⟨g, 0, none⟩) len len)).run Tryd.prog w.drew = .ok xs.toArray w.drew :=
    run_firstCells_some w.drew i0.size len ⟨g, 0, none⟩ len len xs (by rw [hz1]; exact h.1) (fun j v hj => hc j v hj)
  exact Lib.run_append_grow_zeros (P := Tryd.prog) w 89 3 ty 5 i0 (.int .u8 0) .i64 .i64 Tryd.underlying89 Tryd.underlying3 hi hz0 (some ⟨g, 0, none⟩) len len xs hold 15 (by omega) (by omega) (by omega) (by omega) (by rw [hz2]; omega)
    (growslice_fits (by omega) (by rw [hz2]; omega))

theorem owns15 {w : World} {base len G : Nat} {xs : List Value} (hb : base ≤ w.heap.size) (hl : xs.length = len) (hG : len + 15 ≤ G) (hG2 : G ≤ maxLen) (hx : ∀ v ∈ xs, IsB v) :
    ∃ ys, (w.drew.alloc (.cells (xs.toArray ++ Builtin.zeroCells (Value.int .u8 0).cells 15 ++ Builtin.zeroCells (Value.int .u8 0).cells (G - (len + 15))) 5)).ownsRow base 5 1 (.slice (some ⟨w.heap.size, 0, none⟩) (len + 15) G) (len + 15) ys ∧ ∀ v ∈ ys, IsB v := by
  have hsz : (xs.toArray ++ Builtin.zeroCells (Value.int .u8 0).cells 15 ++ Builtin.zeroCells (Value.int .u8 0).cells (G - (len + 15))).size = G * 1 := by
    have hz1 : (Value.int IntKind.u8 0).cells.size = 1 := rfl
    rw [Array.size_append, Array.size_append, size_zeroCells, size_zeroCells, hz1, List.size_toArray]
    omega
  refine ⟨_, ⟨?_, .inr ⟨w.heap.size, G, _, rfl, hb, heap_new w.drew _, by omega, hG2, hsz, rfl⟩⟩, ?_⟩
  · rw [List.length_take, Array.length_toList, hsz]; omega
  · intro v hv
    have hv := List.mem_of_mem_take hv
    simp only [Array.toList_append, List.mem_append] at hv
    have hz : ∀ n, v ∈ (Builtin.zeroCells (Value.int .u8 0).cells n).toList → IsB v := by
      intro n h
      rw [Array.mem_toList_iff, Builtin.zeroCells, Array.mem_map] at h
      obtain ⟨i, _, rfl⟩ := h
      refine ⟨0, ?_, by decide, by decide⟩
      show (#[Value.int .u8 0])[i % 1]! = _
      rw [Nat.mod_one]
      rfl
    rcases hv with (h | h) | h
    · exact hx v h
    · exact hz _ h
    · exact hz _ h

set_option maxRecDepth 100000 in
set_option maxHeartbeats 2000000 in
/-- crc.Sum: some number of 16 bits. -/
theorem sum_any (v : Value) (len : Nat) (hlen : len ≤ 10000) (w : World) (hr : RdB w v len) (hd : Div w) :
    Calls Tryd.prog 69 #[v] w fun e w' => (∃ n : Int, e = .returned (.int .u16 n) ∧ 0 ≤ n ∧ n ≤ 65535) ∧ Below w.heap.size w w' := by
  obtain ⟨i0, hi, hz0, hz1, hz2⟩ := info_parts info5
  obtain ⟨a, cap, rfl⟩ := hr.slice
  have HR := Lib.hid hr
  have HD := Lib.hid hd
  have hcl := Lib.hid (clean_any _ _ (by omega) w hr)
  clear hr hd
  go_enter Tryd.func69, Tryd.ntmps69
  go_wp2
  go_step3
  go_wp2_with (first | (go_at_call 67; refine hcl.out.mono ?_; rintro e w1 ⟨xs, rfl, hrow, hx, hb⟩; obtain ⟨G, hG1, hG2, happ⟩ := append15 (by omega) hrow; have HROW := Lib.hid hrow; have HX := Lib.hid hx; have HAPP := Lib.hid happ; clear hrow hx happ) | (at_builtin; refine Lib.wpList_append_run _ rfl _ _ 89 3 rfl (.slice (some ⟨w.heap.size, 0, none⟩) len len) (.int .i64 15) rfl rfl _ _ (HAPP.out _) ?_))
  go_step3
  obtain ⟨ys0, hown, hall0⟩ := owns15 (w := w1) (base := w.heap.size) (G := G) hb.size (by have := HROW.out.1; omega) hG1 hG2 HX.out
  have hbelow : Below w.heap.size w ((w1.alloc (.cells (xs.toArray ++ (Builtin.zeroCells #[Value.int .u8 0] 15 ++ Builtin.zeroCells #[Value.int .u8 0] (G - (len + 15)))) 5)).drew) := (hb.alloc hb.size _).drew
  have heq : (w1.drew.alloc (.cells (xs.toArray ++ Builtin.zeroCells (Value.int .u8 0).cells 15 ++ Builtin.zeroCells (Value.int .u8 0).cells (G - (len + 15))) 5)) = ((w1.alloc (.cells (xs.toArray ++ (Builtin.zeroCells #[Value.int .u8 0] 15 ++ Builtin.zeroCells #[Value.int .u8 0] (G - (len + 15)))) 5)).drew) := by rw [Array.append_assoc]; rfl
  rw [heq] at hown
  generalize ((w1.alloc (.cells (xs.toArray ++ (Builtin.zeroCells #[Value.int .u8 0] 15 ++ Builtin.zeroCells #[Value.int .u8 0] (G - (len + 15)))) 5)).drew) = wo at hown hbelow ⊢
  clear heq
  have HO := Lib.hid hown
  have HA := Lib.hid hall0
  clear hown hall0 hcl hi hz0 hz1 hz2
  generalize w1.heap.size = g at *
  clear HROW HX HAPP
  go_wp2
  go_loopw [12] (fun iv wr => ∃ (j : Nat) (ys : List Value), j ≤ len ∧ iv = .int .i64 j ∧ wr.ownsRow w.heap.size 5 1 (.slice (some ⟨g, 0, none⟩) (len + 15) G) (len + 15) ys ∧ (∀ v ∈ ys, IsB v) ∧ Below w.heap.size w wr) (fun iv _ => len - (intOf iv).toNat)
  case atStart => exact ⟨0, ys0, Nat.zero_le _, rfl, HO.out, HA.out, hbelow⟩
  case round =>
    obtain ⟨j, ys, hj, rfl, hrow, hall, hB⟩ := hrel
    have HALL := Lib.hid hall
    have HROW := Lib.hid hrow
    by_cases hjl : j < len
    · obtain ⟨x, hcell, hm⟩ := owns_cell hrow j (by omega)
      obtain ⟨z, rfl, z0, z1⟩ := hall x hm
      clear hm hrow hall
      have hdv := HD.out.below hB
      have d0 := hdv 0 (by omega)
      have d1 := hdv 1 (by omega)
      have d2 := hdv 2 (by omega)
      have d3 := hdv 3 (by omega)
      have d4 := hdv 4 (by omega)
      have d5 := hdv 5 (by omega)
      have d6 := hdv 6 (by omega)
      have d7 := hdv 7 (by omega)
      have d8 := hdv 8 (by omega)
      have d9 := hdv 9 (by omega)
      have d10 := hdv 10 (by omega)
      have d11 := hdv 11 (by omega)
      have d12 := hdv 12 (by omega)
      have d13 := hdv 13 (by omega)
      have d14 := hdv 14 (by omega)
      have d15 := hdv 15 (by omega)
      simp only [dv, List.getD_cons_zero, List.getD_cons_succ] at d0 d1 d2 d3 d4 d5 d6 d7 d8 d9 d10 d11 d12 d13 d14 d15
      have hdl := hdv.lt
      clear hdv
      by_cases hz : z = 0
      · subst hz
        go_wp2
        go_roundw
        case rel => exact ⟨j + 1, ys, by omega, by go_num, HROW.out, HALL.out, hB⟩
        case measure => simp [intOf]; omega
      · have hz' : (z == 0) = false := by simpa using hz
        go_wp2
        clear d0 d1 d2 d3 d4 d5 d6 d7 d8 d9 d10 d11 d12 d13 d14 d15 hcell
        obtain ⟨wi, rfl⟩ : ∃ wi : World, wi = wr := ⟨_, rfl⟩
        go_loopw [21] (fun kv wr => ∃ (k : Nat) (zs : List Value), k ≤ 16 ∧ kv = .int .i64 k ∧ wr.ownsRow w.heap.size 5 1 (.slice (some ⟨g, 0, none⟩) (len + 15) G) (len + 15) zs ∧ (∀ v ∈ zs, IsB v) ∧ Below w.heap.size w wr) (fun kv _ => 16 - (intOf kv).toNat)
        case atStart => exact ⟨0, ys, Nat.zero_le _, rfl, HROW.out, HALL.out, hB⟩
        case round =>
          obtain ⟨k, zs, hk, rfl, hrow2, hall2, hB2⟩ := hrel
          have HALL2 := Lib.hid hall2
          have HROW2 := Lib.hid hrow2
          by_cases hk16 : k < 16
          · obtain ⟨x, hcell, hm⟩ := owns_cell hrow2 (j + k) (by omega)
            obtain ⟨y, rfl, y0, y1⟩ := hall2 x hm
            have hfr := hrow2.frozenAt (j + k)
            have hst := Lib.hid (fun u => hrow2.stored (j + k) u)
            have hix := idx_div k hk16
            have hg := (hrow2.lt g rfl).1
            clear hm hrow2 hall2
            go_wp2
            go_roundw
            case rel =>
              refine ⟨k + 1, _, by omega, by go_num, (hst.out _).1, ?_, hB2.setCell hg _⟩
              intro v hv
              rcases List.mem_or_eq_of_mem_set hv with h | h
              · exact HALL2.out v h
              · exact ⟨_, h, xor_u8_bd _ _⟩
            case measure => simp [intOf]; omega
          · obtain rfl : k = 16 := by omega
            go_wp2
            go_roundw
            case rel => exact ⟨j + 1, zs, by omega, by go_num, HROW2.out, HALL2.out, hB2⟩
            case measure => simp [intOf]; omega
    · obtain rfl : j = len := by omega
      have hrd : RdB wr (.slice (some ⟨g, j, none⟩) 15 (G - j)) 15 := by
        rcases RdB.of_row hrow hall with ⟨e, _⟩ | ⟨b, off, c, e, h1, h2, h3⟩
        · cases e
        · cases e
          refine .inr ⟨g, j, _, rfl, h1, by omega, fun k hk => ?_⟩
          have := h3 (j + k) (by omega)
          simpa using this
      have HNUM := Lib.hid (number_any _ 15 (by omega) wr hrd)
      have hG' : (G : Int) ≤ 9223372036854775807 := by unfold maxLen at hG2; omega
      clear hrow hall hrd
      go_wp2_with (go_at_call 83; refine HNUM.out.mono ?_; rintro e w3 ⟨⟨n, rfl, n0, n1⟩, hb3⟩)
      simp only [Exit.noGoto_ret]
      go_ret
      exact ⟨⟨_, rfl, wrap_u16_bd n⟩, hB.trans (hb3.mono hB.size)⟩

set_option maxRecDepth 100000 in
set_option maxHeartbeats 2000000 in
/-- crc.Seal: fifteen bits more. -/
theorem seal_any (v : Value) (len : Nat) (hlen : len ≤ 10000) (w : World) (hr : RdB w v len) (hd : Div w) :
    Calls Tryd.prog 57 #[v] w fun e w' => ∃ r xs, e = .returned r ∧ w'.ownsRow w.heap.size 5 1 r (len + 15) xs ∧ (∀ v ∈ xs, IsB v) ∧ Below w.heap.size w w' := by
  obtain ⟨i0, hi, hz0, hz1, hz2⟩ := info_parts info5
  obtain ⟨a, cap, rfl⟩ := hr.slice
  have HR := Lib.hid hr
  have HD := Lib.hid hd
  clear hr hd
  have C1 : Hid (len + 15 ≤ maxLen) := Lib.hid (by unfold maxLen; omega)
  have C2 : Hid ((len + 15) * 1 ≤ 140737488355328) := Lib.hid (by omega)
  go_enter Tryd.func57, Tryd.ntmps57
  go_wp2_with fail
  refine (clean_any _ _ (by omega) w HR.out).mono ?_
  rintro e w1 ⟨xs, rfl, hrow, hx, hb⟩
  have HROW := Lib.hid hrow
  have HX := Lib.hid hx
  clear hrow hx
  go_wp2_with fail
  refine (sum_any _ _ hlen w1 (HR.out.below hb) (HD.out.below hb)).mono ?_
  rintro e w2 ⟨⟨n, rfl, n0, n1⟩, hb2⟩
  go_wp2_with fail
  refine (crcBits_any n w2 n0 n1).mono ?_
  rintro e w3 ⟨r, ys, rfl, hrow3, hx3, hb3⟩
  have H3 := Lib.hid hrow3
  have HX3 := Lib.hid hx3
  clear hrow3 hx3
  have hs : w.heap.size ≤ w3.heap.size := Nat.le_trans hb.size (Nat.le_trans hb2.size hb3.size)
  have HO := Lib.hid (owns_below (owns_below HROW.out hb2) hb3)
  obtain ⟨g, cp, rfl⟩ : ∃ g cp, r = .slice (some ⟨g, 0, none⟩) 15 cp := by
    rcases H3.out.2 with ⟨_, e⟩ | ⟨g, c, cur, rfl, _⟩
    · cases e
    · exact ⟨_, _, rfl⟩
  go_wp2_with (at_builtin; refine wpList_append_own _ rfl _ _ 89 rfl w.heap.size 5 i0 (.int .u8 0) 1 1 Tryd.underlying89 hi hz0 hz1 hz2 rfl (by decide) _ _ xs rfl HO.out ⟨g, 0, none⟩ 15 cp ys rfl H3.out.1 (H3.out.cells rfl) (fun u hu => by obtain ⟨z, hz, _⟩ := HX3.out u hu; rw [hz]; rfl) C1.out C2.out hs ?_; intro v' w4 hown' hgrow _; have HOWN := Lib.hid hown'; clear hown')
  go_ret
  exact ⟨_, xs ++ ys, rfl, HOWN.out, (fun u hu => (List.mem_append.1 hu).elim (HX.out u) (HX3.out u)), (hb.trans ((hb2.trans (hb3.mono hb2.size)).mono hb.size)).grown hgrow hs (fun k e => (HO.out.lt k (show _ = some k from e)).1)⟩
end Go.Proofs.YtkbninfdehppiaaDoor
