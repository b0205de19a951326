/-
Contracts of the functions on one stream that can be: class.Right, label, Right.
Conditions: the stream can be (Str.ok).
-/
import Derived.Test.YtkbninfdehppiaaDoorB1
namespace Go.Proofs.YtkbninfdehppiaaDoor
open Go Go.Proofs Go.RowKit

/-- A stream. -/
structure Str where
  id : Int
  node : Int
  cls : Int
  per : Int
  dl : Int
  slot : Int
  byt : Int
instance : Inhabited Str := ⟨⟨0, 0, 0, 0, 0, 0, 0⟩⟩

/-- Its value. -/
abbrev Str.val (s : Str) : Value := .agg #[.int .i64 s.id, .int .i64 s.node, .int .i64 s.cls, .int .i64 s.per, .int .i64 s.dl, .int .i64 s.slot, .int .i64 s.byt]

/-- A stream that can be. -/
structure Str.ok (s : Str) : Prop where
  id0 : 0 ≤ s.id
  id1 : s.id ≤ 2047
  node0 : 0 ≤ s.node
  node1 : s.node ≤ 31
  cls0 : 1 ≤ s.cls
  cls1 : s.cls ≤ 3
  per0 : 1 ≤ s.per
  per1 : s.per ≤ 1073741824
  dl0 : 1 ≤ s.dl
  dl1 : s.dl ≤ s.per
  slot0 : 0 ≤ s.slot
  slot1 : s.slot ≤ 255
  byt0 : 0 ≤ s.byt
  byt1 : s.byt ≤ 8

set_option maxHeartbeats 1000000 in
theorem classRight_ok (c s i n : Int) (w : World) (c0 : 1 ≤ c) (c1 : c ≤ 3) (s0 : 0 ≤ s) (s1 : s ≤ 255) (i0 : 0 ≤ i) (i1 : i ≤ 2047) (n0 : 0 ≤ n) (n1 : n ≤ 31) :
    Calls Tryd.prog 41 #[.agg #[.int .i64 c, .int .i64 s, .int .i64 i, .int .i64 n]] w fun e w' => e = .returned (.bool true) ∧ Below w.heap.size w w' := by
  have e1 : s / 256 = 0 := by omega
  have e2 : i / 2048 = 0 := by omega
  have e3 : n / 32 = 0 := by omega
  have hc : c = 1 ∨ c = 2 ∨ c = 3 := by omega
  rcases hc with rfl | rfl | rfl
  all_goals
    go_enter Tryd.func41, Tryd.ntmps41
    go_wp2
    go_ret
    exact ⟨rfl, (Below.refl _ _).alloc (Nat.le_refl _) _⟩

set_option maxHeartbeats 1000000 in
theorem label_any (s : Str) (w : World) :
    Calls Tryd.prog 42 #[s.val] w fun e w' => e = .returned (.agg #[.int .i64 s.cls, .int .i64 s.slot, .int .i64 s.id, .int .i64 s.node]) ∧ Below w.heap.size w w' := by
  go_enter Tryd.func42, Tryd.ntmps42
  go_wp2
  exact bodyPost_ret (v := .agg #[.int .i64 s.cls, .int .i64 s.slot, .int .i64 s.id, .int .i64 s.node]) (by simp [results, Tryd.results42, go_sem]) rfl ⟨rfl, (((Below.refl _ _).alloc (Nat.le_refl _) _).alloc (by simp) _)⟩

theorem withinT (n most : Int) (w : World) (h0 : 1 ≤ n) (h1 : n ≤ most) :
    Calls Tryd.prog 31 #[.int .i64 n, .int .i64 most] w fun e w' => e = .returned (.bool true) ∧ w = w' :=
  (within_any n most w).mono fun e w' ⟨h, h2⟩ => ⟨by rw [h]; exact ret_bool (by unfold withinB; simp; omega), h2⟩

set_option maxHeartbeats 2000000 in
theorem right_ok (s : Str) (w : World) (h : s.ok) :
    Calls Tryd.prog 27 #[s.val] w fun e w' => e = .returned (.int .i64 0) ∧ Below w.heap.size w w' := by
  obtain ⟨id, node, cls, per, dl, slot, byt⟩ := s
  obtain ⟨id0, id1, node0, node1, cls0, cls1, per0, per1, dl0, dl1, slot0, slot1, byt0, byt1⟩ := h
  dsimp only at *
  have hlab := fun w => label_any ⟨id, node, cls, per, dl, slot, byt⟩ w
  have HL := Lib.hid hlab
  clear hlab
  go_enter Tryd.func27, Tryd.ntmps27
  go_wp2_with (first
    | (go_at_call 42; refine (HL.out _).mono ?_; rintro e w1 ⟨rfl, hb⟩; obtain ⟨g1, g2⟩ := bcell hb; have gs : w.heap.size < w1.heap.size := by (have := hb.size; simp at this; omega))
    | (go_at_call 41; refine (classRight_ok _ _ _ _ _ cls0 cls1 slot0 slot1 id0 id1 node0 node1).mono ?_; rintro e w2 ⟨rfl, hb2⟩; obtain ⟨k1, k2⟩ := bcell hb2; have ks : w.heap.size < w2.heap.size := by (have := hb2.size; omega))
    | (go_at_call 31; refine (withinT _ _ _ (by omega) (by omega)).mono ?_; rintro e w3 ⟨rfl, rfl⟩))
  go_ret
  exact ⟨rfl, ((Below.refl _ _).alloc (Nat.le_refl _) _).trans ((hb.trans (hb2.mono hb.size)).mono (by simp))⟩

/-- A slice of streams that can be read. -/
def RdS (w : World) (v : Value) (ss : List Str) : Prop :=
  (v = .slice none 0 0 ∧ ss = []) ∨ ∃ b off cap, v = .slice (some ⟨b, off, none⟩) ss.length cap ∧ b < w.heap.size ∧ ss.length ≤ cap ∧ ∀ j (hj : j < ss.length),
    w.cell? ⟨b, off + j * 7, none⟩ = some (.int .i64 ss[j].id) ∧ w.cell? ⟨b, off + j * 7 + 1, none⟩ = some (.int .i64 ss[j].node) ∧ w.cell? ⟨b, off + j * 7 + 2, none⟩ = some (.int .i64 ss[j].cls) ∧
    w.cell? ⟨b, off + j * 7 + 3, none⟩ = some (.int .i64 ss[j].per) ∧ w.cell? ⟨b, off + j * 7 + 4, none⟩ = some (.int .i64 ss[j].dl) ∧ w.cell? ⟨b, off + j * 7 + 5, none⟩ = some (.int .i64 ss[j].slot) ∧ w.cell? ⟨b, off + j * 7 + 6, none⟩ = some (.int .i64 ss[j].byt)

theorem RdS.below {w w' : World} {v : Value} {ss : List Str} (h : RdS w v ss) (hb : Below w.heap.size w w') : RdS w' v ss := by
  rcases h with h | ⟨b, off, cap, rfl, hl, hcap, hc⟩
  · exact .inl h
  · refine .inr ⟨b, off, cap, rfl, Nat.lt_of_lt_of_le hl hb.size, hcap, fun j hj => ?_⟩
    obtain ⟨a0, a1, a2, a3, a4, a5, a6⟩ := hc j hj
    have k := fun o => hb.cell (p := ⟨b, o, none⟩) hl
    exact ⟨(k _).trans a0, (k _).trans a1, (k _).trans a2, (k _).trans a3, (k _).trans a4, (k _).trans a5, (k _).trans a6⟩
theorem RdS.slice {w : World} {v : Value} {ss : List Str} (h : RdS w v ss) : ∃ a cap, v = .slice a ss.length cap := by
  rcases h with ⟨rfl, rfl⟩ | ⟨b, off, cap, rfl, _⟩
  · exact ⟨_, _, rfl⟩
  · exact ⟨_, _, rfl⟩
theorem RdS.alloc {w : World} {v : Value} {ss : List Str} (h : RdS w v ss) (o : Obj) : RdS (w.alloc o) v ss := h.below ((Below.refl _ _).alloc (Nat.le_refl _) o)

theorem find1_any (s : Str) (id : Int) (B : Nat) (w : World) (hB : B < w.heap.size) (hc : w.cell? ⟨B, 0, none⟩ = some (.int .i64 id)) :
    Calls Tryd.prog 49 #[s.val, .pointer (some ⟨B, 0, none⟩)] w fun e w' => e = .returned (.bool (s.id == id)) ∧ Below w.heap.size w w' := by
  go_enter Tryd.func49, Tryd.ntmps49
  go_wp2
  go_ret
  exact ⟨rfl, (Below.refl _ _).alloc (Nat.le_refl _) _⟩

set_option maxRecDepth 100000 in
set_option maxHeartbeats 1000000 in
theorem indexFuncS (v : Value) (ss : List Str) (id : Int) (B : Nat) (w : World) (hn : ss.length ≤ 1000000) (hr : RdS w v ss) (hB : B < w.heap.size) (hc : w.cell? ⟨B, 0, none⟩ = some (.int .i64 id)) :
    Calls Tryd.prog 48 #[v, .func (.func 49) #[] #[.pointer (some ⟨B, 0, none⟩)]] w fun e w' => ∃ r : Int, e = .returned (.int .i64 r) ∧
      ((r = -1 ∧ ∀ j (hj : j < ss.length), ss[j].id ≠ id) ∨ ∃ (i : Nat) (hi : i < ss.length), r = i ∧ ss[i].id = id ∧ ∀ j (hj : j < i), ss[j].id ≠ id) ∧ Below w.heap.size w w' := by
  obtain ⟨a, cap, rfl⟩ := hr.slice
  have HR := Lib.hid hr
  have HC := Lib.hid hc
  clear hr hc
  go_enter Tryd.func48, Tryd.ntmps48
  go_wp2
  go_loopw [8] (fun iv wr => ∃ j : Nat, j ≤ ss.length ∧ iv = .int .i64 j ∧ (∀ k (hk : k < ss.length), k < j → ss[k].id ≠ id) ∧ Below w.heap.size w wr) (fun iv _ => ss.length - (intOf iv).toNat)
  case atStart => exact ⟨0, Nat.zero_le _, rfl, fun k hk h => by omega, Below.refl _ _⟩
  case round =>
    obtain ⟨j, hj, rfl, hne, hbw⟩ := hrel
    have HNE := Lib.hid hne
    clear hne
    by_cases hjn : j < ss.length
    · rcases HR.out.below hbw with ⟨_, e2⟩ | ⟨b, off, cap', e1, hl, hcap, hcc⟩
      · rw [e2] at hjn; simp at hjn
      · cases e1
        obtain ⟨a0, a1, a2, a3, a4, a5, a6⟩ := hcc j hjn
        clear hcc
        have hbx := (hbw.cell (p := ⟨B, 0, none⟩) hB).trans HC.out
        have hBl : B < wr.heap.size := Nat.lt_of_lt_of_le hB hbw.size
        have hcon := Lib.hid (find1_any ss[j] id B wr hBl hbx)
        generalize hsj : ss[j] = sj at *
        obtain ⟨id', node, cls, per, dl, slot, byt⟩ := sj
        dsimp only at a0 a1 a2 a3 a4 a5 a6
        have HSJ := Lib.hid hsj
        clear hsj hbx
        by_cases hid : id' = id
        · have ht : (id' == id) = true := by simpa using hid
          have HID := Lib.hid hid
          clear hid
          go_wp2_with (go_at_call 49; refine hcon.out.mono ?_; rintro e w1 ⟨rfl, hb1⟩)
          go_ret
          refine ⟨j, rfl, .inr ⟨j, hjn, rfl, ?_, fun k hk => HNE.out k (by omega) hk⟩, hbw.trans (hb1.mono hbw.size)⟩
          rw [HSJ.out]; exact HID.out
        · have ht : (id' == id) = false := by simpa using hid
          have HID := Lib.hid hid
          clear hid
          go_wp2_with (go_at_call 49; refine hcon.out.mono ?_; rintro e w1 ⟨rfl, hb1⟩)
          go_roundw
          case rel =>
            refine ⟨j + 1, by omega, by go_num, fun k hk hkj => ?_, hbw.trans (hb1.mono hbw.size)⟩
            by_cases e : k = j
            · subst e; rw [HSJ.out]; exact HID.out
            · exact HNE.out k hk (by omega)
          case measure => simp [intOf]; omega
    · go_wp2
      go_ret
      exact ⟨-1, rfl, .inl ⟨rfl, fun k hk => HNE.out k hk (by omega)⟩, hbw⟩
end Go.Proofs.YtkbninfdehppiaaDoor
