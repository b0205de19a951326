/-
Contracts of stream.all's iterators, of stream.first and of stream.Check, at streams that can be.
Conditions: as each theorem states them.
-/
import Derived.RangeFuncBox
import Derived.RangeFuncLeaves
import Derived.RangeFuncBound
import Derived.RangeFuncCalls
import Derived.RangeFuncNested
import Derived.Shelf.Abstract
import Derived.Shelf.RegionOpen
import Derived.OwnWalkIn
import Derived.TacticsInMore
import Derived.LoopNIn
import Derived.LoopIn
import Derived.Test.YtkbninfdehppiaaDoorC2
namespace Go.Proofs.YtkbninfdehppiaaDoor
open Go Go.Proofs Go.RowKit Go.Shelf

attribute [local go_sem] Oper.semAt_some

theorem grownBy_of_below {W W' : World} (h : Below W.heap.size W W') : W.grownBy W' none :=
  ⟨h.os, h.tape, h.output, h.size, fun k hk _ => h.block k hk⟩
theorem RdS.belowN {n₀ : Nat} {w w' : World} {v : Value} {ss : List Str} (h : RdS w v ss) (hb : Below n₀ w w') (hlt : ∀ b off cap, v = .slice (some ⟨b, off, none⟩) ss.length cap → b < n₀) : RdS w' v ss := by
  rcases h with h | ⟨b, off, cap, rfl, hl, hcap, hc⟩
  · exact .inl h
  · refine .inr ⟨b, off, cap, rfl, Nat.lt_of_lt_of_le hl hb.size, hcap, fun j hj => ?_⟩
    obtain ⟨a0, a1, a2, a3, a4, a5, a6⟩ := hc j hj
    have k := fun o => hb.cell (p := ⟨b, o, none⟩) (hlt b off cap rfl)
    exact ⟨(k _).trans a0, (k _).trans a1, (k _).trans a2, (k _).trans a3, (k _).trans a4, (k _).trans a5, (k _).trans a6⟩
theorem RdS.lt {w : World} {v : Value} {ss : List Str} (h : RdS w v ss) : ∀ b off cap, v = .slice (some ⟨b, off, none⟩) ss.length cap → b < w.heap.size := by
  rcases h with ⟨rfl, rfl⟩ | ⟨b, off, cap, rfl, hb, _⟩
  · intro b off cap e; cases e
  · intro b' off' cap' e; cases e; exact hb

abbrev encN (x : Nat) : Array Value := #[.int .i64 (x : Int), .int .i64 0]

theorem all_any (a : Option Addr) (len cap g : Nat) (lb : Array Value) (w : World) :
    Calls Tryd.prog 38 #[.slice a len cap, .func (.func g) #[] lb] w fun e w' => e = .returned (.func (.func 50) #[] #[.pointer (some ⟨w.heap.size, 0, none⟩), .pointer (some ⟨w.heap.size + 1, 0, none⟩)]) ∧ w' = (w.alloc (.cells #[.slice a len cap] 22)).alloc (.cells #[.func (.func g) #[] lb] 68) := by
  go_enter Tryd.func38, Tryd.ntmps38
  go_wp2
  go_ret
  exact ⟨rfl, rfl⟩

/-- What a rule tells of each stream: nothing is wrong. -/
def RuleOk (g : Nat) (lb : Array Value) (ss : List Str) (n₀ : Nat) (w : World) : Prop :=
  ∀ (i : Nat) (hi : i < ss.length) (W : World), Below n₀ w W → Calls Tryd.prog g (#[.int .i64 (i : Int), ss[i].val] ++ lb) W fun e w' => e = .returned (.int .i64 0) ∧ Below W.heap.size W w'

set_option maxRecDepth 100000 in
set_option maxHeartbeats 2000000 in
theorem all1_in1 (n : Nat) (hn : 1 ≤ n) (l B1 B2 n₀ : Nat) (v : Value) (ss : List Str) (hlen : ss.length ≤ 1000000) (J Jx : List Nat → World → Prop) (W : World) (hJ : AbidesFrom W.heap.size J)
    (hY : ∀ pre x W, J pre W → pre.length < ss.length → YieldAt Fence.wide (n - 1) Tryd.prog l (encN x) W fun e W' =>
      (e = .returned (.bool true) ∧ J (pre ++ [x]) W' ∧ Below n₀ W W') ∨ (e = .returned (.bool false) ∧ Jx (pre ++ [x]) W'))
    (hn₀ : n₀ ≤ W.heap.size) (c1 : W.cell? ⟨B1, 0, none⟩ = some v) (c2 : W.cell? ⟨B2, 0, none⟩ = some (.func (.func 32) #[] #[])) (hB2 : B2 < n₀)
    (hr : RdS W v ss) (hlt : ∀ b off cap, v = .slice (some ⟨b, off, none⟩) ss.length cap → b < n₀) (hrule : RuleOk 32 #[] ss n₀ W) (h0 : J [] W) :
    CallsIn Fence.wide n Tryd.prog 50 #[.func (.yield l) #[] #[], .pointer (some ⟨B1, 0, none⟩), .pointer (some ⟨B2, 0, none⟩)] W fun e W' => (∃ v, e = .returned v) ∧
      ((∃ ys : List Nat, ys.length = ss.length ∧ J ys W') ∨ (∃ pre, True ∧ Jx pre W')) := by
  obtain ⟨a, cap, rfl⟩ := hr.slice
  have HR := Lib.hid hr
  have HLT := Lib.hid hlt
  have HRULE := Lib.hid hrule
  have HJ := Lib.hid hJ
  clear hr hlt hrule hJ
  refine callsIn_of_wp Tryd.func50 rfl trivial ?_ rfl
  simp only [Tryd.ntmps50, List.size_toArray, List.length_cons, List.length_nil, Nat.reduceAdd, Nat.reduceSub, Array.replicate_succ, Array.replicate_zero, List.push_toArray, List.append_toArray, List.nil_append, List.cons_append]
  gi_wp2
  gi_loopw [8] (fun i wr => ∃ (k : Nat) (pre : List Nat), k ≤ ss.length ∧ i = .int .i64 k ∧ pre.length = k ∧ J pre wr ∧ Below n₀ W wr) (fun i _ => ss.length - (intOf i).toNat)
  case atStart => exact ⟨0, [], Nat.zero_le _, rfl, rfl, h0, Below.refl _ _⟩
  case round =>
    obtain ⟨k, pre, hk, rfl, hpre, hJs, hnx⟩ := hrel
    have HP := Lib.hid hpre
    have HJS := Lib.hid hJs
    clear hpre hJs
    by_cases hlt' : k < ss.length
    · rcases HR.out.belowN hnx HLT.out with ⟨_, e2⟩ | ⟨b, off, cap', e1, hl, hcap, hcc⟩
      · rw [e2] at hlt'; simp at hlt'
      · cases e1
        obtain ⟨a0, a1, a2, a3, a4, a5, a6⟩ := hcc k hlt'
        clear hcc
        have hc2 := (hnx.cell (p := ⟨B2, 0, none⟩) hB2).trans c2
        have hB2l : B2 < wr.heap.size := Nat.lt_of_lt_of_le hB2 (Nat.le_trans hn₀ hnx.size)
        have hn₁ : n₀ ≤ wr.heap.size := Nat.le_trans hn₀ hnx.size
        have hnx2 := hnx.alloc hn₁ (.cells #[.int .i64 ss[k].id, .int .i64 ss[k].node, .int .i64 ss[k].cls, .int .i64 ss[k].per, .int .i64 ss[k].dl, .int .i64 ss[k].slot, .int .i64 ss[k].byt] 27)
        have hcon := Lib.hid (HRULE.out k hlt' _ hnx2)
        have HNX2 := Lib.hid hnx2
        clear hnx2
        generalize hsj : ss[k] = sj at *
        obtain ⟨id', node, cls, per, dl, slot, byt⟩ := sj
        dsimp only at a0 a1 a2 a3 a4 a5 a6 hcon HNX2
        clear hsj
        gi_wp2_with (refine ⟨trivial, ?_⟩; gi_at_call 32; refine (callsIn_wide.2 hcon.out).mono ?_; rintro e w1 ⟨rfl, hb1⟩; obtain ⟨fn, tmps, assign, body, hy, hR⟩ := hY pre k w1 (HJ.out _ _ _ none (HJ.out _ _ _ none HJS.out (World.grownBy_alloc wr _ none) (by simp)) (grownBy_of_below hb1) (by simp)) (by rw [HP.out]; exact hlt'))
        refine hR.mono ?_
        have hw1 : Below n₀ W w1 := HNX2.out.trans (hb1.mono (by simp; omega))
        have HW1 := Lib.hid hw1
        clear hw1
        rintro e W3 (⟨rfl, hJ3, hk3⟩ | ⟨rfl, hJx3⟩)
        · gi_wp2
          go_roundw
          case rel => exact ⟨k + 1, _, by omega, by simp, by rw [List.length_append, HP.out]; rfl, hJ3, HW1.out.trans hk3⟩
          case measure => simp [intOf]; omega
        · gi_wp2
          refine bodyPost_ret (results_none rfl _ _ _) rfl ?_
          exact ⟨⟨_, rfl⟩, .inr ⟨_, trivial, hJx3⟩⟩
    · obtain rfl : k = ss.length := by omega
      gi_wp2
      go_end0
      exact ⟨⟨_, rfl⟩, .inl ⟨_, HP.out, HJS.out⟩⟩

set_option maxRecDepth 100000 in
set_option maxHeartbeats 2000000 in
theorem all1_in2 (n : Nat) (hn : 1 ≤ n) (l B1 B2 n₀ B3 : Nat) (v : Value) (ss : List Str) (hlen : ss.length ≤ 1000000) (J Jx : List Nat → World → Prop) (W : World) (hJ : AbidesFrom W.heap.size J)
    (hY : ∀ pre x W, J pre W → pre.length < ss.length → YieldAt Fence.wide (n - 1) Tryd.prog l (encN x) W fun e W' =>
      (e = .returned (.bool true) ∧ J (pre ++ [x]) W' ∧ Below n₀ W W') ∨ (e = .returned (.bool false) ∧ Jx (pre ++ [x]) W'))
    (hn₀ : n₀ ≤ W.heap.size) (c1 : W.cell? ⟨B1, 0, none⟩ = some v) (c2 : W.cell? ⟨B2, 0, none⟩ = some (.func (.func 33) #[] #[.pointer (some ⟨B3, 0, none⟩)])) (hB2 : B2 < n₀)
    (hr : RdS W v ss) (hlt : ∀ b off cap, v = .slice (some ⟨b, off, none⟩) ss.length cap → b < n₀) (hrule : RuleOk 33 #[.pointer (some ⟨B3, 0, none⟩)] ss n₀ W) (h0 : J [] W) :
    CallsIn Fence.wide n Tryd.prog 50 #[.func (.yield l) #[] #[], .pointer (some ⟨B1, 0, none⟩), .pointer (some ⟨B2, 0, none⟩)] W fun e W' => (∃ v, e = .returned v) ∧
      ((∃ ys : List Nat, ys.length = ss.length ∧ J ys W') ∨ (∃ pre, True ∧ Jx pre W')) := by
  obtain ⟨a, cap, rfl⟩ := hr.slice
  have HR := Lib.hid hr
  have HLT := Lib.hid hlt
  have HRULE := Lib.hid hrule
  have HJ := Lib.hid hJ
  clear hr hlt hrule hJ
  refine callsIn_of_wp Tryd.func50 rfl trivial ?_ rfl
  simp only [Tryd.ntmps50, List.size_toArray, List.length_cons, List.length_nil, Nat.reduceAdd, Nat.reduceSub, Array.replicate_succ, Array.replicate_zero, List.push_toArray, List.append_toArray, List.nil_append, List.cons_append]
  gi_wp2
  gi_loopw [8] (fun i wr => ∃ (k : Nat) (pre : List Nat), k ≤ ss.length ∧ i = .int .i64 k ∧ pre.length = k ∧ J pre wr ∧ Below n₀ W wr) (fun i _ => ss.length - (intOf i).toNat)
  case atStart => exact ⟨0, [], Nat.zero_le _, rfl, rfl, h0, Below.refl _ _⟩
  case round =>
    obtain ⟨k, pre, hk, rfl, hpre, hJs, hnx⟩ := hrel
    have HP := Lib.hid hpre
    have HJS := Lib.hid hJs
    clear hpre hJs
    by_cases hlt' : k < ss.length
    · rcases HR.out.belowN hnx HLT.out with ⟨_, e2⟩ | ⟨b, off, cap', e1, hl, hcap, hcc⟩
      · rw [e2] at hlt'; simp at hlt'
      · cases e1
        obtain ⟨a0, a1, a2, a3, a4, a5, a6⟩ := hcc k hlt'
        clear hcc
        have hc2 := (hnx.cell (p := ⟨B2, 0, none⟩) hB2).trans c2
        have hB2l : B2 < wr.heap.size := Nat.lt_of_lt_of_le hB2 (Nat.le_trans hn₀ hnx.size)
        have hn₁ : n₀ ≤ wr.heap.size := Nat.le_trans hn₀ hnx.size
        have hnx2 := hnx.alloc hn₁ (.cells #[.int .i64 ss[k].id, .int .i64 ss[k].node, .int .i64 ss[k].cls, .int .i64 ss[k].per, .int .i64 ss[k].dl, .int .i64 ss[k].slot, .int .i64 ss[k].byt] 27)
        have hcon := Lib.hid (HRULE.out k hlt' _ hnx2)
        have HNX2 := Lib.hid hnx2
        clear hnx2
        generalize hsj : ss[k] = sj at *
        obtain ⟨id', node, cls, per, dl, slot, byt⟩ := sj
        dsimp only at a0 a1 a2 a3 a4 a5 a6 hcon HNX2
        clear hsj
        gi_wp2_with (refine ⟨trivial, ?_⟩; gi_at_call 33; refine (callsIn_wide.2 hcon.out).mono ?_; rintro e w1 ⟨rfl, hb1⟩; obtain ⟨fn, tmps, assign, body, hy, hR⟩ := hY pre k w1 (HJ.out _ _ _ none (HJ.out _ _ _ none HJS.out (World.grownBy_alloc wr _ none) (by simp)) (grownBy_of_below hb1) (by simp)) (by rw [HP.out]; exact hlt'))
        refine hR.mono ?_
        have hw1 : Below n₀ W w1 := HNX2.out.trans (hb1.mono (by simp; omega))
        have HW1 := Lib.hid hw1
        clear hw1
        rintro e W3 (⟨rfl, hJ3, hk3⟩ | ⟨rfl, hJx3⟩)
        · gi_wp2
          go_roundw
          case rel => exact ⟨k + 1, _, by omega, by simp, by rw [List.length_append, HP.out]; rfl, hJ3, HW1.out.trans hk3⟩
          case measure => simp [intOf]; omega
        · gi_wp2
          refine bodyPost_ret (results_none rfl _ _ _) rfl ?_
          exact ⟨⟨_, rfl⟩, .inr ⟨_, trivial, hJx3⟩⟩
    · obtain rfl : k = ss.length := by omega
      gi_wp2
      go_end0
      exact ⟨⟨_, rfl⟩, .inl ⟨_, HP.out, HJS.out⟩⟩

set_option maxRecDepth 100000 in
set_option maxHeartbeats 2000000 in
theorem all1_in3 (n : Nat) (hn : 1 ≤ n) (l B1 B2 n₀ B3 : Nat) (v : Value) (ss : List Str) (hlen : ss.length ≤ 1000000) (J Jx : List Nat → World → Prop) (W : World) (hJ : AbidesFrom W.heap.size J)
    (hY : ∀ pre x W, J pre W → pre.length < ss.length → YieldAt Fence.wide (n - 1) Tryd.prog l (encN x) W fun e W' =>
      (e = .returned (.bool true) ∧ J (pre ++ [x]) W' ∧ Below n₀ W W') ∨ (e = .returned (.bool false) ∧ Jx (pre ++ [x]) W'))
    (hn₀ : n₀ ≤ W.heap.size) (c1 : W.cell? ⟨B1, 0, none⟩ = some v) (c2 : W.cell? ⟨B2, 0, none⟩ = some (.func (.func 36) #[] #[.pointer (some ⟨B3, 0, none⟩)])) (hB2 : B2 < n₀)
    (hr : RdS W v ss) (hlt : ∀ b off cap, v = .slice (some ⟨b, off, none⟩) ss.length cap → b < n₀) (hrule : RuleOk 36 #[.pointer (some ⟨B3, 0, none⟩)] ss n₀ W) (h0 : J [] W) :
    CallsIn Fence.wide n Tryd.prog 50 #[.func (.yield l) #[] #[], .pointer (some ⟨B1, 0, none⟩), .pointer (some ⟨B2, 0, none⟩)] W fun e W' => (∃ v, e = .returned v) ∧
      ((∃ ys : List Nat, ys.length = ss.length ∧ J ys W') ∨ (∃ pre, True ∧ Jx pre W')) := by
  obtain ⟨a, cap, rfl⟩ := hr.slice
  have HR := Lib.hid hr
  have HLT := Lib.hid hlt
  have HRULE := Lib.hid hrule
  have HJ := Lib.hid hJ
  clear hr hlt hrule hJ
  refine callsIn_of_wp Tryd.func50 rfl trivial ?_ rfl
  simp only [Tryd.ntmps50, List.size_toArray, List.length_cons, List.length_nil, Nat.reduceAdd, Nat.reduceSub, Array.replicate_succ, Array.replicate_zero, List.push_toArray, List.append_toArray, List.nil_append, List.cons_append]
  gi_wp2
  gi_loopw [8] (fun i wr => ∃ (k : Nat) (pre : List Nat), k ≤ ss.length ∧ i = .int .i64 k ∧ pre.length = k ∧ J pre wr ∧ Below n₀ W wr) (fun i _ => ss.length - (intOf i).toNat)
  case atStart => exact ⟨0, [], Nat.zero_le _, rfl, rfl, h0, Below.refl _ _⟩
  case round =>
    obtain ⟨k, pre, hk, rfl, hpre, hJs, hnx⟩ := hrel
    have HP := Lib.hid hpre
    have HJS := Lib.hid hJs
    clear hpre hJs
    by_cases hlt' : k < ss.length
    · rcases HR.out.belowN hnx HLT.out with ⟨_, e2⟩ | ⟨b, off, cap', e1, hl, hcap, hcc⟩
      · rw [e2] at hlt'; simp at hlt'
      · cases e1
        obtain ⟨a0, a1, a2, a3, a4, a5, a6⟩ := hcc k hlt'
        clear hcc
        have hc2 := (hnx.cell (p := ⟨B2, 0, none⟩) hB2).trans c2
        have hB2l : B2 < wr.heap.size := Nat.lt_of_lt_of_le hB2 (Nat.le_trans hn₀ hnx.size)
        have hn₁ : n₀ ≤ wr.heap.size := Nat.le_trans hn₀ hnx.size
        have hnx2 := hnx.alloc hn₁ (.cells #[.int .i64 ss[k].id, .int .i64 ss[k].node, .int .i64 ss[k].cls, .int .i64 ss[k].per, .int .i64 ss[k].dl, .int .i64 ss[k].slot, .int .i64 ss[k].byt] 27)
        have hcon := Lib.hid (HRULE.out k hlt' _ hnx2)
        have HNX2 := Lib.hid hnx2
        clear hnx2
        generalize hsj : ss[k] = sj at *
        obtain ⟨id', node, cls, per, dl, slot, byt⟩ := sj
        dsimp only at a0 a1 a2 a3 a4 a5 a6 hcon HNX2
        clear hsj
        gi_wp2_with (refine ⟨trivial, ?_⟩; gi_at_call 36; refine (callsIn_wide.2 hcon.out).mono ?_; rintro e w1 ⟨rfl, hb1⟩; obtain ⟨fn, tmps, assign, body, hy, hR⟩ := hY pre k w1 (HJ.out _ _ _ none (HJ.out _ _ _ none HJS.out (World.grownBy_alloc wr _ none) (by simp)) (grownBy_of_below hb1) (by simp)) (by rw [HP.out]; exact hlt'))
        refine hR.mono ?_
        have hw1 : Below n₀ W w1 := HNX2.out.trans (hb1.mono (by simp; omega))
        have HW1 := Lib.hid hw1
        clear hw1
        rintro e W3 (⟨rfl, hJ3, hk3⟩ | ⟨rfl, hJx3⟩)
        · gi_wp2
          go_roundw
          case rel => exact ⟨k + 1, _, by omega, by simp, by rw [List.length_append, HP.out]; rfl, hJ3, HW1.out.trans hk3⟩
          case measure => simp [intOf]; omega
        · gi_wp2
          refine bodyPost_ret (results_none rfl _ _ _) rfl ?_
          exact ⟨⟨_, rfl⟩, .inr ⟨_, trivial, hJx3⟩⟩
    · obtain rfl : k = ss.length := by omega
      gi_wp2
      go_end0
      exact ⟨⟨_, rfl⟩, .inl ⟨_, HP.out, HJS.out⟩⟩
end Go.Proofs.YtkbninfdehppiaaDoor
