/-
Contracts of demand.due, its iterator and demand.jobs, at streams that can be.
Conditions: as each theorem states them.
-/
import Derived.Test.YtkbninfdehppiaaDoorD1
namespace Go.Proofs.YtkbninfdehppiaaDoor
open Go Go.Proofs Go.RowKit Go.Shelf

attribute [local go_sem] Oper.semAt_some

/-- A stream of the list that has deadlines. -/
abbrev DS (ss : List Str) : Type := { s : Str // s ∈ ss ∧ s.cls = 1 }
abbrev encDS (ss : List Str) (x : DS ss) : Array Value := #[x.1.val]
/-- The streams of a list that have deadlines. -/
def edf (ss : List Str) : List Str := ss.filter (fun s => s.cls == 1)

theorem edf_take1 (ss : List Str) (k : Nat) (hk : k < ss.length) (h : ss[k].cls = 1) : edf (ss.take (k + 1)) = edf (ss.take k) ++ [ss[k]] := by
  unfold edf
  rw [List.take_succ_eq_append_getElem hk, List.filter_append]
  simp [h]
theorem edf_take0 (ss : List Str) (k : Nat) (hk : k < ss.length) (h : ss[k].cls ≠ 1) : edf (ss.take (k + 1)) = edf (ss.take k) := by
  unfold edf
  rw [List.take_succ_eq_append_getElem hk, List.filter_append]
  simp [h]
theorem edf_len (ss : List Str) (k : Nat) (hk : k < ss.length) : (edf (ss.take k)).length < ss.length := by
  have h := List.length_filter_le (fun s : Str => s.cls == 1) (ss.take k)
  rw [List.length_take] at h
  unfold edf
  omega

theorem due_any (a : Option Addr) (len cap : Nat) (w : World) :
    Calls Tryd.prog 14 #[.slice a len cap] w fun e w' => e = .returned (.func (.func 21) #[] #[.pointer (some ⟨w.heap.size, 0, none⟩)]) ∧ w' = w.alloc (.cells #[.slice a len cap] 22) := by
  go_enter Tryd.func14, Tryd.ntmps14
  go_wp2
  go_ret
  exact ⟨rfl, rfl⟩

set_option maxRecDepth 100000 in
set_option maxHeartbeats 2000000 in
theorem due1_in (n : Nat) (hn : 1 ≤ n) (l B1 n₀ : Nat) (v : Value) (ss : List Str) (hlen : ss.length ≤ 1000000) (J Jx : List (DS ss) → World → Prop) (W : World) (hJ : AbidesFrom W.heap.size J)
    (hY : ∀ pre x W, J pre W → pre.length < ss.length → YieldAt Fence.wide (n - 1) Tryd.prog l (encDS ss x) W fun e W' =>
      (e = .returned (.bool true) ∧ J (pre ++ [x]) W' ∧ Below n₀ W W') ∨ (e = .returned (.bool false) ∧ Jx (pre ++ [x]) W'))
    (hn₀ : n₀ ≤ W.heap.size) (c1 : W.cell? ⟨B1, 0, none⟩ = some v)
    (hr : RdS W v ss) (hlt : ∀ b off cap, v = .slice (some ⟨b, off, none⟩) ss.length cap → b < n₀) (h0 : J [] W) :
    CallsIn Fence.wide n Tryd.prog 21 #[.func (.yield l) #[] #[], .pointer (some ⟨B1, 0, none⟩)] W fun e W' => (∃ v, e = .returned v) ∧
      ((∃ ys : List (DS ss), ys.map (·.1) = edf ss ∧ J ys W') ∨ (∃ pre, True ∧ Jx pre W')) := by
  obtain ⟨a, cap, rfl⟩ := hr.slice
  have HR := Lib.hid hr
  have HLT := Lib.hid hlt
  have HJ := Lib.hid hJ
  clear hr hlt hJ
  refine callsIn_of_wp Tryd.func21 rfl trivial ?_ rfl
  simp only [Tryd.ntmps21, List.size_toArray, List.length_cons, List.length_nil, Nat.reduceAdd, Nat.reduceSub, Array.replicate_succ, Array.replicate_zero, List.push_toArray, List.append_toArray, List.nil_append, List.cons_append]
  gi_wp2
  gi_loopw [7] (fun i wr => ∃ (k : Nat) (pre : List (DS ss)), k ≤ ss.length ∧ i = .int .i64 k ∧ pre.map (·.1) = edf (ss.take k) ∧ J pre wr ∧ Below n₀ W wr) (fun i _ => ss.length - (intOf i).toNat)
  case atStart => exact ⟨0, [], Nat.zero_le _, rfl, rfl, h0, Below.refl _ _⟩
  case round =>
    obtain ⟨k, pre, hk, rfl, hpre, hJs, hnx⟩ := hrel
    have HP := Lib.hid hpre
    have HJS := Lib.hid hJs
    clear hpre hJs
    by_cases hlt' : k < ss.length
    · rcases HR.out.belowN hnx HLT.out with ⟨_, e2⟩ | ⟨b, off, cap', e1, hl, hcap, hcc⟩
      · rw [e2] at hlt'; simp at hlt'
      · cases e1
        obtain ⟨a0, a1, a2, a3, a4, a5, a6⟩ := hcc k hlt'
        clear hcc
        have hn₁ : n₀ ≤ wr.heap.size := Nat.le_trans hn₀ hnx.size
        have hnx2 := hnx.alloc hn₁ (.cells #[.int .i64 ss[k].id, .int .i64 ss[k].node, .int .i64 ss[k].cls, .int .i64 ss[k].per, .int .i64 ss[k].dl, .int .i64 ss[k].slot, .int .i64 ss[k].byt] 27)
        have hJ2 := HJ.out _ _ _ none HJS.out (World.grownBy_alloc wr (.cells #[.int .i64 ss[k].id, .int .i64 ss[k].node, .int .i64 ss[k].cls, .int .i64 ss[k].per, .int .i64 ss[k].dl, .int .i64 ss[k].slot, .int .i64 ss[k].byt] 27) none) (by simp)
        have HJ2 := Lib.hid hJ2
        have HNX2 := Lib.hid hnx2
        clear hJ2 hnx2
        have hmem : ss[k] ∈ ss := List.getElem_mem hlt'
        have hplen : pre.length < ss.length := by
          have h1 := congrArg List.length HP.out
          rw [List.length_map] at h1
          have h2 := edf_len ss k hlt'
          omega
        by_cases hcls : ss[k].cls = 1
        · have HE := Lib.hid (edf_take1 ss k hlt' hcls)
          generalize hsj : ss[k] = sj at *
          obtain ⟨id', node, cls, per, dl, slot, byt⟩ := sj
          dsimp only at a0 a1 a2 a3 a4 a5 a6 HNX2 HJ2 hcls HE
          subst hcls
          clear hsj
          obtain ⟨fn, tmps, assign, body, hy, hR⟩ := hY pre ⟨⟨id', node, 1, per, dl, slot, byt⟩, hmem, rfl⟩ _ HJ2.out hplen
          gi_wp2
          refine hR.mono ?_
          rintro e W3 (⟨rfl, hJ3, hk3⟩ | ⟨rfl, hJx3⟩)
          · gi_wp2
            go_roundw
            case rel => exact ⟨k + 1, _, by omega, by simp, by rw [List.map_append, HP.out, HE.out]; rfl, hJ3, HNX2.out.trans hk3⟩
            case measure => simp [intOf]; omega
          · gi_wp2
            refine bodyPost_ret (results_none rfl _ _ _) rfl ?_
            exact ⟨⟨_, rfl⟩, .inr ⟨_, trivial, hJx3⟩⟩
        · have HE := Lib.hid (edf_take0 ss k hlt' hcls)
          generalize hsj : ss[k] = sj at *
          obtain ⟨id', node, cls, per, dl, slot, byt⟩ := sj
          dsimp only at a0 a1 a2 a3 a4 a5 a6 HNX2 HJ2 hcls HE
          clear hsj
          gi_wp2
          refine ⟨fun f hf => (by cases hf), ?_⟩
          gi_wp2
          go_roundw
          case rel => exact ⟨k + 1, pre, by omega, by simp, by rw [HP.out, HE.out], HJ2.out, HNX2.out⟩
          case measure => simp [intOf]; omega
    · obtain rfl : k = ss.length := by omega
      have he : pre.map (·.1) = edf ss := by rw [HP.out, List.take_length]
      have HE := Lib.hid he
      clear he
      gi_wp2
      go_end0
      exact ⟨⟨_, rfl⟩, .inl ⟨_, HE.out, HJS.out⟩⟩

theorem due_stops (n : Nat) (hn : 1 ≤ n) (B1 n₀ : Nat) (v : Value) (ss : List Str) (hlen : ss.length ≤ 1000000) (w : World) (hB1 : B1 < w.heap.size) (hn₀ : n₀ ≤ w.heap.size) (c1 : w.cell? ⟨B1, 0, none⟩ = some v) (hr : RdS w v ss)
    (hlt : ∀ b off cap, v = .slice (some ⟨b, off, none⟩) ss.length cap → b < n₀) :
    SeqStopsK Fence.wide n Tryd.prog 21 #[.pointer (some ⟨B1, 0, none⟩)] (encDS ss) (Below n₀) (fun ys => ys.map (·.1) = edf ss) (fun _ => True) ss.length w := fun l J Jx W hW hJ _ hY h0 =>
  due1_in n hn l B1 n₀ v ss hlen J Jx W hJ hY (Nat.le_trans hn₀ hW.size) ((hW.cell (p := ⟨B1, 0, none⟩) hB1).trans c1) (hr.below hW) hlt h0

/-- How many jobs of a stream come and are due within a span. -/
def jobsI (s : Str) (span len : Int) : Int := max ((span + len - 1 - s.dl) / s.per + 1) 0

theorem jobs_any (s : Str) (span len : Int) (w : World) (h : s.ok) (s0 : 0 ≤ span) (s1 : span ≤ 1000000) (l0 : 0 ≤ len) (l1 : len ≤ 1000000) :
    Calls Tryd.prog 20 #[s.val, .int .i64 span, .int .i64 len] w fun e w' => e = .returned (.int .i64 (jobsI s span len)) ∧ Below w.heap.size w w' := by
  obtain ⟨id, node, cls, per, dl, slot, byt⟩ := s
  obtain ⟨_, _, _, _, _, _, p0, p1, d0, d1, _, _, _, _⟩ := h
  dsimp only at p0 p1 d0 d1
  have hq0 : -1073741824 ≤ (span + len - 1 - dl) / per := by
    apply Int.le_ediv_of_mul_le (by omega)
    have : per * 1 ≤ per * 1073741824 := Int.mul_le_mul_of_nonneg_left (by omega) (by omega)
    omega
  have hq1 : (span + len - 1 - dl) / per ≤ 2000000 := Int.le_trans (Int.ediv_le_ediv (by omega) (show span + len - 1 - dl ≤ 2000000 by omega)) (Int.ediv_le_self _ (by omega))
  have hdv := Lib.hid (fun w => div_any (span + len - 1 - dl) per w (by omega) (by omega) (by omega))
  generalize hq : (span + len - 1 - dl) / per = q at *
  have HQ := Lib.hid hq
  clear hq
  go_enter Tryd.func20, Tryd.ntmps20
  go_wp2_with (go_at_call 39; refine (hdv.out _).mono ?_; rintro e w1 ⟨rfl, rfl⟩)
  all_goals (go_ret; exact ⟨ret_int (by unfold jobsI; dsimp only; rw [HQ.out]; omega), (Below.refl _ _).alloc (Nat.le_refl _) _⟩)
end Go.Proofs.YtkbninfdehppiaaDoor
