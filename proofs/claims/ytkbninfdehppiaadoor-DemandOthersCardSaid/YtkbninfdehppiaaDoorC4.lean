/-
Contracts of stream.first and of stream.Check, at streams that can be.
Conditions: as each theorem states them.
-/
import Derived.Test.YtkbninfdehppiaaDoorC3
namespace Go.Proofs.YtkbninfdehppiaaDoor
open Go Go.Proofs Go.RowKit Go.Shelf

attribute [local go_sem] Oper.semAt_some

set_option maxRecDepth 100000 in
set_option maxHeartbeats 2000000 in
theorem first_ok (B1 B2 N : Nat) (w : World)
    (hseq : SeqStopsK Fence.wide 4 Tryd.prog 50 #[.pointer (some ⟨B1, 0, none⟩), .pointer (some ⟨B2, 0, none⟩)] encN (Below w.heap.size) (fun ys => ys.length = N) (fun _ => True) N w) :
    Calls Tryd.prog 37 #[.func (.func 50) #[] #[.pointer (some ⟨B1, 0, none⟩), .pointer (some ⟨B2, 0, none⟩)]] w fun e w' => e = .returned (.tuple #[.int .i64 0, .int .i64 0]) ∧ Below w.heap.size w w' := by
  have HSEQ := Lib.hid hseq
  clear hseq
  refine (callsIn_wide (n := 5)).1 ?_
  have hro : Fence.wide.round = none := rfl
  refine callsIn_of_wp_marks Tryd.func37 rfl trivial ?_ rfl
  simp only [Tryd.ntmps37, List.size_toArray, List.length_cons, List.length_nil, Nat.reduceAdd, Nat.reduceSub, Array.replicate_succ, Array.replicate_zero, List.push_toArray, List.append_toArray, List.nil_append, List.cons_append]
  refine wpIn_wide.2 ?_
  go_wp2
  go_step3
  go_wp2
  go_step3
  go_wp2
  refine (wpIn_wide (n := 5)).1 ?_
  have bA := Boxed.new w 3 (.int .i64 0)
  have bB := Boxed.new (w.alloc (.cells #[.int .i64 0] 3)) 45 (.int .i64 0)
  rw [World.size_alloc] at bB
  have hB0 : Below w.heap.size w ((w.alloc (.cells #[.int .i64 0] 3)).alloc (.cells #[.int .i64 0] 45)) := ((Below.refl _ _).alloc (Nat.le_refl _) _).alloc (by simp) _
  refine wpIn_rangeFunc_ownG hro (by omega) (gf := 50) (lb := #[.pointer (some ⟨B1, 0, none⟩), .pointer (some ⟨B2, 0, none⟩)]) rfl trivial (enters_of Tryd.func50 (by kernel_rfl) rfl)
    HSEQ.out belowK_t (belowK_b (by simp; omega)) hB0 (fun _ => rfl)
    (fun _ W => (Boxed W w.heap.size 3 (.int .i64 0) ∧ Boxed W (w.heap.size + 1) 45 (.int .i64 0)) ∧ Below w.heap.size w W)
    (fun _ _ _ => False)
    (OwnFrom.and (OwnFrom.and (Own.from (boxed_own _ _ _) _) (Own.from (boxed_own _ _ _) _)) (ownFrom_below (Nat.le_refl _) (by simp; omega)))
    (fun _ _ _ _ _ hs _ _ => hs)
    ⟨⟨bA.alloc _, bB⟩, hB0⟩
    (fun x => { tmps := #[.func (.func 50) #[] #[.pointer (some ⟨B1, 0, none⟩), .pointer (some ⟨B2, 0, none⟩)], undef, .pointer (some ⟨w.heap.size, 0, none⟩), .pointer (some ⟨w.heap.size + 1, 0, none⟩), .int .i64 (x : Int), .int .i64 0, .func (.func 50) #[] #[.pointer (some ⟨B1, 0, none⟩), .pointer (some ⟨B2, 0, none⟩)], .int .i64 (x : Int), .int .i64 0, undef, undef, undef, undef], defers := [] }) ?assign ?body ?done ?stop
  case assign =>
    intro l x W K hK
    gi_wp2
    exact hK
  case body =>
    rintro l pre x W ⟨⟨h1, h2⟩, hB⟩ hlt
    gi_wp2
    exact ⟨KeepsFrom.refl _ _, Below.refl _ _, ⟨h1, h2⟩, hB⟩
  case done =>
    rintro D ys W hD _ ⟨⟨h1, h2⟩, hB⟩ hK
    have k1 := h1.cell
    have k2 := h2.cell
    have f1 := h1.frozen
    have f2 := h2.frozen
    go_wp2
    simp only [Exit.noGoto_ret]
    have e1 : Boxed ((W.setCell ⟨w.heap.size, 0, none⟩ (.int .i64 0)).setCell ⟨w.heap.size + 1, 0, none⟩ (.int .i64 0)) w.heap.size 3 (.int .i64 0) := (h1.set _).other (by omega) _
    have e2 : Boxed ((W.setCell ⟨w.heap.size, 0, none⟩ (.int .i64 0)).setCell ⟨w.heap.size + 1, 0, none⟩ (.int .i64 0)) (w.heap.size + 1) 45 (.int .i64 0) := (h2.other (by omega) _).set _
    have hBB : Below w.heap.size w ((W.setCell ⟨w.heap.size, 0, none⟩ (.int .i64 0)).setCell ⟨w.heap.size + 1, 0, none⟩ (.int .i64 0)) := (hB.setCell (by simp) _).setCell (by simp) _
    have hK2 := (KeepsOthers.setCell (W.setCell ⟨w.heap.size, 0, none⟩ (.int .i64 0)) ⟨w.heap.size + 1, 0, none⟩ (.int .i64 0)).same D _ ((KeepsOthers.setCell W ⟨w.heap.size, 0, none⟩ (.int .i64 0)).same D _ hK rfl) rfl
    generalize ((W.setCell ⟨w.heap.size, 0, none⟩ (.int .i64 0)).setCell ⟨w.heap.size + 1, 0, none⟩ (.int .i64 0)) = X at e1 e2 hBB hK2 ⊢
    have g1 := (e1.kept (grownBy_putObj' X D (.deferred none)) (fun e => by cases e; rw [show X.heap[w.heap.size]? = _ from e1] at hK2; cases hK2)).cell
    have g2 := (e2.kept (grownBy_putObj' X D (.deferred none)) (fun e => by cases e; rw [show X.heap[w.heap.size + 1]? = _ from e2] at hK2; cases hK2)).cell
    refine ⟨by simp, .inl ⟨_, _, rfl, run_takeDeferred hK2, ?_⟩⟩
    exact ⟨.tuple #[.int .i64 0, .int .i64 0], by simp [results, Tryd.results37, go_sem, g1, g2], rfl, hBB.trans (belowK_b (w := w) (Nat.le_refl _) X D _ _ (by simp at hD; omega) hK2 rfl rfl)⟩
  case stop =>
    rintro D c pre W _ _ h _
    exact h.elim

/-- The iterators' contracts, as first wants them. -/
theorem RuleOk.below {g : Nat} {lb : Array Value} {ss : List Str} {w W : World} (h : RuleOk g lb ss w.heap.size w) (hb : Below w.heap.size w W) : RuleOk g lb ss w.heap.size W :=
  fun i hi W' hW' => h i hi W' (hb.trans hW')

theorem all_stops1 (B1 B2 : Nat) (v : Value) (ss : List Str) (hlen : ss.length ≤ 1000000) (w : World) (hB1 : B1 < w.heap.size) (hB2 : B2 < w.heap.size) (c1 : w.cell? ⟨B1, 0, none⟩ = some v) (c2 : w.cell? ⟨B2, 0, none⟩ = some (.func (.func 32) #[] #[]))
    (hr : RdS w v ss) (hrule : RuleOk 32 #[] ss w.heap.size w) :
    SeqStopsK Fence.wide 4 Tryd.prog 50 #[.pointer (some ⟨B1, 0, none⟩), .pointer (some ⟨B2, 0, none⟩)] encN (Below w.heap.size) (fun ys => ys.length = ss.length) (fun _ => True) ss.length w := fun l J Jx W hW hJ _ hY h0 =>
  all1_in1 4 (by omega) l B1 B2 w.heap.size  v ss hlen J Jx W hJ hY hW.size ((hW.cell (p := ⟨B1, 0, none⟩) hB1).trans c1) ((hW.cell (p := ⟨B2, 0, none⟩) hB2).trans c2) hB2 (hr.below hW) hr.lt (hrule.below hW) h0

theorem all_stops2 (B1 B2 B3 : Nat) (v : Value) (ss : List Str) (hlen : ss.length ≤ 1000000) (w : World) (hB1 : B1 < w.heap.size) (hB2 : B2 < w.heap.size) (c1 : w.cell? ⟨B1, 0, none⟩ = some v) (c2 : w.cell? ⟨B2, 0, none⟩ = some (.func (.func 33) #[] #[.pointer (some ⟨B3, 0, none⟩)]))
    (hr : RdS w v ss) (hrule : RuleOk 33 #[.pointer (some ⟨B3, 0, none⟩)] ss w.heap.size w) :
    SeqStopsK Fence.wide 4 Tryd.prog 50 #[.pointer (some ⟨B1, 0, none⟩), .pointer (some ⟨B2, 0, none⟩)] encN (Below w.heap.size) (fun ys => ys.length = ss.length) (fun _ => True) ss.length w := fun l J Jx W hW hJ _ hY h0 =>
  all1_in2 4 (by omega) l B1 B2 w.heap.size B3 v ss hlen J Jx W hJ hY hW.size ((hW.cell (p := ⟨B1, 0, none⟩) hB1).trans c1) ((hW.cell (p := ⟨B2, 0, none⟩) hB2).trans c2) hB2 (hr.below hW) hr.lt (hrule.below hW) h0

theorem all_stops3 (B1 B2 B3 : Nat) (v : Value) (ss : List Str) (hlen : ss.length ≤ 1000000) (w : World) (hB1 : B1 < w.heap.size) (hB2 : B2 < w.heap.size) (c1 : w.cell? ⟨B1, 0, none⟩ = some v) (c2 : w.cell? ⟨B2, 0, none⟩ = some (.func (.func 36) #[] #[.pointer (some ⟨B3, 0, none⟩)]))
    (hr : RdS w v ss) (hrule : RuleOk 36 #[.pointer (some ⟨B3, 0, none⟩)] ss w.heap.size w) :
    SeqStopsK Fence.wide 4 Tryd.prog 50 #[.pointer (some ⟨B1, 0, none⟩), .pointer (some ⟨B2, 0, none⟩)] encN (Below w.heap.size) (fun ys => ys.length = ss.length) (fun _ => True) ss.length w := fun l J Jx W hW hJ _ hY h0 =>
  all1_in3 4 (by omega) l B1 B2 w.heap.size B3 v ss hlen J Jx W hJ hY hW.size ((hW.cell (p := ⟨B1, 0, none⟩) hB1).trans c1) ((hW.cell (p := ⟨B2, 0, none⟩) hB2).trans c2) hB2 (hr.below hW) hr.lt (hrule.below hW) h0

/-- Streams that pass Check at a length. -/
structure Checks (ss : List Str) (len : Int) : Prop where
  many : ss.length ≤ 64
  ok : ∀ i (hi : i < ss.length), ss[i].ok
  one : ∀ i (hi : i < ss.length) j (hj : j < i), ss[j].id ≠ ss[i].id
  len0 : 1 ≤ len
  len1 : len ≤ 1073741824
  over : ∀ i (hi : i < ss.length), ss[i].cls = 1 → len ≤ ss[i].dl

theorem rule1 (ss : List Str) (len : Int) (h : Checks ss len) (w : World) : RuleOk 32 #[] ss w.heap.size w := fun i hi W _ => check1_ok i ss[i] W (h.ok i hi)
theorem rule2 (v : Value) (ss : List Str) (len : Int) (h : Checks ss len) (B : Nat) (w : World) (hB : B < w.heap.size) (hc : w.cell? ⟨B, 0, none⟩ = some v) (hr : RdS w v ss) : RuleOk 33 #[.pointer (some ⟨B, 0, none⟩)] ss w.heap.size w :=
  fun i hi W hW => check2_ok i v ss B W (by have := h.many; omega) hi (fun j hj => h.one i hi j hj) (hr.below hW) (Nat.lt_of_lt_of_le hB hW.size) ((hW.cell (p := ⟨B, 0, none⟩) hB).trans hc)
theorem rule3 (ss : List Str) (len : Int) (h : Checks ss len) (B : Nat) (w : World) (hB : B < w.heap.size) (hc : w.cell? ⟨B, 0, none⟩ = some (.int .i64 len)) : RuleOk 36 #[.pointer (some ⟨B, 0, none⟩)] ss w.heap.size w :=
  fun i hi W hW => check3_ok i ss[i] len B W (h.over i hi) (Nat.lt_of_lt_of_le hB hW.size) ((hW.cell (p := ⟨B, 0, none⟩) hB).trans hc)

set_option maxRecDepth 100000 in
set_option maxHeartbeats 2000000 in
/-- stream.Check at streams that pass. -/
theorem check_ok (v : Value) (ss : List Str) (len : Int) (w : World) (h : Checks ss len) (hr : RdS w v ss) :
    Calls Tryd.prog 19 #[v, .int .i64 len] w fun e w' => e = .returned (.tuple #[.int .i64 ss.length, .int .i64 0]) ∧ Below w.heap.size w w' := by
  obtain ⟨a, cap, rfl⟩ := hr.slice
  have HR := Lib.hid hr
  have H := Lib.hid h
  have h64 := h.many
  have l0 := h.len0
  have l1 := h.len1
  clear hr h
  go_enter Tryd.func19, Tryd.ntmps19
  go_wp2_with (go_at_call 31; refine (withinT _ _ _ l0 l1).mono ?_; rintro e w1 ⟨rfl, rfl⟩)
  have bA := Boxed.new w 22 (.slice a ss.length cap)
  have bB := Boxed.new (w.alloc (.cells #[.slice a ss.length cap] 22)) 2 (.int .i64 len)
  rw [World.size_alloc] at bB
  have hb0 : Below w.heap.size w ((w.alloc (.cells #[.slice a ss.length cap] 22)).alloc (.cells #[.int .i64 len] 2)) := ((Below.refl _ _).alloc (Nat.le_refl _) _).alloc (by simp) _
  have ca := (bA.alloc (.cells #[.int .i64 len] 2)).cell
  have cb := bB.cell
  have hs0 : w.heap.size + 1 < ((w.alloc (.cells #[.slice a ss.length cap] 22)).alloc (.cells #[.int .i64 len] 2)).heap.size := by simp
  generalize ((w.alloc (.cells #[.slice a ss.length cap] 22)).alloc (.cells #[.int .i64 len] 2)) = w0 at hb0 ca cb hs0 ⊢
  clear bA bB
  have HB0 := Lib.hid hb0
  clear hb0
  -- the first rule
  refine (all_any _ _ _ _ _ _).mono ?_
  rintro e wA ⟨rfl, hwA⟩
  have hbA : Below w0.heap.size w0 wA := by rw [hwA]; exact ((Below.refl _ _).alloc (Nat.le_refl _) _).alloc (by simp) _
  have hst := all_stops1 w0.heap.size (w0.heap.size + 1) _ ss (by omega) wA (by rw [hwA]; simp; omega) (by rw [hwA]; simp) (by rw [hwA]; go_simp) (by rw [hwA]; go_simp) ((HR.out.below HB0.out).below hbA) (rule1 ss len H.out wA)
  have HST := Lib.hid hst
  clear hst hwA
  go_wp2_with fail
  refine (first_ok _ _ _ _ HST.out).mono ?_
  rintro e wB ⟨rfl, hbB⟩
  have hb1 := hbA.trans (hbB.mono hbA.size)
  have ca1 := (hb1.cell (p := ⟨w.heap.size, 0, none⟩) (show w.heap.size < w0.heap.size by omega)).trans ca
  have cb1 := (hb1.cell (p := ⟨w.heap.size + 1, 0, none⟩) hs0).trans cb
  have hs1 : w.heap.size + 1 < wB.heap.size := Nat.lt_of_lt_of_le hs0 hb1.size
  have HB1 := Lib.hid (HB0.out.trans (hb1.mono HB0.out.size))
  clear hb1 hbA hbB HST ca cb hs0 HB0
  -- the second rule
  go_wp2_with fail
  refine (all_any _ _ _ _ _ _).mono ?_
  rintro e wA ⟨rfl, hwA⟩
  have hbA : Below wB.heap.size wB wA := by rw [hwA]; exact ((Below.refl _ _).alloc (Nat.le_refl _) _).alloc (by simp) _
  have hst := all_stops2 wB.heap.size (wB.heap.size + 1) w.heap.size _ ss (by omega) wA (by rw [hwA]; simp; omega) (by rw [hwA]; simp) (by rw [hwA]; go_simp) (by rw [hwA]; go_simp) ((HR.out.below HB1.out).below hbA)
    (rule2 _ ss len H.out w.heap.size wA (by rw [hwA]; simp; omega) ((hbA.cell (p := ⟨w.heap.size, 0, none⟩) (show w.heap.size < wB.heap.size by omega)).trans ca1) ((HR.out.below HB1.out).below hbA))
  have HST := Lib.hid hst
  clear hst hwA
  go_wp2_with fail
  refine (first_ok _ _ _ _ HST.out).mono ?_
  rintro e wC ⟨rfl, hbC⟩
  have hb1 := hbA.trans (hbC.mono hbA.size)
  have ca2 := (hb1.cell (p := ⟨w.heap.size, 0, none⟩) (show w.heap.size < wB.heap.size by omega)).trans ca1
  have cb2 := (hb1.cell (p := ⟨w.heap.size + 1, 0, none⟩) hs1).trans cb1
  have hs2 : w.heap.size + 1 < wC.heap.size := Nat.lt_of_lt_of_le hs1 hb1.size
  have HB2 := Lib.hid (HB1.out.trans (hb1.mono HB1.out.size))
  clear hb1 hbA hbC HST ca1 cb1 hs1 HB1
  -- the third rule
  go_wp2_with fail
  refine (all_any _ _ _ _ _ _).mono ?_
  rintro e wA ⟨rfl, hwA⟩
  have hbA : Below wC.heap.size wC wA := by rw [hwA]; exact ((Below.refl _ _).alloc (Nat.le_refl _) _).alloc (by simp) _
  have hst := all_stops3 wC.heap.size (wC.heap.size + 1) (w.heap.size + 1) _ ss (by omega) wA (by rw [hwA]; simp; omega) (by rw [hwA]; simp) (by rw [hwA]; go_simp) (by rw [hwA]; go_simp) ((HR.out.below HB2.out).below hbA)
    (rule3 ss len H.out (w.heap.size + 1) wA (by rw [hwA]; simp; omega) ((hbA.cell (p := ⟨w.heap.size + 1, 0, none⟩) hs2).trans cb2))
  have HST := Lib.hid hst
  clear hst hwA
  go_wp2_with fail
  refine (first_ok _ _ _ _ HST.out).mono ?_
  rintro e wD ⟨rfl, hbD⟩
  have hb1 := hbA.trans (hbD.mono hbA.size)
  have ca3 := (hb1.cell (p := ⟨w.heap.size, 0, none⟩) (show w.heap.size < wC.heap.size by omega)).trans ca2
  have HB3 := Lib.hid (HB2.out.trans (hb1.mono HB2.out.size))
  clear hb1 hbA hbD HST ca2 cb2 HB2
  go_wp2
  go_ret2
  exact ⟨rfl, HB3.out⟩
end Go.Proofs.YtkbninfdehppiaaDoor
