/-
Contract of demand.Load, at streams that can be.
Conditions: as each theorem states them.
-/
import Derived.Test.YtkbninfdehppiaaDoorD5
set_option linter.unusedSimpArgs false
namespace Go.Proofs.YtkbninfdehppiaaDoor
open Go Go.Proofs Go.RowKit Go.Shelf

attribute [local go_sem] Oper.semAt_some

/-- What a stream takes of the wire, in millionths, less. -/
def sclI (s : Str) : Int := scaleI (costI s) s.per
/-- How much of the wire streams ask for. -/
def loadI (ss : List Str) : Int := (ss.map sclI).foldl (· - ·) 0
theorem loadI_snoc (ss : List Str) (s : Str) : loadI (ss ++ [s]) = loadI ss - sclI s := by
  simp [loadI, List.foldl_append]
theorem sclI_bd (s : Str) (h : s.ok) : -1000000001 ≤ sclI s ∧ sclI s ≤ 0 := by
  have h1 := h.per0
  obtain ⟨c1, c2⟩ := costI_bd s h
  unfold sclI scaleI
  have hq0 : 0 ≤ (costI s * 1000000 + s.per - 1) / s.per := Int.ediv_nonneg (by omega) (by omega)
  have hq1 : (costI s * 1000000 + s.per - 1) / s.per ≤ 1000000001 := by
    have e : costI s * 1000000 + s.per - 1 = (costI s * 1000000 - 1) + 1 * s.per := by omega
    rw [e, Int.add_mul_ediv_right _ _ (by omega)]
    have := Int.ediv_le_self s.per (show 0 ≤ costI s * 1000000 - 1 by omega)
    omega
  omega
theorem loadI_bd (ss : List Str) (h : ∀ s ∈ ss, s.ok) : 0 ≤ loadI ss ∧ loadI ss ≤ ss.length * 1000000001 := by
  suffices H : ∀ r : List Str, (∀ s ∈ r, s.ok) → 0 ≤ loadI r.reverse ∧ loadI r.reverse ≤ r.length * 1000000001 by
    have := H ss.reverse (fun s hs => h s (List.mem_reverse.1 hs))
    rwa [List.reverse_reverse, List.length_reverse] at this
  intro r
  induction r with
  | nil => intro _; simp [loadI]
  | cons s r ih =>
    intro hr
    obtain ⟨a, b⟩ := ih (fun t ht => hr t (List.mem_cons_of_mem _ ht))
    obtain ⟨c, d⟩ := sclI_bd s (hr s (List.mem_cons_self ..))
    rw [List.reverse_cons, loadI_snoc, List.length_cons]
    omega

theorem scale_str (s : Str) (w : World) (h : s.ok) :
    Calls Tryd.prog 15 #[.int .i64 (-(costI s)), .int .i64 1000000, .int .i64 s.per] w fun e w' => e = .returned (.tuple #[.int .i64 (sclI s), .bool true]) ∧ Below w.heap.size w w' := by
  obtain ⟨c1, c2⟩ := costI_bd s h
  have h1 := h.per0
  have h2 := h.per1
  unfold sclI
  obtain ⟨c, hc⟩ : ∃ c : Nat, costI s = c := ⟨(costI s).toNat, by omega⟩
  obtain ⟨d, hd⟩ : ∃ d : Nat, s.per = d := ⟨s.per.toNat, by omega⟩
  rw [hc, hd]
  exact scale_any c d w (by omega) (by omega) (by omega) (by omega)

/-- What demand.Load's region reads: its stream. -/
def Lod (Bx : Nat) (x : Str) (W : World) : Prop :=
  W.heap[Bx]? = some (.cells #[.int .i64 x.id, .int .i64 x.node, .int .i64 x.cls, .int .i64 x.per, .int .i64 x.dl, .int .i64 x.slot, .int .i64 x.byt] 27)
theorem Lod.below {Bx : Nat} {x : Str} {W W' : World} (h : Lod Bx x W) (hb : Below W.heap.size W W') : Lod Bx x W' :=
  (hb.block _ (Array.getElem?_eq_some_iff.1 h).1).trans h
theorem Lod.cells {Bx : Nat} {x : Str} {W : World} (h : Lod Bx x W) :
    W.cell? ⟨Bx, 0, none⟩ = some (.int .i64 x.id) ∧ W.cell? ⟨Bx, 1, none⟩ = some (.int .i64 x.node) ∧ W.cell? ⟨Bx, 2, none⟩ = some (.int .i64 x.cls) ∧ W.cell? ⟨Bx, 3, none⟩ = some (.int .i64 x.per) ∧
    W.cell? ⟨Bx, 4, none⟩ = some (.int .i64 x.dl) ∧ W.cell? ⟨Bx, 5, none⟩ = some (.int .i64 x.slot) ∧ W.cell? ⟨Bx, 6, none⟩ = some (.int .i64 x.byt) := by
  refine ⟨?_, ?_, ?_, ?_, ?_, ?_, ?_⟩ <;> simp [World.cell?, show W.heap[Bx]? = _ from h]

set_option maxRecDepth 100000 in
set_option maxHeartbeats 4000000 in
theorem load_any (v : Value) (ss : List Str) (w : World) (h : Checks ss 1) (hr : RdS w v ss) (hd : Div w) :
    Calls Tryd.prog 7 #[v] w fun e w' => e = .returned (.int .i64 (loadI (edf ss))) ∧ Below w.heap.size w w' := by
  have hri := Lib.hid (drRight_ok v ss 1 w h hr)
  have hok := h.mem
  have hn := h.many
  obtain ⟨a, cap, rfl⟩ := hr.slice
  clear h
  refine (callsIn_wide (n := 5)).1 ?_
  have hro : Fence.wide.round = none := rfl
  refine callsIn_of_wp_marks Tryd.func7 rfl trivial ?_ rfl
  simp only [Tryd.ntmps7, List.size_toArray, List.length_cons, List.length_nil, Nat.reduceAdd, Nat.reduceSub, Array.replicate_succ, Array.replicate_zero, List.push_toArray, List.append_toArray, List.nil_append, List.cons_append]
  gi_wp2_with (first
    | (refine ⟨trivial, ?_⟩; gi_at_call 12; refine (callsIn_wide.2 hri.out).mono ?_; rintro e w1 ⟨rfl, hb⟩)
    | (refine ⟨trivial, ?_⟩; gi_at_call 14; refine callsIn_wide.2 (due_any _ _ _ _) |>.mono ?_; rintro e w' ⟨rfl, rfl⟩))
  have hbs := hb.size
  have bS := (Boxed.new w1 2 (.int .i64 0)).alloc (.cells #[.slice a ss.length cap] 22)
  have bL := Boxed.new (w1.alloc (.cells #[.int .i64 0] 2)) 22 (.slice a ss.length cap)
  have hB0 : Below w.heap.size w ((w1.alloc (.cells #[.int .i64 0] 2)).alloc (.cells #[.slice a ss.length cap] 22)) := (hb.alloc hbs _).alloc (by simp; omega) _
  simp only [World.size_alloc] at bL
  have hsz : ((w1.alloc (.cells #[.int .i64 0] 2)).alloc (.cells #[.slice a ss.length cap] 22)).heap.size = w1.heap.size + 2 := by simp
  obtain ⟨W0, hW0⟩ : ∃ W0, (w1.alloc (.cells #[.int .i64 0] 2)).alloc (.cells #[.slice a ss.length cap] 22) = W0 := ⟨_, rfl⟩
  rw [hW0] at bS bL hB0 hsz ⊢
  clear hW0
  refine wpIn_rangeFunc_ownH hro (by omega) (gf := 21) (lb := #[.pointer (some ⟨w1.heap.size + 1, 0, none⟩)]) rfl trivial (enters_of Tryd.func21 (by kernel_rfl) rfl)
    (due_stops 4 (by omega) (w1.heap.size + 1) w.heap.size (.slice a ss.length cap) ss (by omega) W0 (by omega) (by omega) bL.cell (hr.below hB0) hr.lt) belowK_t (belowK_b (by omega)) (Below.refl _ _) (fun _ => rfl)
    (fun pre W => Boxed W w1.heap.size 2 (.int .i64 (loadI (pre.map (·.1)))) ∧ Below w.heap.size w W)
    (fun _ _ _ => False)
    (OwnFrom.and (Own.from (boxed_own _ _ _) _) (ownFrom_below (Nat.le_refl _) (by omega)))
    (fun _ _ _ _ _ hs _ _ => hs)
    ⟨bS, hB0⟩
    (fun x a' W => ∃ Bx, w1.heap.size < Bx ∧ W.heap[Bx]? = some (.cells #[.int .i64 x.1.id, .int .i64 x.1.node, .int .i64 x.1.cls, .int .i64 x.1.per, .int .i64 x.1.dl, .int .i64 x.1.slot, .int .i64 x.1.byt] 27) ∧ a' = { tmps := #[.slice a ss.length cap, undef, .int .i64 0, .pointer (some ⟨w1.heap.size, 0, none⟩), .pointer (some ⟨Bx, 0, none⟩), undef, undef, .slice a ss.length cap, .bool true, .bool false, .slice a ss.length cap, .func (.func 21) #[] #[.pointer (some ⟨w1.heap.size + 1, 0, none⟩)], x.1.val, undef, undef, undef, undef, undef, undef, undef, undef, undef, undef, undef, undef, undef], defers := [] })
    (fun x a' _ X Y row hs hg hr => by obtain ⟨Bx, h1, h2, h3⟩ := hs; exact ⟨Bx, h1, blk_own Bx _ rfl () X Y row h2 hg (fun r e => (hr r e).2), h3⟩)
    ?assign ?body ?done ?stop
  case assign =>
    rintro l pre x W K ⟨b1, hB1⟩ hK
    gi_wp2
    exact hK _ _ ((KeepsOthers.alloc _ _).from _) ((Below.refl _ W).alloc hB1.size _) ⟨b1.alloc _, hB1.alloc hB1.size _⟩ ⟨W.heap.size, b1.lt, World.alloc_heap_new W _, rfl⟩
  case body =>
    rintro l pre x a' W hl ⟨r, hr⟩ ⟨b1, hB1⟩ ⟨Bx, hBx, bX, rfl⟩ hlt
    have hx := hok x.1 x.2.1
    have hcs := Lib.hid (fun w hd => cost_any x.1 w hx hd)
    have hsc := Lib.hid (fun w => scale_str x.1 w hx)
    obtain ⟨C0, C1⟩ := costI_bd x.1 hx
    obtain ⟨P0, P1⟩ := sclI_bd x.1 hx
    have hsum := loadI_bd (pre.map (·.1)) (fun s hs => by obtain ⟨y, _, rfl⟩ := List.mem_map.1 hs; exact hok y.1 y.2.1)
    rw [List.length_map] at hsum
    obtain ⟨u0, u1⟩ := hsum
    have hsn := loadI_snoc (pre.map (·.1)) x.1
    have hsn2 : (pre ++ [x]).map (·.1) = pre.map (·.1) ++ [x.1] := by simp
    rw [← hsn2] at hsn
    clear hsn2
    have HDW := Lib.hid (hd.below (hB1.mono (Nat.le_refl _)))
    obtain ⟨xs, hm, hc⟩ := x
    dsimp only at *
    generalize hC : costI xs = C at *
    generalize hS : sclI xs = S at *
    generalize hs : loadI (pre.map (·.1)) = s at *
    have HSN := Lib.hid hsn
    have wr2 : IntKind.i64.wrap (-C) = -C := by rw [IntKind.wrap_i64]; omega
    have WR2 := Lib.hid wr2
    clear hsn hC hS hs wr2
    gi_wp2
    -- WALK
    refine wpIn_round_held (fun a3 W3 => a3 = { tmps := #[.slice a ss.length cap, undef, .int .i64 0, .pointer (some ⟨w1.heap.size, 0, none⟩), .pointer (some ⟨Bx, 0, none⟩), .int .i64 S, .bool true, .slice a ss.length cap, .bool true, .bool false, .slice a ss.length cap, .func (.func 21) #[] #[.pointer (some ⟨w1.heap.size + 1, 0, none⟩)], xs.val, .tuple #[.int .i64 S, .bool true], xs.val, .int .i64 C, .int .i64 (-C), .pointer (some ⟨Bx, 3, none⟩), .int .i64 xs.per, .tuple #[.int .i64 S, .bool true], .int .i64 S, .bool true, undef, undef, undef, undef], defers := [] } ∧ Below W.heap.size W W3) (Lod Bx xs) (by kernel_rfl) (by kernel_rfl) ?post ?_
    case post =>
      rintro a3 W3 ⟨rfl, hB⟩
      have bS8 : Boxed _ w1.heap.size 2 (.int .i64 s) := (hB.block w1.heap.size b1.lt).trans b1
      have cS := bS8.cell
      have fS := bS8.frozen
      gi_wp2
      refine ⟨(KeepsFrom.of_grownBy (grownBy_of_below hB) (by simp)).trans ((KeepsOthers.setCell _ _ _).from _), (hB.mono hB1.size).setCell (by simp; omega) _, ?_, (hB1.trans (hB.mono hB1.size)).setCell (by simp; omega) _⟩
      rw [HSN.out]
      exact bS8.set _
    have hD : Lod Bx xs W.drew := bX
    have hB : Below W.heap.size W W.drew := (Below.refl _ _).drew
    simp only [List.size_toArray, List.length_cons, List.length_nil, Nat.reduceAdd, Array.replicate_succ, Array.replicate_zero, List.push_toArray, List.append_toArray, List.nil_append, List.cons_append]
    refine wpAnyH_take (i := 0) (v := xs.val) rfl (by kernel_rfl) (by kernel_rfl) (by kernel_rfl) (fun _ _ _ h => h) (Or.inl ⟨by rfl, ?_⟩) hD ?_
    · intro w' hw'
      obtain ⟨e1, e2, e3, e4, e5, e6, e7⟩ := hw'.cells
      clear hw'
      go_simp
    simp only [Act.put, List.setIfInBounds_toArray, List.set_cons_zero, List.set_cons_succ]
    refine wpAnyH_take (i := 3) (v := .pointer (some ⟨Bx, 3, none⟩)) rfl (by kernel_rfl) (by kernel_rfl) (by kernel_rfl) (fun _ _ _ h => h) (Or.inl ⟨by rfl, ?_⟩) hD ?_
    · intro w' hw'
      obtain ⟨e1, e2, e3, e4, e5, e6, e7⟩ := hw'.cells
      clear hw'
      go_simp
    simp only [Act.put, List.setIfInBounds_toArray, List.set_cons_zero, List.set_cons_succ]
    refine wpAnyH_take (i := 4) (v := .int .i64 xs.per) rfl (by kernel_rfl) (by kernel_rfl) (by kernel_rfl) (fun _ _ _ h => h) (Or.inl ⟨by rfl, ?_⟩) hD ?_
    · intro w' hw'
      obtain ⟨e1, e2, e3, e4, e5, e6, e7⟩ := hw'.cells
      clear hw'
      go_simp
    simp only [Act.put, List.setIfInBounds_toArray, List.set_cons_zero, List.set_cons_succ]
    refine wpAnyH_ready (rs := [1]) (by kernel_rfl) (by simp) (AllReadyH.cons rfl (fun K hK => ?_) AllReadyH.nil)
    rw [if_pos (by rfl)]
    go_simp
    go_at_call 16
    refine (hcs.out _ (HDW.out.below hB)).mono ?_
    rintro e w2 ⟨rfl, hb⟩
    refine hK.out _ _ (hD.below hb) (fun _ => ?_)
    replace hD := hD.below hb
    replace hB := hB.trans (hb.mono hB.size)
    clear hK K hb
    simp only [Act.put, List.setIfInBounds_toArray, List.set_cons_zero, List.set_cons_succ]
    refine wpAnyH_take (i := 2) (v := .int .i64 (-C)) rfl (by kernel_rfl) (by kernel_rfl) (by kernel_rfl) (fun _ _ _ h => h) (Or.inl ⟨by rfl, ?_⟩) hD ?_
    · intro w' hw'
      clear hw'
      go_simp
      exact WR2.out
    simp only [Act.put, List.setIfInBounds_toArray, List.set_cons_zero, List.set_cons_succ]
    refine wpAnyH_ready (rs := [5]) (by kernel_rfl) (by simp) (AllReadyH.cons rfl (fun K hK => ?_) AllReadyH.nil)
    rw [if_pos (by rfl)]
    go_simp
    go_at_call 15
    refine (hsc.out _).mono ?_
    rintro e w2 ⟨rfl, hb⟩
    refine hK.out _ _ (hD.below hb) (fun _ => ?_)
    replace hD := hD.below hb
    replace hB := hB.trans (hb.mono hB.size)
    clear hK K hb
    simp only [Act.put, List.setIfInBounds_toArray, List.set_cons_zero, List.set_cons_succ]
    refine wpAnyH_take (i := 6) (v := .tuple #[.int .i64 S, .bool true]) rfl (by kernel_rfl) (by kernel_rfl) (by kernel_rfl) (fun _ _ _ h => h) (Or.inl ⟨by rfl, ?_⟩) hD ?_
    · intro w' hw'
      clear hw'
      go_simp
    simp only [Act.put, List.setIfInBounds_toArray, List.set_cons_zero, List.set_cons_succ]
    refine wpAnyH_take (i := 7) (v := .int .i64 S) rfl (by kernel_rfl) (by kernel_rfl) (by kernel_rfl) (fun _ _ _ h => h) (Or.inl ⟨by rfl, ?_⟩) hD ?_
    · intro w' hw'
      clear hw'
      go_simp
    simp only [Act.put, List.setIfInBounds_toArray, List.set_cons_zero, List.set_cons_succ]
    refine wpAnyH_take (i := 8) (v := .bool true) rfl (by kernel_rfl) (by kernel_rfl) (by kernel_rfl) (fun _ _ _ h => h) (Or.inl ⟨by rfl, ?_⟩) hD ?_
    · intro w' hw'
      clear hw'
      go_simp
    simp only [Act.put, List.setIfInBounds_toArray, List.set_cons_zero, List.set_cons_succ]
    refine wpAnyH_take (i := 9) (v := .int .i64 S) rfl (by kernel_rfl) (by kernel_rfl) (by kernel_rfl) (fun _ _ _ h => h) (Or.inl ⟨by rfl, ?_⟩) hD ?_
    · intro w' hw'
      clear hw'
      go_simp
    simp only [Act.put, List.setIfInBounds_toArray, List.set_cons_zero, List.set_cons_succ]
    refine wpAnyH_take (i := 10) (v := .bool true) rfl (by kernel_rfl) (by kernel_rfl) (by kernel_rfl) (fun _ _ _ h => h) (Or.inl ⟨by rfl, ?_⟩) hD ?_
    · intro w' hw'
      clear hw'
      go_simp
    simp only [Act.put, List.setIfInBounds_toArray, List.set_cons_zero, List.set_cons_succ]
    refine wpAnyH_done (by kernel_rfl) ?_ _
    exact ⟨rfl, hB⟩
    -- END
  case done =>
    rintro D ys W hD hys ⟨b1, hB1⟩ hK
    rw [hys] at b1
    have c1 := b1.cell
    gi_wp2
    refine ⟨by simp, .inl ⟨_, _, rfl, run_takeDeferred hK, ?_⟩⟩
    exact ⟨_, results_tmp rfl _ _ _, rfl, hB1.trans (belowK_b (w := w) (Nat.le_refl _) W D _ _ (by omega) hK rfl rfl)⟩
  case stop =>
    rintro D c pre W _ _ h _
    exact h.elim
end Go.Proofs.YtkbninfdehppiaaDoor
