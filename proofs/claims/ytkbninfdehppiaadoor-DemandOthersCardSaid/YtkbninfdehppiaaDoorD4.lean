/-
Contracts of demand.of, Of, Blocking and Load, at streams that can be.
Conditions: as each theorem states them.
-/
import Derived.Test.YtkbninfdehppiaaDoorD3
import Derived.Test.YtkbninfdehppiaaDoorD0
namespace Go.Proofs.YtkbninfdehppiaaDoor
open Go Go.Proofs Go.RowKit Go.Shelf

attribute [local go_sem] Oper.semAt_some

/-- The sum of the demands of streams. -/
def sumI (span len : Int) (ss : List Str) : Int := (ss.map (fun s => jobsI s span len * costI s)).foldl (· + ·) 0
theorem sumI_nil (span len : Int) : sumI span len [] = 0 := rfl
theorem sumI_snoc (span len : Int) (ss : List Str) (s : Str) : sumI span len (ss ++ [s]) = sumI span len ss + jobsI s span len * costI s := by
  simp [sumI, List.foldl_append]

theorem costI_bd (s : Str) (h : s.ok) : 1 ≤ costI s ∧ costI s ≤ 1000 := by
  have := h.byt0
  have := h.byt1
  unfold costI mostI
  omega
theorem jobsI_bd (s : Str) (h : s.ok) (span len : Int) (s0 : 0 ≤ span) (s1 : span ≤ 1000000) (l0 : 0 ≤ len) (l1 : len ≤ 1000000) : 0 ≤ jobsI s span len ∧ jobsI s span len ≤ 2000001 := by
  have h1 := h.per0
  have h2 := h.dl0
  have : (span + len - 1 - s.dl) / s.per ≤ 2000000 := by
    by_cases h0 : 0 ≤ span + len - 1 - s.dl
    · exact Int.le_trans (Int.ediv_le_self _ h0) (by omega)
    · have := Int.ediv_neg_of_neg_of_pos (show span + len - 1 - s.dl < 0 by omega) (show 0 < s.per by omega)
      omega
  unfold jobsI
  omega
theorem prod_bd (s : Str) (h : s.ok) (span len : Int) (s0 : 0 ≤ span) (s1 : span ≤ 1000000) (l0 : 0 ≤ len) (l1 : len ≤ 1000000) : 0 ≤ jobsI s span len * costI s ∧ jobsI s span len * costI s ≤ 2000001000 := by
  obtain ⟨a, b⟩ := jobsI_bd s h span len s0 s1 l0 l1
  obtain ⟨c, d⟩ := costI_bd s h
  exact ⟨Int.mul_nonneg a (by omega), Int.le_trans (Int.mul_le_mul b d (by omega) (by decide)) (by decide)⟩

theorem sumI_bd (span len : Int) (ss : List Str) (h : ∀ s ∈ ss, s.ok) (s0 : 0 ≤ span) (s1 : span ≤ 1000000) (l0 : 0 ≤ len) (l1 : len ≤ 1000000) : 0 ≤ sumI span len ss ∧ sumI span len ss ≤ ss.length * 2000001000 := by
  suffices H : ∀ r : List Str, (∀ s ∈ r, s.ok) → 0 ≤ sumI span len r.reverse ∧ sumI span len r.reverse ≤ r.length * 2000001000 by
    have := H ss.reverse (fun s hs => h s (List.mem_reverse.1 hs))
    rwa [List.reverse_reverse, List.length_reverse] at this
  intro r
  induction r with
  | nil => intro _; simp [sumI]
  | cons s r ih =>
    intro hr
    obtain ⟨a, b⟩ := ih (fun t ht => hr t (List.mem_cons_of_mem _ ht))
    obtain ⟨c, d⟩ := prod_bd s (hr s (List.mem_cons_self ..)) span len s0 s1 l0 l1
    rw [List.reverse_cons, sumI_snoc, List.length_cons]
    omega

/-- What demand.of's region reads: its span, its length, its stream. -/
def Dem (n Bx : Nat) (span len : Int) (x : Str) (W : World) : Prop :=
  Boxed W n 2 (.int .i64 span) ∧ Boxed W (n + 1) 2 (.int .i64 len) ∧ W.heap[Bx]? = some (.cells #[.int .i64 x.id, .int .i64 x.node, .int .i64 x.cls, .int .i64 x.per, .int .i64 x.dl, .int .i64 x.slot, .int .i64 x.byt] 27)
theorem Dem.below {n Bx : Nat} {span len : Int} {x : Str} {W W' : World} (h : Dem n Bx span len x W) (hb : Below W.heap.size W W') : Dem n Bx span len x W' :=
  ⟨(hb.block _ h.1.lt).trans h.1, (hb.block _ h.2.1.lt).trans h.2.1, (hb.block _ (Array.getElem?_eq_some_iff.1 h.2.2).1).trans h.2.2⟩
theorem Dem.set {n Bx : Nat} {span len : Int} {x : Str} {W : World} (h : Dem n Bx span len x W) (hB : n + 1 + 1 < Bx) (v : Value) : Dem n Bx span len x (W.setCell ⟨n + 1 + 1, 0, none⟩ v) :=
  ⟨h.1.other (by omega) v, h.2.1.other (by omega) v, ((grownBy_setCell' W (n + 1 + 1) v).block Bx (Array.getElem?_eq_some_iff.1 h.2.2).1 (fun e => by cases e; omega)).trans h.2.2⟩
theorem Dem.cells {n Bx : Nat} {span len : Int} {x : Str} {W : World} (h : Dem n Bx span len x W) :
    W.cell? ⟨n, 0, none⟩ = some (.int .i64 span) ∧ W.cell? ⟨n + 1, 0, none⟩ = some (.int .i64 len) ∧
    W.cell? ⟨Bx, 0, none⟩ = some (.int .i64 x.id) ∧ W.cell? ⟨Bx, 1, none⟩ = some (.int .i64 x.node) ∧ W.cell? ⟨Bx, 2, none⟩ = some (.int .i64 x.cls) ∧ W.cell? ⟨Bx, 3, none⟩ = some (.int .i64 x.per) ∧
    W.cell? ⟨Bx, 4, none⟩ = some (.int .i64 x.dl) ∧ W.cell? ⟨Bx, 5, none⟩ = some (.int .i64 x.slot) ∧ W.cell? ⟨Bx, 6, none⟩ = some (.int .i64 x.byt) := by
  refine ⟨h.1.cell, h.2.1.cell, ?_, ?_, ?_, ?_, ?_, ?_, ?_⟩ <;> simp [World.cell?, h.2.2]

theorem blk_own {β : Type} (B : Nat) (o : Obj) (hc : o.isCells = true) : Own (fun (_ : β) W => W.heap[B]? = some o) := fun _ X Y row hs hg hrow =>
  (hg.block B (Array.getElem?_eq_some_iff.1 hs).1 (fun e => by obtain ⟨o', ho, h2⟩ := hrow B e.symm; rw [hs] at ho; cases ho; rw [hc] at h2; cases h2)).trans hs

set_option maxRecDepth 100000 in
set_option maxHeartbeats 4000000 in
theorem dof_any (v : Value) (ss : List Str) (span len : Int) (w : World) (hn : ss.length ≤ 64) (hok : ∀ s ∈ ss, s.ok) (hr : RdS w v ss) (hd : Div w) (s0 : 0 ≤ span) (s1 : span ≤ 1000000) (l0 : 0 ≤ len) (l1 : len ≤ 1000000) :
    Calls Tryd.prog 13 #[v, .int .i64 span, .int .i64 len] w fun e w' => e = .returned (.int .i64 (sumI span len (edf ss))) ∧ Below w.heap.size w w' := by
  obtain ⟨a, cap, rfl⟩ := hr.slice
  refine (callsIn_wide (n := 5)).1 ?_
  have hro : Fence.wide.round = none := rfl
  refine callsIn_of_wp_marks Tryd.func13 rfl trivial ?_ rfl
  simp only [Tryd.ntmps13, List.size_toArray, List.length_cons, List.length_nil, Nat.reduceAdd, Nat.reduceSub, Array.replicate_succ, Array.replicate_zero, List.push_toArray, List.append_toArray, List.nil_append, List.cons_append]
  gi_wp2_with (refine ⟨trivial, ?_⟩; gi_at_call 14; refine callsIn_wide.2 (due_any _ _ _ _) |>.mono ?_; rintro e w' ⟨rfl, rfl⟩)
  have bA := ((Boxed.new w 2 (.int .i64 span)).alloc (.cells #[.int .i64 len] 2)).alloc (.cells #[.int .i64 0] 2)
  have bN := (Boxed.new (w.alloc (.cells #[.int .i64 span] 2)) 2 (.int .i64 len)).alloc (.cells #[.int .i64 0] 2)
  have bS := Boxed.new ((w.alloc (.cells #[.int .i64 span] 2)).alloc (.cells #[.int .i64 len] 2)) 2 (.int .i64 0)
  have hB0 : Below w.heap.size w (((w.alloc (.cells #[.int .i64 span] 2)).alloc (.cells #[.int .i64 len] 2)).alloc (.cells #[.int .i64 0] 2)) := (((Below.refl _ w).alloc (Nat.le_refl _) _).alloc (by simp) _).alloc (by simp; omega) _
  have bL := Boxed.new (((w.alloc (.cells #[.int .i64 span] 2)).alloc (.cells #[.int .i64 len] 2)).alloc (.cells #[.int .i64 0] 2)) 22 (.slice a ss.length cap)
  replace bA := bA.alloc (.cells #[.slice a ss.length cap] 22)
  replace bN := bN.alloc (.cells #[.slice a ss.length cap] 22)
  replace bS := bS.alloc (.cells #[.slice a ss.length cap] 22)
  replace hB0 := hB0.alloc (by simp; omega) (.cells #[.slice a ss.length cap] 22)
  simp only [World.size_alloc] at bN bS bL
  have hsz : ((((w.alloc (.cells #[.int .i64 span] 2)).alloc (.cells #[.int .i64 len] 2)).alloc (.cells #[.int .i64 0] 2)).alloc (.cells #[.slice a ss.length cap] 22)).heap.size = w.heap.size + 4 := by simp
  obtain ⟨W0, hW0⟩ : ∃ W0, (((w.alloc (.cells #[.int .i64 span] 2)).alloc (.cells #[.int .i64 len] 2)).alloc (.cells #[.int .i64 0] 2)).alloc (.cells #[.slice a ss.length cap] 22) = W0 := ⟨_, rfl⟩
  rw [hW0] at bA bN bS bL hB0 hsz ⊢
  clear hW0
  refine wpIn_rangeFunc_ownH hro (by omega) (gf := 21) (lb := #[.pointer (some ⟨w.heap.size + 1 + 1 + 1, 0, none⟩)]) rfl trivial (enters_of Tryd.func21 (by kernel_rfl) rfl)
    (due_stops 4 (by omega) (w.heap.size + 1 + 1 + 1) w.heap.size (.slice a ss.length cap) ss (by omega) W0 (by omega) (by omega) bL.cell (hr.below hB0) hr.lt) belowK_t (belowK_b (by omega)) (Below.refl _ _) (fun _ => rfl)
    (fun pre W => ((Boxed W (w.heap.size + 1 + 1) 2 (.int .i64 (sumI span len (pre.map (·.1)))) ∧ Boxed W w.heap.size 2 (.int .i64 span)) ∧ Boxed W (w.heap.size + 1) 2 (.int .i64 len)) ∧ Below w.heap.size w W)
    (fun _ _ _ => False)
    (OwnFrom.and (OwnFrom.and (OwnFrom.and (Own.from (boxed_own _ _ _) _) (Own.from (boxed_own _ _ _) _)) (Own.from (boxed_own _ _ _) _)) (ownFrom_below (Nat.le_refl _) (by omega)))
    (fun _ _ _ _ _ hs _ _ => hs)
    ⟨⟨⟨bS, bA⟩, bN⟩, hB0⟩
    (fun x a' W => ∃ Bx, w.heap.size + 1 + 1 < Bx ∧ W.heap[Bx]? = some (.cells #[.int .i64 x.1.id, .int .i64 x.1.node, .int .i64 x.1.cls, .int .i64 x.1.per, .int .i64 x.1.dl, .int .i64 x.1.slot, .int .i64 x.1.byt] 27) ∧ a' = { tmps := #[.slice a ss.length cap, .int .i64 span, .int .i64 len, undef, .pointer (some ⟨w.heap.size, 0, none⟩), .pointer (some ⟨w.heap.size + 1, 0, none⟩), .int .i64 0, .pointer (some ⟨w.heap.size + 1 + 1, 0, none⟩), .pointer (some ⟨Bx, 0, none⟩), .slice a ss.length cap, .func (.func 21) #[] #[.pointer (some ⟨w.heap.size + 1 + 1 + 1, 0, none⟩)], x.1.val, undef, undef, undef, undef, undef, undef, undef, undef, undef, undef], defers := [] })
    (fun x a' _ X Y row hs hg hr => by obtain ⟨Bx, h1, h2, h3⟩ := hs; exact ⟨Bx, h1, blk_own Bx _ rfl () X Y row h2 hg (fun r e => (hr r e).2), h3⟩)
    ?assign ?body ?done ?stop
  case assign =>
    rintro l pre x W K ⟨⟨⟨b1, b2⟩, b3⟩, hB1⟩ hK
    gi_wp2
    exact hK _ _ ((KeepsOthers.alloc _ _).from _) ((Below.refl _ W).alloc hB1.size _) ⟨⟨⟨b1.alloc _, b2.alloc _⟩, b3.alloc _⟩, hB1.alloc hB1.size _⟩ ⟨W.heap.size, b1.lt, World.alloc_heap_new W _, rfl⟩
  case body =>
    rintro l pre x a' W hl ⟨r, hr⟩ ⟨⟨⟨b1, b2⟩, b3⟩, hB1⟩ ⟨Bx, hBx, bX, rfl⟩ hlt
    have hx := hok x.1 x.2.1
    have hcs := Lib.hid (fun w hd => cost_any x.1 w hx hd)
    have hjb := Lib.hid (fun w => jobs_any x.1 span len w hx s0 s1 l0 l1)
    obtain ⟨P0, P1⟩ := prod_bd x.1 hx span len s0 s1 l0 l1
    have hsum := sumI_bd span len (pre.map (·.1)) (fun s hs => by obtain ⟨y, _, rfl⟩ := List.mem_map.1 hs; exact hok y.1 y.2.1) s0 s1 l0 l1
    rw [List.length_map] at hsum
    obtain ⟨u0, u1⟩ := hsum
    have hsn := sumI_snoc span len (pre.map (·.1)) x.1
    have hsn2 : (pre ++ [x]).map (·.1) = pre.map (·.1) ++ [x.1] := by simp
    rw [← hsn2] at hsn
    clear hsn2
    have HDW := Lib.hid (hd.below (hB1.mono (Nat.le_refl _)))
    obtain ⟨xs, hm, hc⟩ := x
    dsimp only at *
    generalize hJ : jobsI xs span len = J at *
    generalize hC : costI xs = C at *
    generalize hs : sumI span len (pre.map (·.1)) = s at *
    have fin9 : ∀ W3, Below W.heap.size W W3 → Dem w.heap.size Bx span len xs W3 → Boxed W3 (w.heap.size + 1 + 1) 2 (.int .i64 s) →
        KeepsFrom W0.heap.size W (W3.setCell ⟨w.heap.size + 1 + 1, 0, none⟩ (.int .i64 (s + J * C))) ∧ Below w.heap.size W (W3.setCell ⟨w.heap.size + 1 + 1, 0, none⟩ (.int .i64 (s + J * C))) ∧
          ((Boxed (W3.setCell ⟨w.heap.size + 1 + 1, 0, none⟩ (.int .i64 (s + J * C))) (w.heap.size + 1 + 1) 2 (.int .i64 (s + J * C)) ∧ Boxed (W3.setCell ⟨w.heap.size + 1 + 1, 0, none⟩ (.int .i64 (s + J * C))) w.heap.size 2 (.int .i64 span)) ∧ Boxed (W3.setCell ⟨w.heap.size + 1 + 1, 0, none⟩ (.int .i64 (s + J * C))) (w.heap.size + 1) 2 (.int .i64 len)) ∧
          Below w.heap.size w (W3.setCell ⟨w.heap.size + 1 + 1, 0, none⟩ (.int .i64 (s + J * C))) := by
      intro W3 hb hD hS
      refine ⟨(KeepsFrom.of_grownBy (grownBy_of_below hb) (by simp)).trans ((KeepsOthers.setCell _ _ _).from _), (hb.mono hB1.size).setCell (by simp; omega) _, ⟨⟨hS.set _, hD.1.other (by omega) _⟩, hD.2.1.other (by omega) _⟩, (hB1.trans (hb.mono hB1.size)).setCell (by simp; omega) _⟩
    have FIN := Lib.hid fin9
    have HSN := Lib.hid hsn
    have wr7 : IntKind.i64.wrap (J * C) = J * C := by rw [IntKind.wrap_i64]; omega
    have wr8 : IntKind.i64.wrap (s + J * C) = s + J * C := by rw [IntKind.wrap_i64]; omega
    have WR7 := Lib.hid wr7
    have WR8 := Lib.hid wr8
    clear wr7 wr8
    clear fin9 hsn hJ hC hs
    gi_wp2
    -- WALK
    refine wpIn_round_held (fun _ W' => KeepsFrom W0.heap.size W W' ∧ Below w.heap.size W W' ∧ ((Boxed W' (w.heap.size + 1 + 1) 2 (.int .i64 (s + J * C)) ∧ Boxed W' w.heap.size 2 (.int .i64 span)) ∧ Boxed W' (w.heap.size + 1) 2 (.int .i64 len)) ∧ Below w.heap.size w W') (Dem w.heap.size Bx span len xs) (by kernel_rfl) (by kernel_rfl) (fun _ _ h => by rw [← HSN.out] at h; exact h) ?_
    have hD : Dem w.heap.size Bx span len xs W.drew := ⟨b2, b3, bX⟩
    have hB : Below W.heap.size W W.drew := (Below.refl _ _).drew
    simp only [List.size_toArray, List.length_cons, List.length_nil, Nat.reduceAdd, Array.replicate_succ, Array.replicate_zero, List.push_toArray, List.append_toArray, List.nil_append, List.cons_append]
    refine wpAnyH_take (i := 1) (v := xs.val) rfl (by kernel_rfl) (by kernel_rfl) (by kernel_rfl) (fun _ _ _ h => h) (Or.inl ⟨by rfl, ?_⟩) hD ?_
    · intro w' hw'
      obtain ⟨e1, e2, e3, e4, e5, e6, e7, e8, e9⟩ := hw'.cells
      clear hw'
      go_simp
    simp only [Act.put, List.setIfInBounds_toArray, List.set_cons_zero, List.set_cons_succ]
    refine wpAnyH_take (i := 2) (v := .int .i64 span) rfl (by kernel_rfl) (by kernel_rfl) (by kernel_rfl) (fun _ _ _ h => h) (Or.inl ⟨by rfl, ?_⟩) hD ?_
    · intro w' hw'
      obtain ⟨e1, e2, e3, e4, e5, e6, e7, e8, e9⟩ := hw'.cells
      clear hw'
      go_simp
    simp only [Act.put, List.setIfInBounds_toArray, List.set_cons_zero, List.set_cons_succ]
    refine wpAnyH_take (i := 3) (v := .int .i64 len) rfl (by kernel_rfl) (by kernel_rfl) (by kernel_rfl) (fun _ _ _ h => h) (Or.inl ⟨by rfl, ?_⟩) hD ?_
    · intro w' hw'
      obtain ⟨e1, e2, e3, e4, e5, e6, e7, e8, e9⟩ := hw'.cells
      clear hw'
      go_simp
    simp only [Act.put, List.setIfInBounds_toArray, List.set_cons_zero, List.set_cons_succ]
    refine wpAnyH_take (i := 5) (v := xs.val) rfl (by kernel_rfl) (by kernel_rfl) (by kernel_rfl) (fun _ _ _ h => h) (Or.inl ⟨by rfl, ?_⟩) hD ?_
    · intro w' hw'
      obtain ⟨e1, e2, e3, e4, e5, e6, e7, e8, e9⟩ := hw'.cells
      clear hw'
      go_simp
    simp only [Act.put, List.setIfInBounds_toArray, List.set_cons_zero, List.set_cons_succ]
    refine wpAnyH_ready (rs := [0, 4]) (by kernel_rfl) (by simp) ?_
    refine (AllReadyH.cons rfl (fun K hK => ?_) (AllReadyH.cons rfl (fun K hK => ?_) AllReadyH.nil))
    · skip
      rw [if_pos (by rfl)]
      have bS8 : Boxed _ (w.heap.size + 1 + 1) 2 (.int .i64 s) := (hB.block (w.heap.size + 1 + 1) b1.lt).trans b1
      have cS := bS8.cell
      go_simp
      refine hK.out _ _ hD (fun _ => ?_)
      clear hK K cS bS8
      simp only [Act.put, List.setIfInBounds_toArray, List.set_cons_zero, List.set_cons_succ]
      refine wpAnyH_ready (rs := [4]) (by kernel_rfl) (by simp) ?_
      refine (AllReadyH.cons rfl (fun K hK => ?_) AllReadyH.nil)
      · skip
        rw [if_pos (by rfl)]
        go_simp
        go_at_call 20
        refine (hjb.out _).mono ?_
        rintro e w1 ⟨rfl, hb⟩
        refine hK.out _ _ (hD.below hb) (fun _ => ?_)
        replace hD := hD.below hb
        replace hB := hB.trans (hb.mono hB.size)
        clear hK K hb
        simp only [Act.put, List.setIfInBounds_toArray, List.set_cons_zero, List.set_cons_succ]
        refine wpAnyH_ready (rs := [6]) (by kernel_rfl) (by simp) ?_
        refine (AllReadyH.cons rfl (fun K hK => ?_) AllReadyH.nil)
        · skip
          rw [if_pos (by rfl)]
          go_simp
          go_at_call 16
          refine (hcs.out _ (HDW.out.below hB)).mono ?_
          rintro e w1 ⟨rfl, hb⟩
          refine hK.out _ _ (hD.below hb) (fun _ => ?_)
          replace hD := hD.below hb
          replace hB := hB.trans (hb.mono hB.size)
          clear hK K hb
          simp only [Act.put, List.setIfInBounds_toArray, List.set_cons_zero, List.set_cons_succ]
          refine wpAnyH_take (i := 7) (v := .int .i64 (J * C)) rfl (by kernel_rfl) (by kernel_rfl) (by kernel_rfl) (fun _ _ _ h => h) (Or.inl ⟨by rfl, ?_⟩) hD ?_
          · intro w' hw'
            clear hw'
            go_simp
            exact WR7.out
          simp only [Act.put, List.setIfInBounds_toArray, List.set_cons_zero, List.set_cons_succ]
          refine wpAnyH_take (i := 8) (v := .int .i64 (s + J * C)) rfl (by kernel_rfl) (by kernel_rfl) (by kernel_rfl) (fun _ _ _ h => h) (Or.inl ⟨by rfl, ?_⟩) hD ?_
          · intro w' hw'
            clear hw'
            go_simp
            exact WR8.out
          simp only [Act.put, List.setIfInBounds_toArray, List.set_cons_zero, List.set_cons_succ]
          have bS9 : Boxed _ (w.heap.size + 1 + 1) 2 (.int .i64 s) := (hB.block (w.heap.size + 1 + 1) b1.lt).trans b1
          have cS := bS9.cell
          have fS := bS9.frozen
          refine wpAnyH_ready (rs := [9]) (by kernel_rfl) (by simp) (AllReadyH.cons rfl (fun K hK => ?_) AllReadyH.nil)
          rw [if_pos (by rfl)]
          go_simp
          refine hK.out _ _ (hD.set hBx _) (fun _ => ?_)
          clear hK K
          refine wpAnyH_done (by kernel_rfl) ?_ _
          exact FIN.out _ hB hD bS9
    · skip
      rw [if_pos (by rfl)]
      go_simp
      go_at_call 20
      refine (hjb.out _).mono ?_
      rintro e w1 ⟨rfl, hb⟩
      refine hK.out _ _ (hD.below hb) (fun _ => ?_)
      replace hD := hD.below hb
      replace hB := hB.trans (hb.mono hB.size)
      clear hK K hb
      simp only [Act.put, List.setIfInBounds_toArray, List.set_cons_zero, List.set_cons_succ]
      refine wpAnyH_ready (rs := [0, 6]) (by kernel_rfl) (by simp) ?_
      refine (AllReadyH.cons rfl (fun K hK => ?_) (AllReadyH.cons rfl (fun K hK => ?_) AllReadyH.nil))
      · skip
        rw [if_pos (by rfl)]
        have bS8 : Boxed _ (w.heap.size + 1 + 1) 2 (.int .i64 s) := (hB.block (w.heap.size + 1 + 1) b1.lt).trans b1
        have cS := bS8.cell
        go_simp
        refine hK.out _ _ hD (fun _ => ?_)
        clear hK K cS bS8
        simp only [Act.put, List.setIfInBounds_toArray, List.set_cons_zero, List.set_cons_succ]
        refine wpAnyH_ready (rs := [6]) (by kernel_rfl) (by simp) ?_
        refine (AllReadyH.cons rfl (fun K hK => ?_) AllReadyH.nil)
        · skip
          rw [if_pos (by rfl)]
          go_simp
          go_at_call 16
          refine (hcs.out _ (HDW.out.below hB)).mono ?_
          rintro e w1 ⟨rfl, hb⟩
          refine hK.out _ _ (hD.below hb) (fun _ => ?_)
          replace hD := hD.below hb
          replace hB := hB.trans (hb.mono hB.size)
          clear hK K hb
          simp only [Act.put, List.setIfInBounds_toArray, List.set_cons_zero, List.set_cons_succ]
          refine wpAnyH_take (i := 7) (v := .int .i64 (J * C)) rfl (by kernel_rfl) (by kernel_rfl) (by kernel_rfl) (fun _ _ _ h => h) (Or.inl ⟨by rfl, ?_⟩) hD ?_
          · intro w' hw'
            clear hw'
            go_simp
            exact WR7.out
          simp only [Act.put, List.setIfInBounds_toArray, List.set_cons_zero, List.set_cons_succ]
          refine wpAnyH_take (i := 8) (v := .int .i64 (s + J * C)) rfl (by kernel_rfl) (by kernel_rfl) (by kernel_rfl) (fun _ _ _ h => h) (Or.inl ⟨by rfl, ?_⟩) hD ?_
          · intro w' hw'
            clear hw'
            go_simp
            exact WR8.out
          simp only [Act.put, List.setIfInBounds_toArray, List.set_cons_zero, List.set_cons_succ]
          have bS9 : Boxed _ (w.heap.size + 1 + 1) 2 (.int .i64 s) := (hB.block (w.heap.size + 1 + 1) b1.lt).trans b1
          have cS := bS9.cell
          have fS := bS9.frozen
          refine wpAnyH_ready (rs := [9]) (by kernel_rfl) (by simp) (AllReadyH.cons rfl (fun K hK => ?_) AllReadyH.nil)
          rw [if_pos (by rfl)]
          go_simp
          refine hK.out _ _ (hD.set hBx _) (fun _ => ?_)
          clear hK K
          refine wpAnyH_done (by kernel_rfl) ?_ _
          exact FIN.out _ hB hD bS9
      · skip
        rw [if_pos (by rfl)]
        go_simp
        go_at_call 16
        refine (hcs.out _ (HDW.out.below hB)).mono ?_
        rintro e w1 ⟨rfl, hb⟩
        refine hK.out _ _ (hD.below hb) (fun _ => ?_)
        replace hD := hD.below hb
        replace hB := hB.trans (hb.mono hB.size)
        clear hK K hb
        simp only [Act.put, List.setIfInBounds_toArray, List.set_cons_zero, List.set_cons_succ]
        refine wpAnyH_take (i := 7) (v := .int .i64 (J * C)) rfl (by kernel_rfl) (by kernel_rfl) (by kernel_rfl) (fun _ _ _ h => h) (Or.inl ⟨by rfl, ?_⟩) hD ?_
        · intro w' hw'
          clear hw'
          go_simp
          exact WR7.out
        simp only [Act.put, List.setIfInBounds_toArray, List.set_cons_zero, List.set_cons_succ]
        refine wpAnyH_ready (rs := [0]) (by kernel_rfl) (by simp) ?_
        refine (AllReadyH.cons rfl (fun K hK => ?_) AllReadyH.nil)
        · skip
          rw [if_pos (by rfl)]
          have bS8 : Boxed _ (w.heap.size + 1 + 1) 2 (.int .i64 s) := (hB.block (w.heap.size + 1 + 1) b1.lt).trans b1
          have cS := bS8.cell
          go_simp
          refine hK.out _ _ hD (fun _ => ?_)
          clear hK K cS bS8
          simp only [Act.put, List.setIfInBounds_toArray, List.set_cons_zero, List.set_cons_succ]
          refine wpAnyH_take (i := 8) (v := .int .i64 (s + J * C)) rfl (by kernel_rfl) (by kernel_rfl) (by kernel_rfl) (fun _ _ _ h => h) (Or.inl ⟨by rfl, ?_⟩) hD ?_
          · intro w' hw'
            clear hw'
            go_simp
            exact WR8.out
          simp only [Act.put, List.setIfInBounds_toArray, List.set_cons_zero, List.set_cons_succ]
          have bS9 : Boxed _ (w.heap.size + 1 + 1) 2 (.int .i64 s) := (hB.block (w.heap.size + 1 + 1) b1.lt).trans b1
          have cS := bS9.cell
          have fS := bS9.frozen
          refine wpAnyH_ready (rs := [9]) (by kernel_rfl) (by simp) (AllReadyH.cons rfl (fun K hK => ?_) AllReadyH.nil)
          rw [if_pos (by rfl)]
          go_simp
          refine hK.out _ _ (hD.set hBx _) (fun _ => ?_)
          clear hK K
          refine wpAnyH_done (by kernel_rfl) ?_ _
          exact FIN.out _ hB hD bS9
    -- END
  case done =>
    rintro D ys W hD hys ⟨⟨⟨b1, b2⟩, b3⟩, hB1⟩ hK
    rw [hys] at b1
    have c1 := b1.cell
    gi_wp2
    refine ⟨by simp, .inl ⟨_, _, rfl, run_takeDeferred hK, ?_⟩⟩
    exact ⟨_, results_tmp rfl _ _ _, rfl, hB1.trans (belowK_b (w := w) (Nat.le_refl _) W D _ _ (by omega) hK rfl rfl)⟩
  case stop =>
    rintro D c pre W _ _ h _
    exact h.elim
end Go.Proofs.YtkbninfdehppiaaDoor
