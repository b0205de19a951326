/-
Contract of demand.grows, at streams that can be.
Conditions: as each theorem states them.
-/
import Derived.Maps.OwnIn
import Derived.Test.YtkbninfdehppiaaDoorE1
import Derived.Test.YtkbninfdehppiaaDoorD6
set_option linter.unusedSimpArgs false
namespace Go.Proofs.YtkbninfdehppiaaDoor
open Go Go.Proofs Go.RowKit Go.Shelf Go.Maps

attribute [local go_sem] Oper.semAt_some

/-- The spans, from one on, up to a horizon. -/
def spansF : Nat → Int → Int → Int → List Int
  | 0, _, _, _ => []
  | n + 1, sp, per, hor => if sp ≤ hor then max sp 1 :: spansF n (sp + per) per hor else []
/-- A stream's spans. -/
def spansI (s : Str) (len hor : Int) : List Int := spansF (hor + 1 - (s.dl - len + 1)).toNat (s.dl - len + 1) s.per hor
/-- Keys laid into a set. -/
def putAll (D : DataW Unit) (ks : List Int) : DataW Unit := ks.foldl (fun D k => D.put (.int .i64 k) (.lit (.bool true))) D
/-- The set of the spans of streams. -/
def growsD (ss : List Str) (len hor : Int) : DataW Unit := ss.foldl (fun D s => putAll D (spansI s len hor)) (.map [])
theorem growsD_snoc (ss : List Str) (s : Str) (len hor : Int) : growsD (ss ++ [s]) len hor = putAll (growsD ss len hor) (spansI s len hor) := by simp [growsD]
theorem putAll_snoc (D : DataW Unit) (ks : List Int) (k : Int) : putAll D (ks ++ [k]) = (putAll D ks).put (.int .i64 k) (.lit (.bool true)) := by simp [putAll]
theorem spansF_len : ∀ (n : Nat) (sp per hor : Int), (spansF n sp per hor).length ≤ n
  | 0, _, _, _ => Nat.le_refl _
  | n + 1, sp, per, hor => by
    unfold spansF
    split
    · have := spansF_len n (sp + per) per hor
      simp only [List.length_cons]
      omega
    · simp
/-- How many they are. -/
def cntS (ss : List Str) (len hor : Int) : Nat := (ss.map fun s => (spansI s len hor).length).sum
theorem cntS_snoc (ss : List Str) (s : Str) (len hor : Int) : cntS (ss ++ [s]) len hor = cntS ss len hor + (spansI s len hor).length := by simp [cntS]

theorem cntS_le (ss : List Str) (len hor : Int) (h : ∀ s ∈ ss, 1 ≤ s.dl) : cntS ss len hor ≤ ss.length * (hor + len).toNat := by
  induction ss with
  | nil => simp [cntS]
  | cons s r ih =>
    have h1 := ih (fun t ht => h t (List.mem_cons_of_mem _ ht))
    have h2 := spansF_len (hor + 1 - (s.dl - len + 1)).toNat (s.dl - len + 1) s.per hor
    have h3 := h s (List.mem_cons_self ..)
    have e : cntS (s :: r) len hor = (spansI s len hor).length + cntS r len hor := by simp [cntS]
    rw [e, List.length_cons, Nat.add_mul, Nat.one_mul]
    unfold spansI
    omega

/-- What holds between the rounds. -/
def GrI (w : World) (ss : List Str) (len hor : Int) (pre : List (DS ss)) (W : World) : Prop :=
  Boxed W w.heap.size 2 (.int .i64 len) ∧ Boxed W (w.heap.size + 1) 2 (.int .i64 hor) ∧ Boxed W (w.heap.size + 1 + 1 + 1) 62 (.map (some (w.heap.size + 1 + 1))) ∧
  W.ownsMap Tryd.prog 2 (plainElem (H := Unit) Tryd.prog 4) (w.heap.size + 1 + 1) (cntS (pre.map (·.1)) len hor) (growsD (pre.map (·.1)) len hor) ∧ Below w.heap.size w W
theorem GrI.own (w : World) (ss : List Str) (len hor : Int) (B : Nat) (hB : w.heap.size + 5 ≤ B) : OwnFrom B (GrI w ss len hor) := by
  intro s X Y row hs hg hr
  obtain ⟨h1, h2, h3, h4, h5⟩ := hs
  have hne : ∀ k, k < w.heap.size + 5 → some k ≠ row := fun k hk e => by have := (hr _ e.symm).1; omega
  exact ⟨h1.kept hg (hne _ (by omega)), h2.kept hg (hne _ (by omega)), h3.kept hg (hne _ (by omega)), h4.kept hg (hne _ (by omega)), h5.grown hg h5.size (fun k e => by have := (hr _ e).1; omega)⟩

set_option maxRecDepth 100000 in
set_option maxHeartbeats 4000000 in
theorem grows_any (v : Value) (ss : List Str) (len hor : Int) (w : World) (hn : ss.length ≤ 1) (hok : ∀ s ∈ ss, s.ok) (hr : RdS w v ss) (l0 : 1 ≤ len) (l1 : len ≤ 1000) (h0 : 1 ≤ hor) (h1 : hor ≤ 65536) :
    Calls Tryd.prog 18 #[v, .int .i64 len, .int .i64 hor] w fun e w' => ∃ (v' : Value) (ks : List Int), e = .returned v' ∧ ks.Perm (intKeys (growsD (edf ss) len hor)) ∧
      w'.ownsRow w.heap.size 2 1 v' ks.length ((ks.mergeSort (fun x y => decide (x ≤ y))).map encZ) ∧ Below w.heap.size w w' := by
  obtain ⟨a, cap, rfl⟩ := hr.slice
  have hmm := @run_makeMap Tryd.prog
  refine (callsIn_wide (n := 6)).1 ?_
  have hro : Fence.wide.round = none := rfl
  refine callsIn_of_wp_marks Tryd.func18 rfl trivial ?_ rfl
  simp only [Tryd.ntmps18, List.size_toArray, List.length_cons, List.length_nil, Nat.reduceAdd, Nat.reduceSub, Array.replicate_succ, Array.replicate_zero, List.push_toArray, List.append_toArray, List.nil_append, List.cons_append]
  gi_wp2_with (refine ⟨trivial, ?_⟩; gi_at_call 14; refine callsIn_wide.2 (due_any _ _ _ _) |>.mono ?_; rintro e w' ⟨rfl, rfl⟩)
  have bL0 := (((((Boxed.new w 2 (.int .i64 len)).alloc (.cells #[.int .i64 hor] 2)).alloc (.map #[] 0)).alloc (.cells #[.map (some (w.heap.size + 1 + 1))] 62)).alloc (.cells #[.slice a ss.length cap] 22))
  have h2 := Boxed.new (w.alloc (.cells #[.int .i64 len] 2)) 2 (.int .i64 hor)
  simp only [World.size_alloc] at h2
  have bH0 := ((h2.alloc (.map #[] 0)).alloc (.cells #[.map (some (w.heap.size + 1 + 1))] 62)).alloc (.cells #[.slice a ss.length cap] 22)
  have h3 := Boxed.new (((w.alloc (.cells #[.int .i64 len] 2)).alloc (.cells #[.int .i64 hor] 2)).alloc (.map #[] 0)) 62 (.map (some (w.heap.size + 1 + 1)))
  simp only [World.size_alloc] at h3
  have bM0 := h3.alloc (.cells #[.slice a ss.length cap] 22)
  have bS0 := Boxed.new ((((w.alloc (.cells #[.int .i64 len] 2)).alloc (.cells #[.int .i64 hor] 2)).alloc (.map #[] 0)).alloc (.cells #[.map (some (w.heap.size + 1 + 1))] 62)) 22 (.slice a ss.length cap)
  simp only [World.size_alloc] at bS0
  have h4 := World.ownsMap_made ((w.alloc (.cells #[.int .i64 len] 2)).alloc (.cells #[.int .i64 hor] 2)) Tryd.prog 2 (plainElem (H := Unit) Tryd.prog 4)
  simp only [World.size_alloc] at h4
  have bD0 := (h4.alloc (.cells #[.map (some (w.heap.size + 1 + 1))] 62)).alloc (.cells #[.slice a ss.length cap] 22)
  clear h2 h3 h4
  have hB0 : Below w.heap.size w (((((w.alloc (.cells #[.int .i64 len] 2)).alloc (.cells #[.int .i64 hor] 2)).alloc (.map #[] 0)).alloc (.cells #[.map (some (w.heap.size + 1 + 1))] 62)).alloc (.cells #[.slice a ss.length cap] 22)) :=
    (((((Below.refl _ w).alloc (Nat.le_refl _) _).alloc (by simp) _).alloc (by simp; omega) _).alloc (by simp; omega) _).alloc (by simp; omega) _
  obtain ⟨W0, hW0⟩ : ∃ W0, (((((w.alloc (.cells #[.int .i64 len] 2)).alloc (.cells #[.int .i64 hor] 2)).alloc (.map #[] 0)).alloc (.cells #[.map (some (w.heap.size + 1 + 1))] 62)).alloc (.cells #[.slice a ss.length cap] 22)) = W0 := ⟨_, rfl⟩
  have hsz : W0.heap.size = w.heap.size + 5 := by rw [← hW0]; simp
  rw [hW0] at bL0 bH0 bM0 bS0 bD0 hB0 ⊢
  clear hW0
  refine wpIn_rangeFunc_ownH hro (by omega) (gf := 21) (lb := #[.pointer (some ⟨w.heap.size + 1 + 1 + 1 + 1, 0, none⟩)]) rfl trivial (enters_of Tryd.func21 (by kernel_rfl) rfl)
    (due_stops 5 (by omega) (w.heap.size + 1 + 1 + 1 + 1) w.heap.size (.slice a ss.length cap) ss (by omega) W0 (by omega) (by omega) bS0.cell (hr.below hB0) hr.lt) belowK_t (belowK_b (by omega)) (Below.refl _ _) (fun _ => rfl)
    (GrI w ss len hor)
    (fun _ _ _ => False)
    (GrI.own w ss len hor _ (by omega))
    (fun _ _ _ _ _ hs _ _ => hs)
    ⟨bL0, bH0, bM0, bD0, hB0⟩
    (fun x a' W => ∃ Bx, w.heap.size + 1 + 1 + 1 < Bx ∧ W.heap[Bx]? = some (.cells #[.int .i64 x.1.id, .int .i64 x.1.node, .int .i64 x.1.cls, .int .i64 x.1.per, .int .i64 x.1.dl, .int .i64 x.1.slot, .int .i64 x.1.byt] 27) ∧ a' = { tmps := #[.slice a ss.length cap, .int .i64 len, .int .i64 hor, undef, .pointer (some ⟨w.heap.size, 0, none⟩), .pointer (some ⟨w.heap.size + 1, 0, none⟩), .slice none 0 0, .pointer (some ⟨w.heap.size + 1 + 1 + 1, 0, none⟩), .pointer (some ⟨Bx, 0, none⟩), undef, .map (some (w.heap.size + 1 + 1)), .slice a ss.length cap, .func (.func 21) #[] #[.pointer (some ⟨w.heap.size + 1 + 1 + 1 + 1, 0, none⟩)], x.1.val, undef, undef, undef, undef, undef, undef, undef, undef, undef, undef, undef, undef, undef, undef, undef, undef, undef, undef], defers := [] })
    (fun x a' _ X Y row hs hg hr => by obtain ⟨Bx, h1, h2, h3⟩ := hs; exact ⟨Bx, h1, blk_own Bx _ rfl () X Y row h2 hg (fun r e => (hr r e).2), h3⟩)
    ?assign ?body ?done ?stop
  case assign =>
    rintro l pre x W K ⟨b1, b2, b3, b4, hB1⟩ hK
    gi_wp2
    exact hK _ _ ((KeepsOthers.alloc _ _).from _) ((Below.refl _ W).alloc hB1.size _) ⟨b1.alloc _, b2.alloc _, b3.alloc _, b4.alloc _, hB1.alloc hB1.size _⟩ ⟨W.heap.size, b3.lt, World.alloc_heap_new W _, rfl⟩
  case body =>
    rintro l pre x a' W hl ⟨r, hr'⟩ ⟨b1, b2, b3, b4, hB1⟩ ⟨Bx, hBx, bX, rfl⟩ hlt
    obtain rfl : pre = [] := List.eq_nil_of_length_eq_zero (by omega)
    have hx := hok x.1 x.2.1
    obtain ⟨xs, hm, hc⟩ := x
    dsimp only at *
    have p0 := hx.per0
    have p1 := hx.per1
    have d0 := hx.dl0
    have d1 := hx.dl1
    have HX := Lib.hid hx
    clear hx
    have f1 := b1.cell
    have f2 := b2.cell
    have f3 := b3.cell
    have g3 : W.cell? ⟨Bx, 3, none⟩ = some (.int .i64 xs.per) := by simp [World.cell?, bX]
    have g4 : W.cell? ⟨Bx, 4, none⟩ = some (.int .i64 xs.dl) := by simp [World.cell?, bX]
    gi_wp2
    gi_loopw [9] (fun sp wr => ∃ (sp' : Int) (ks : List Int) (f : Nat), sp = .int .i64 sp' ∧ -1000 ≤ sp' ∧ sp' ≤ 1073807360 ∧ (hor + 1 - sp').toNat ≤ f ∧ ks ++ spansF f sp' xs.per hor = spansI xs len hor ∧
      wr.ownsMap Tryd.prog 2 (plainElem (H := Unit) Tryd.prog 4) (w.heap.size + 1 + 1) ks.length (putAll (.map []) ks) ∧ W.grownBy wr (some (w.heap.size + 1 + 1)))
      (fun sp _ => (hor + 1 - intOf sp).toNat)
    case atStart => exact ⟨_, [], _, rfl, by omega, by omega, Nat.le_refl _, rfl, b4, ⟨rfl, rfl, rfl, Nat.le_refl _, fun _ _ _ => rfl⟩⟩
    case round =>
      obtain ⟨sp', ks, f, rfl, s0, s1, hf, hks, hown, hg⟩ := hrel
      have HKS := Lib.hid hks
      have HOWN := Lib.hid hown
      clear hks hown f1 f2 f3 g3 g4
      have k1 := b1.kept hg (by simp; omega)
      have k2 := b2.kept hg (by simp)
      have k3 := b3.kept hg (by simp)
      have kX := (hg.block Bx (Array.getElem?_eq_some_iff.1 bX).1 (by simp; omega)).trans bX
      have f1 := k1.cell
      have f2 := k2.cell
      have f3 := k3.cell
      have g3 : wr.cell? ⟨Bx, 3, none⟩ = some (.int .i64 xs.per) := by simp [World.cell?, kX]
      have g4 : wr.cell? ⟨Bx, 4, none⟩ = some (.int .i64 xs.dl) := by simp [World.cell?, kX]
      have hkl : ks.length < maxLen := by
        have h1 := congrArg List.length HKS.out
        rw [List.length_append] at h1
        have h2 := spansF_len (hor + 1 - (xs.dl - len + 1)).toNat (xs.dl - len + 1) xs.per hor
        unfold spansI at h1
        unfold maxLen
        omega
      by_cases hle : sp' ≤ hor
      · obtain ⟨f', rfl⟩ : ∃ f', f = f' + 1 := ⟨f - 1, by omega⟩
        have hst : (ks ++ [max sp' 1]) ++ spansF f' (sp' + xs.per) xs.per hor = spansI xs len hor := by
          rw [← HKS.out, show spansF (f' + 1) sp' xs.per hor = max sp' 1 :: spansF f' (sp' + xs.per) xs.per hor by rw [spansF, if_pos hle]]
          simp
        have hpa := putAll_snoc (.map []) ks (max sp' 1)
        have HST := Lib.hid hst
        have hwf1 : (Lit.int .i64 (max sp' 1)).wf = true := WalkArith.wf_i64 (by omega)
        have HPA := Lib.hid hpa
        clear hst hpa
        gi_wp2_with (gi_at_mapUpdate; refine wpListIn_mapUpdate_own _ rfl _ _ _ 62 rfl 2 4 (Maps.int_keyed Tryd.underlying2) Tryd.underlying62 _ (w.heap.size + 1 + 1) ks.length _ rfl HOWN.out hkl _ _ _ rfl rfl (Maps.keyOf_int_mk Tryd.underlying2 hwf1) _ [] (plainElem_bool Tryd.underlying4 true) ?_; intro w1 hown1 hgrow1; have HO1 := Lib.hid hown1; have HG1 := Lib.hid hgrow1; have e3 := (kX ▸ hgrow1.block Bx (Array.getElem?_eq_some_iff.1 kX).1 (by simp; omega) : w1.heap[Bx]? = _); have g5 : w1.cell? ⟨Bx, 3, none⟩ = some (.int .i64 xs.per) := (by simp [World.cell?, e3]); clear hown1 hgrow1)
        go_roundw
        case rel =>
          refine ⟨sp' + xs.per, ks ++ [max sp' 1], f', rfl, by omega, by omega, by omega, HST.out, ?_, ?_⟩
          · rw [HPA.out, List.length_append]
            exact HO1.out
          · exact hg.trans HG1.out
        case measure => simp [intOf]; omega
      · have hst : spansF f sp' xs.per hor = [] := by
          cases f with
          | zero => rfl
          | succ f => rw [spansF, if_neg hle]
        have hall : ks = spansI xs len hor := by rw [← HKS.out, hst, List.append_nil]
        have HALL := Lib.hid hall
        clear hst hall
        gi_wp2
        refine ⟨KeepsFrom.of_grownBy hg (fun j e => by cases e; omega), (Below.refl _ _).grown hg hB1.size (fun j e => by cases e; omega), k1, k2, k3, ?_, hB1.grown hg hB1.size (fun j e => by cases e; omega)⟩
        have e1 : cntS ([(⟨xs, hm, hc⟩ : DS ss)].map (fun x : DS ss => x.1)) len hor = ks.length := by simp [cntS, HALL.out]
        have e2 : growsD ([(⟨xs, hm, hc⟩ : DS ss)].map (fun x : DS ss => x.1)) len hor = putAll (.map []) ks := by simp [growsD, HALL.out]
        rw [e1, e2]
        exact HOWN.out
  case done =>
    rintro D ys W hD hys ⟨b1, b2, b3, b4, hB1⟩ hK
    have hys' : ys.map (fun x : DS ss => x.1) = edf ss := hys
    rw [hys'] at b4
    have f3 := b3.cell
    have hbl := b4.lt
    have hcnt : cntS (edf ss) len hor ≤ 70000 := by
      have h1 := cntS_le (edf ss) len hor (fun s hs => (hok s (List.mem_filter.1 hs).1).dl0)
      have h2 : (edf ss).length ≤ 1 := Nat.le_trans (List.length_filter_le _ _) hn
      have h3 : (edf ss).length * (hor + len).toNat ≤ 1 * 66536 := Nat.mul_le_mul h2 (by omega)
      omega
    have hsl := b4.size_le
    generalize hDD : growsD (edf ss) len hor = DD at b4 hsl
    have HDD := Lib.hid hDD
    generalize cntS (edf ss) len hor = nn at b4 hsl hcnt
    clear hDD
    have hmax : Maps.size DD ≤ maxLen := by unfold maxLen; omega
    have hbytes : Maps.size DD * 8 ≤ 140737488355328 := by omega
    have hseq : SeqGives Fence.wide 2 Tryd.prog 47 #[.pointer (some ⟨W.heap.size, 0, none⟩)] encZ (fun ss => ss.Perm (intKeys DD)) (Maps.size DD) (W.alloc (.cells #[.map (some (w.heap.size + 1 + 1))] 62)) :=
      AnyZI.keys_gives (ρ := Tryd.keysA_ren) { Tryd.keysA with } Fence.wide _ trivial rfl (by omega) W.heap.size (w.heap.size + 1 + 1) nn DD _ (by simp) (by simp) (by
        obtain ⟨es, clock, hb, Ft, hs, hDD⟩ := b4
        exact ⟨es, clock, (Below.heap_alloc _ _ _ hbl).trans hb, Ft, hs, hDD⟩)
    have cK : ∀ mb W, CallsIn Fence.wide 5 Tryd.prog 30 #[.map mb] W fun e w' => e = .returned (.func (.func 47) #[] #[.pointer (some ⟨W.heap.size, 0, none⟩)]) ∧ w' = W.alloc (.cells #[.map mb] 62) := fun mb W => AnyZI.keys_in Tryd.keysA Fence.wide 5 trivial rfl mb W
    have cS := AnyZI.sorted_in Tryd.sortedA Fence.wide 5 trivial trivial trivial trivial rfl (by omega) (sortsA _) (enters_of Tryd.func46 (by kernel_rfl) rfl) 47 #[.pointer (some ⟨W.heap.size, 0, none⟩)] trivial (enters_of Tryd.func47 (by kernel_rfl) rfl) _ _ hmax hbytes _ hseq
    change CallsIn _ _ Tryd.prog 29 _ _ _ at cS
    have CK := Lib.hid cK
    have CS := Lib.hid cS
    have HK := Lib.hid hK
    clear cK cS hseq hK hys hys'
    have hDlt := (Array.getElem?_eq_some_iff.1 HK.out).1
    gi_wp2_with (first
      | (refine ⟨trivial, ?_⟩; gi_at_call 30; refine (CK.out _ _).mono ?_; rintro e w' ⟨rfl, rfl⟩)
      | (refine ⟨trivial, ?_⟩; gi_at_call 29; refine CS.out.mono ?_; rintro e w2 ⟨v, kss, rfl, hS, hrow, hnil, hb⟩))
    have hK2 := ((hb.block D (by simp; omega)).trans (Below.heap_alloc W _ D hDlt)).trans HK.out
    refine ⟨by simp, .inl ⟨_, _, rfl, run_takeDeferred hK2, ?_⟩⟩
    have hbW : Below w.heap.size w w2 := (hB1.alloc hB1.size _).trans (hb.mono (by have := hB1.size; simp; omega))
    refine ⟨_, results_tmp rfl _ _ _, _, kss, rfl, HDD.out.symm ▸ hS, ownsRow_putObj (ownsRow_base_a hrow ?_) _ hK2 rfl, ?_⟩
    · have := hB1.size
      simp
      omega
    · exact hbW.trans (belowK_b (w := w) (Nat.le_refl _) w2 D _ _ (by omega) hK2 rfl rfl)
  case stop =>
    rintro D c pre W _ _ h _
    exact h.elim
end Go.Proofs.YtkbninfdehppiaaDoor
