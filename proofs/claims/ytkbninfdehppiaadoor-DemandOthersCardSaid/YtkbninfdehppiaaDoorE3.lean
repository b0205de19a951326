/-
Contracts of demand.Passes at streams of which one at most has deadlines, and of the law's live.
Conditions: as each theorem states them.
-/
import Derived.Test.YtkbninfdehppiaaDoorE2
import Derived.Test.YtkbninfdehppiaaDoorP1
set_option linter.unusedSimpArgs false
namespace Go.Proofs.YtkbninfdehppiaaDoor
open Go Go.Proofs Go.RowKit Go.Shelf Go.Maps

theorem blkI_bd (ss : List Str) (h : ∀ s ∈ ss, s.ok) : 0 ≤ blkI ss ∧ blkI ss ≤ 1000000 := by
  suffices H : ∀ (ss : List Str) (a : Int), (∀ s ∈ ss, s.ok) → 0 ≤ a → a ≤ 1000000 → 0 ≤ (ss.map costI).foldl max a ∧ (ss.map costI).foldl max a ≤ 1000000 from H ss 0 h (by omega) (by omega)
  intro ss
  induction ss with
  | nil => intro a _ h0 h1; exact ⟨h0, h1⟩
  | cons s r ih =>
    intro a h h0 h1
    obtain ⟨c0, c1⟩ := costI_bd s (h s (List.mem_cons_self ..))
    rw [List.map_cons, List.foldl_cons]
    exact ih _ (fun t ht => h t (List.mem_cons_of_mem _ ht)) (by omega) (by omega)

/-- Where streams first ask for too much. -/
def passI (b : Int) (f : Int → Int) : List Int → Int × Bool
  | [] => (0, true)
  | sp :: r => if b + f sp > sp then (sp, false) else passI b f r

theorem rowI {W : World} {base : Nat} {e : TypeId} {v : Value} {L : List Int} {n : Nat} (h : W.ownsRow base e 1 v n (L.map encZ)) : ∃ a cap, v = .slice a L.length cap ∧
    ∀ j (hj : j < L.length), ∃ g, a = some ⟨g, 0, none⟩ ∧ g < W.heap.size ∧ W.cell? ⟨g, j, none⟩ = some (.int .i64 L[j]) := by
  have hn : L.length = n := by have := h.1; simpa using this
  subst hn
  rcases h.2 with ⟨rfl, h0⟩ | ⟨g, cap, cur, rfl, _, hg, _, _, _, ht⟩
  · exact ⟨none, 0, by rw [h0], fun j hj => by omega⟩
  · refine ⟨_, cap, rfl, fun j hj => ⟨g, rfl, (Array.getElem?_eq_some_iff.1 hg).1, ?_⟩⟩
    have h1 : (cur.toList.take (L.length * 1))[j]? = some (encZ L[j]) := by rw [ht, List.getElem?_map, List.getElem?_eq_getElem hj]; rfl
    rw [List.getElem?_take, if_pos (by omega), Array.getElem?_toList] at h1
    simp [World.cell?, hg, h1]

set_option maxRecDepth 100000 in
set_option maxHeartbeats 4000000 in
theorem passes_any (v : Value) (ss : List Str) (len hor : Int) (L : List Int) (w : World) (h : Checks ss len) (hn : ss.length ≤ 1) (l1 : len ≤ 1000) (hr : RdS w v ss) (hd : Div w) (h0 : 1 ≤ hor) (h1 : hor ≤ 65536)
    (hL : intKeys (growsD (edf ss) len hor) = L) (hs : L.Pairwise (fun x y => x ≤ y)) (hb : ∀ j (hj : j < L.length), 1 ≤ L[j] ∧ L[j] ≤ 65536) (hlen : L.length ≤ 1000) :
    Calls Tryd.prog 10 #[v, .int .i64 len, .int .i64 hor] w fun e w' => e = .returned (.tuple #[.int .i64 (passI (blkI ss) (fun sp => sumI sp len (edf ss)) L).1, .bool (passI (blkI ss) (fun sp => sumI sp len (edf ss)) L).2]) ∧ Below w.heap.size w w' := by
  have l0 := h.len0
  have hc1 : clampI hor 1 65536 = hor := by unfold clampI; split <;> (try split) <;> omega
  have hcl := Lib.hid (fun w => clamp_any hor 1 65536 w)
  have hri := Lib.hid (drRight_ok v ss len w h hr)
  have hbk := Lib.hid (fun W (hb : Below w.heap.size w W) => blocking_any v ss W h.many h.ok (hr.below hb) (hd.below hb))
  have hgr := Lib.hid (fun W (hb : Below w.heap.size w W) => grows_any v ss len hor W hn h.mem (hr.below hb) l0 l1 h0 h1)
  have hof := Lib.hid (fun sp W (hb : Below w.heap.size w W) (s0 : 1 ≤ sp) (s1 : sp ≤ 65536) => dof_any v ss sp len W h.many h.mem (hr.below hb) (hd.below hb) (by omega) (by omega) (by omega) (by omega))
  have hsb := Lib.hid (fun sp (s0 : 1 ≤ sp) (s1 : sp ≤ 65536) => sumI_bd sp len (edf ss) (fun s hs => h.mem s (List.mem_filter.1 hs).1) (by omega) (by omega) (by omega) (by omega))
  have hbb := blkI_bd ss h.mem
  have hel : (edf ss).length ≤ 1 := Nat.le_trans (List.length_filter_le _ _) hn
  obtain ⟨a, cap, rfl⟩ := hr.slice
  have HC1 := Lib.hid hc1
  have HL := Lib.hid hL
  have HS := Lib.hid hs
  have HB := Lib.hid hb
  obtain ⟨bb0, bb1⟩ := hbb
  clear hc1 h hr hd hL hs hb
  generalize blkI ss = B at *
  have HEL := Lib.hid (fun (x : Int) (hx : x ≤ (edf ss).length * 2000001000) => show x ≤ 2000001000 by omega)
  rw [HC1.out] at hcl
  go_enter Tryd.func10, Tryd.ntmps10
  go_wp2_with (first
    | (go_at_call 11; refine (hcl.out _).mono ?_; rintro e w1 ⟨rfl, rfl⟩)
    | (go_at_call 12; refine hri.out.mono ?_; rintro e w1 ⟨rfl, hb1⟩; have HB1 := Lib.hid hb1; clear hb1)
    | (go_at_call 8; refine (hbk.out _ HB1.out).mono ?_; rintro e w2 ⟨rfl, hb2⟩; have HB2 := Lib.hid (HB1.out.trans (hb2.mono HB1.out.size)); clear hb2)
    | (go_at_call 18; refine (hgr.out _ HB2.out).mono ?_; rintro e w3 ⟨v', kss, rfl, hperm, hrow, hb3⟩; have HB3 := Lib.hid (HB2.out.trans (hb3.mono HB2.out.size)); clear hb3;
       rw [HL.out] at hperm;
       have hks := ((List.mergeSort_perm kss (fun x y => decide (x ≤ y))).trans hperm).eq_of_pairwise (le := fun x y => x ≤ y) (fun x y _ _ h1 h2 => Int.le_antisymm h1 h2) ((List.pairwise_mergeSort (le := fun x y : Int => decide (x ≤ y)) (by simp; omega) (by simp; omega) kss).imp (by simp)) HS.out;
       rw [hks] at hrow; obtain ⟨a3, cap3, rfl, hcc⟩ := rowI hrow; have HCC := Lib.hid hcc; clear hcc hrow hks hperm))
  go_loopw [10, 28] (fun _ i wr => ∃ j : Nat, j ≤ L.length ∧ i = .int .i64 j ∧ passI B (fun sp => sumI sp len (edf ss)) L = passI B (fun sp => sumI sp len (edf ss)) (L.drop j) ∧ Below w3.heap.size w3 wr) (fun _ i _ => L.length - (intOf i).toNat)
  case atStart => exact ⟨0, Nat.zero_le _, rfl, by simp, Below.refl _ _⟩
  case round =>
    obtain ⟨j, hj, rfl, hps, hB⟩ := hrel
    have HPS := Lib.hid hps
    clear hps
    by_cases hlt : j < L.length
    · obtain ⟨g, rfl, hg, hc⟩ := HCC.out j hlt
      have hc' := (hB.cell (p := ⟨g, j, none⟩) hg).trans hc
      have hdr := List.drop_eq_getElem_cons hlt
      have HDR := Lib.hid hdr
      obtain ⟨q0, q1⟩ := HB.out j hlt
      clear hc hdr
      generalize L[j] = sp at *
      have hcon := Lib.hid (hof.out sp _ (HB3.out.trans (hB.mono HB3.out.size)) q0 q1)
      obtain ⟨z0, z1⟩ := hsb.out sp q0 q1
      have z2 := HEL.out _ z1
      generalize hz : sumI sp len (edf ss) = z at *
      have HZ := Lib.hid hz
      clear hz z1
      by_cases hgt : sp < B + z
      · have hfin : passI B (fun sp => sumI sp len (edf ss)) (L.drop j) = (sp, false) := by
          rw [HDR.out, passI, if_pos (by rw [HZ.out]; exact hgt)]
        have HF := Lib.hid hfin
        clear hfin
        go_wp2_with (go_at_call 13; refine hcon.out.mono ?_; rintro e w4 ⟨rfl, hb4⟩)
        go_ret2
        exact ⟨by rw [HPS.out, HF.out]; rfl, HB3.out.trans ((hB.trans (hb4.mono hB.size)).mono HB3.out.size)⟩
      · have hfin : passI B (fun sp => sumI sp len (edf ss)) (L.drop j) = passI B (fun sp => sumI sp len (edf ss)) (L.drop (j + 1)) := by
          rw [HDR.out, passI, if_neg (by rw [HZ.out]; exact hgt)]
        have HF := Lib.hid hfin
        clear hfin
        have hge : B + z ≤ sp := by omega
        clear hgt
        go_wp2_with (go_at_call 13; refine hcon.out.mono ?_; rintro e w4 ⟨rfl, hb4⟩)
        go_roundw
        case rel => exact ⟨j + 1, by omega, by go_num, by rw [HPS.out, HF.out], hB.trans (hb4.mono hB.size)⟩
        case measure => simp [intOf]; omega
    · obtain rfl : j = L.length := by omega
      have hfin : passI B (fun sp => sumI sp len (edf ss)) (L.drop L.length) = (0, true) := by rw [List.drop_length]; rfl
      have HF := Lib.hid hfin
      clear hfin
      go_wp2
      go_ret2
      exact ⟨by rw [HPS.out, HF.out]; rfl, HB3.out.trans (hB.mono HB3.out.size)⟩
end Go.Proofs.YtkbninfdehppiaaDoor
