/-
The walk of law26.DemandOthers.
Conditions: as each theorem states them.
-/
import Derived.Test.YtkbninfdehppiaaDoorE4
namespace Go.Proofs.YtkbninfdehppiaaDoor
open Go Go.Proofs Go.RowKit

set_option maxRecDepth 100000 in
set_option maxHeartbeats 4000000 in
theorem law_any (v : Value) (ls : List Str) (x b : Int) (w : World) (hlive : ∀ w, Div w → Calls Tryd.prog 5 #[] w fun e w' => e = .returned (.bool true) ∧ Below w.heap.size w w')
    (hn : ls.length ≤ 9223372036854775807) (hfit : ∀ i (hi : i < ls.length), ls[i].fits) (hv : ∃ a cap, v = .slice a ls.length cap) (hr : 0 < ls.length → RdS w v ls) (hd : Div w) (x0 : 0 ≤ x) (x1 : x ≤ 65535) (b0 : 0 ≤ b) (b1 : b ≤ 255) :
    Calls Tryd.prog 3 #[v, .int .u16 x, .int .u8 b] w fun e w' => e = .returned (.bool true) ∧ Below w.heap.size w w' := by
  obtain ⟨i0, hi, hz0, hz1, hz2⟩ := info_parts infoT
  have hfew := Lib.hid (few_any v ls w hn hfit hv hr)
  obtain ⟨a, cap, rfl⟩ := hv
  have HLV := Lib.hid hlive
  have HD := Lib.hid hd
  clear hr hfit hd hlive
  have hk6 : min ls.length 6 ≤ 6 := by omega
  have HC := Lib.hid (few_checks ls (min ls.length 6) hk6)
  have HE := Lib.hid (edf_checks ls (min ls.length 6) hk6)
  generalize fewK ls (min ls.length 6) = ss at *
  have hm : ss.length ≤ 64 := (HC.out 1 (by omega) (by omega)).many
  go_enter Tryd.func3, Tryd.ntmps3
  go_wp2_with (go_at_call 4; refine hfew.out.mono ?_; rintro e w1 ⟨r, rfl, hrow, hb⟩; have hrs := RdS.of_row hrow; obtain ⟨a1, cap1, rfl⟩ := hrs.slice; have HRS := Lib.hid hrs; have HRL := Lib.hid hrs.lt; clear hrow hrs)
  go_loopw [8, 9] (fun o i wr => ∃ (k : Nat) (o' : Value), k ≤ ss.length ∧ i = .int .i64 k ∧ o' = o ∧ wr.ownsRow w1.heap.size 27 7 o' (edf (ss.take k)).length (rowS (edf (ss.take k))) ∧ Below w1.heap.size w1 wr) (fun _ i _ => ss.length - (intOf i).toNat)
  case atStart => exact ⟨0, _, Nat.zero_le _, rfl, rfl, ⟨rfl, .inl ⟨rfl, rfl⟩⟩, Below.refl _ _⟩
  case round =>
    obtain ⟨k, o, hk, rfl, ho, hrow, hB⟩ := hrel
    subst ho
    have HROW := Lib.hid hrow
    clear hrow
    have hel := List.length_filter_le (fun s : Str => s.cls == 1) (ss.take k)
    have hel2 : (edf (ss.take k)).length ≤ 64 := by unfold edf; rw [List.length_take] at hel; omega
    clear hel
    by_cases hlt : k < ss.length
    · rcases HRS.out.belowN hB HRL.out with ⟨_, e2⟩ | ⟨g, off, cap', e1, hl, hcap, hcc⟩
      · rw [e2] at hlt; simp at hlt
      · cases e1
        obtain ⟨a0, a1, a2, a3, a4, a5, a6⟩ := hcc k hlt
        clear hcc
        by_cases hcls : ss[k].cls = 1
        · have HS := Lib.hid (edf_take1 ss k hlt hcls)
          generalize hsj : ss[k] = sj at *
          obtain ⟨t0, t1, t2, t3, t4, t5, t6⟩ := sj
          dsimp only at a0 a1 a2 a3 a4 a5 a6 HS hcls
          subst hcls
          clear hsj
          have F1 := Lib.hid (owns_below HROW.out ((Below.refl wr.heap.size wr).alloc (Nat.le_refl _) (.cells #[.int .i64 t0, .int .i64 t1, .int .i64 1, .int .i64 t3, .int .i64 t4, .int .i64 t5, .int .i64 t6] 27)))
          have F2 := Lib.hid (World.news_of_block (World.alloc_heap_new wr (.cells #[.int .i64 t0, .int .i64 t1, .int .i64 1, .int .i64 t3, .int .i64 t4, .int .i64 t5, .int .i64 t6] 27)))
          have F3 := hB.alloc hB.size (.cells #[.int .i64 t0, .int .i64 t1, .int .i64 1, .int .i64 t3, .int .i64 t4, .int .i64 t5, .int .i64 t6] 27)
          go_wp2_with (at_builtin; refine wpList_append_own _ rfl _ _ 22 rfl w1.heap.size 27 i0 _ 7 56 Tryd.underlying22 hi hz0 hz1 hz2 rfl (by decide) _ _ (rowS (edf (ss.take k))) rfl F1.out ⟨wr.heap.size, 0, none⟩ 1 1 (cellsL ⟨t0, t1, 1, t3, t4, t5, t6⟩) rfl rfl F2.out (by simp [Value.oneCell']) (by unfold maxLen; omega) (by omega) F3.size ?_; intro v' w2 hown' hgrow _; have HOWN := Lib.hid hown'; clear hown')
          go_roundw
          case rel => exact ⟨k + 1, _, by omega, by simp, rfl, by rw [HS.out, rowS_snoc, List.length_append]; exact HOWN.out, F3.grown hgrow F3.size (fun k' e => (F1.out.lt k' e).1)⟩
          case measure => simp [intOf]; omega
        · have HS := Lib.hid (edf_take0 ss k hlt hcls)
          generalize hsj : ss[k] = sj at *
          obtain ⟨t0, t1, t2, t3, t4, t5, t6⟩ := sj
          dsimp only at a0 a1 a2 a3 a4 a5 a6 HS hcls
          clear hsj
          go_wp2
          go_roundw
          case rel => exact ⟨k + 1, _, by omega, by simp, rfl, by rw [HS.out]; exact HROW.out, hB⟩
          case measure => simp [intOf]; omega
    · obtain rfl : k = ss.length := by omega
      have he : edf (ss.take ss.length) = edf ss := by rw [List.take_length]
      have hrow2 := HROW.out
      rw [he] at hrow2
      have hes := RdS.of_row hrow2
      clear hrow2 HROW he hel2
      have hA0 : 1 ≤ min (x + 1) 65536 ∧ min (x + 1) 65536 ≤ 65536 := by omega
      have hN0 : 1 ≤ b % 100 + 1 ∧ b % 100 + 1 ≤ 100 := by omega
      have hss := HRS.out.below hB
      have hdw := HD.out.below (hb.trans (hB.mono hb.size))
      have c0 := Lib.hid (fun W (h : Below wr.heap.size wr W) => HLV.out W (hdw.below h))
      have c1 := Lib.hid (fun W (h : Below wr.heap.size wr W) => Of_any _ ss (min (x + 1) 65536) (b % 100 + 1) W (HC.out _ hN0.1 hN0.2) (by omega) (hss.below h) (hdw.below h) hA0.1 hA0.2)
      have c2 := Lib.hid (fun W (h : Below wr.heap.size wr W) => Of_any _ (edf ss) (min (x + 1) 65536) (b % 100 + 1) W (HE.out _ hN0.1 hN0.2) (by omega) (hes.below h) (hdw.below h) hA0.1 hA0.2)
      have c3 := Lib.hid (fun W (h : Below wr.heap.size wr W) => load_any _ ss W (HC.out 1 (by omega) (by omega)) (hss.below h) (hdw.below h))
      have c4 := Lib.hid (fun W (h : Below wr.heap.size wr W) => load_any _ (edf ss) W (HE.out 1 (by omega) (by omega)) (hes.below h) (hdw.below h))
      have c5 := Lib.hid (fun W (h : Below wr.heap.size wr W) => blocking_any _ (edf ss) W (HE.out 1 (by omega) (by omega)).many (HE.out 1 (by omega) (by omega)).ok (hes.below h) (hdw.below h))
      have c6 := Lib.hid (fun W (h : Below wr.heap.size wr W) => blocking_any _ ss W (HC.out 1 (by omega) (by omega)).many (HC.out 1 (by omega) (by omega)).ok (hss.below h) (hdw.below h))
      rw [edf_edf] at c2 c4
      have hle := blkI_edf ss
      generalize blkI (edf ss) = q1 at *
      generalize blkI ss = q2 at *
      generalize loadI (edf ss) = q3 at *
      generalize sumI (min (x + 1) 65536) (b % 100 + 1) (edf ss) = q4 at *
      clear hes hss hdw
      go_wp2_with fail
      refine (c0.out _ (Below.refl _ _)).mono ?_
      rintro e wa ⟨rfl, ha⟩
      go_wp2_with fail
      refine (c1.out _ ha).mono ?_
      rintro e wb ⟨rfl, hb2⟩
      replace ha := ha.trans (hb2.mono ha.size)
      go_wp2_with fail
      refine (c2.out _ ha).mono ?_
      rintro e wc ⟨rfl, hb3⟩
      replace ha := ha.trans (hb3.mono ha.size)
      go_wp2_with fail
      refine (c3.out _ ha).mono ?_
      rintro e wd ⟨rfl, hb4⟩
      replace ha := ha.trans (hb4.mono ha.size)
      go_wp2_with fail
      refine (c4.out _ ha).mono ?_
      rintro e we ⟨rfl, hb5⟩
      replace ha := ha.trans (hb5.mono ha.size)
      go_wp2_with fail
      refine (c5.out _ ha).mono ?_
      rintro e wf ⟨rfl, hb6⟩
      replace ha := ha.trans (hb6.mono ha.size)
      go_wp2_with fail
      refine (c6.out _ ha).mono ?_
      rintro e wg ⟨rfl, hb7⟩
      replace ha := ha.trans (hb7.mono ha.size)
      clear c0 c1 c2 c3 c4 c5 c6 hb2 hb3 hb4 hb5 hb6
      go_wp2
      go_ret
      exact ⟨rfl, hb.trans ((hB.trans (ha.mono hB.size)).mono hb.size)⟩
end Go.Proofs.YtkbninfdehppiaaDoor
