/-
Rows of streams that were appended to, and law25.Few.
Conditions: as each theorem states them.
-/
import Derived.Deep.AppendLies
import Derived.Test.YtkbninfdehppiaaDoorD7
import Derived.Test.YtkbninfdehppiaaDoorB4
import Derived.Test.YtkbninfdehppiaaDoorC3
namespace Go.Proofs.YtkbninfdehppiaaDoor
open Go Go.Proofs Go.RowKit

/-- A stream's seven cells. -/
abbrev cellsL (s : Str) : List Value := [.int .i64 s.id, .int .i64 s.node, .int .i64 s.cls, .int .i64 s.per, .int .i64 s.dl, .int .i64 s.slot, .int .i64 s.byt]
/-- The row of streams. -/
def rowS (ss : List Str) : List Value := ss.flatMap cellsL

theorem rowS_len (ss : List Str) : (rowS ss).length = ss.length * 7 := by
  induction ss with
  | nil => rfl
  | cons s r ih => simp only [rowS, List.flatMap_cons, List.length_append, List.length_cons, List.length_nil] at *; omega
theorem rowS_snoc (ss : List Str) (s : Str) : rowS (ss ++ [s]) = rowS ss ++ cellsL s := by simp [rowS]
theorem rowS_get (ss : List Str) (j i : Nat) (hj : j < ss.length) (hi : i < 7) : (rowS ss)[j * 7 + i]? = (cellsL ss[j])[i]? := by
  induction ss generalizing j with
  | nil => simp at hj
  | cons s r ih =>
    cases j with
    | zero => simp only [rowS, List.flatMap_cons]; rw [List.getElem?_append_left (by simp; omega)]; simp
    | succ j =>
      have h2 : (j + 1) * 7 + i = (cellsL s).length + (j * 7 + i) := by simp; omega
      simp only [rowS, List.flatMap_cons]
      rw [h2, List.getElem?_append_right (by omega), Nat.add_sub_cancel_left]
      exact ih j (by simpa using hj)

theorem RdS.of_row {w : World} {base : Nat} {v : Value} {ss : List Str} (h : w.ownsRow base 27 7 v ss.length (rowS ss)) : RdS w v ss := by
  rcases h.2 with ⟨h1, h2⟩ | ⟨g, cap, cur, rfl, hb, hg, hn, _, hs, ht⟩
  · exact .inl ⟨h1, List.length_eq_zero_iff.1 h2⟩
  · have key : ∀ j (hj : j < ss.length) i (hi : i < 7), w.cell? ⟨g, 0 + j * 7 + i, none⟩ = (cellsL ss[j])[i]? := fun j hj i hi => by
      rw [cell_of_row w g _ cur _ _ hg, ← rowS_get ss j i hj hi, ← ht, Nat.zero_add]
      rw [List.getElem?_take_of_lt (by omega)]
      simp
    refine .inr ⟨g, 0, cap, rfl, (Array.getElem?_eq_some_iff.1 hg).1, hn, fun j hj => ⟨key j hj 0 (by omega), key j hj 1 (by omega), key j hj 2 (by omega), key j hj 3 (by omega), key j hj 4 (by omega), key j hj 5 (by omega), key j hj 6 (by omega)⟩⟩

theorem infoT : (Tryd.prog.info? 27).map (fun i => (i.zero, i.size, i.bytes)) = some (some (.agg #[.int .i64 0, .int .i64 0, .int .i64 0, .int .i64 0, .int .i64 0, .int .i64 0, .int .i64 0]), 7, 56) := by kernel_rfl

/-- The first k of the streams that law25.Few makes. -/
def fewK (ls : List Str) (k : Nat) : List Str := (List.range k).map (fun i => streamI (ls.getD i default) i)
theorem fewK_len (ls : List Str) (k : Nat) : (fewK ls k).length = k := by simp [fewK]
theorem fewK_succ (ls : List Str) (k : Nat) (hk : k < ls.length) : fewK ls (k + 1) = fewK ls k ++ [streamI ls[k] k] := by
  simp [fewK, List.range_succ, List.getElem?_eq_getElem hk]

set_option maxRecDepth 100000 in
set_option maxHeartbeats 2000000 in
theorem few_any (v : Value) (ls : List Str) (w : World) (hn : ls.length ≤ 9223372036854775807) (hfit : ∀ i (hi : i < ls.length), ls[i].fits) (hv : ∃ a cap, v = .slice a ls.length cap) (hr : 0 < ls.length → RdS w v ls) :
    Calls Tryd.prog 4 #[v] w fun e w' => ∃ r, e = .returned r ∧ w'.ownsRow w.heap.size 27 7 r (fewK ls (min ls.length 6)).length (rowS (fewK ls (min ls.length 6))) ∧ Below w.heap.size w w' := by
  obtain ⟨i0, hi, hz0, hz1, hz2⟩ := info_parts infoT
  obtain ⟨a, cap, rfl⟩ := hv
  have HR := Lib.hid hr
  have HF := Lib.hid hfit
  clear hr hfit
  go_enter Tryd.func4, Tryd.ntmps4
  go_wp2
  go_loopw [3, 4] (fun o i wr => ∃ (k : Nat) (o' : Value), k ≤ ls.length ∧ k ≤ 6 ∧ i = .int .i64 k ∧ o' = o ∧ wr.ownsRow w.heap.size 27 7 o' k (rowS (fewK ls k)) ∧ Below w.heap.size w wr) (fun _ i _ => ls.length - (intOf i).toNat)
  case atStart => exact ⟨0, _, Nat.zero_le _, Nat.zero_le _, rfl, rfl, ⟨rfl, .inl ⟨rfl, rfl⟩⟩, Below.refl _ _⟩
  case round =>
    obtain ⟨k, o, hk, hk6, rfl, ho, hrow, hB⟩ := hrel
    subst ho
    have HROW := Lib.hid hrow
    clear hrow
    by_cases hlt : k < ls.length
    · by_cases h6 : k < 6
      · rcases (HR.out (by omega)).belowN hB (HR.out (by omega)).lt with ⟨_, e2⟩ | ⟨b, off, cap', e1, hl, hcap, hcc⟩
        · rw [e2] at hlt; simp at hlt
        · cases e1
          obtain ⟨a0, a1, a2, a3, a4, a5, a6⟩ := hcc k hlt
          clear hcc
          have hst := Lib.hid (fun w => stream_any ls[k] k w (HF.out k hlt))
          have HS := Lib.hid (fewK_succ ls k hlt)
          generalize hsj : ls[k] = sj at *
          obtain ⟨id', node, cls, per, dl, slot, byt⟩ := sj
          dsimp only at a0 a1 a2 a3 a4 a5 a6 hst HS
          clear hsj
          generalize hT : streamI ⟨id', node, cls, per, dl, slot, byt⟩ k = T at *
          obtain ⟨t0, t1, t2, t3, t4, t5, t6⟩ := T
          clear hT
          have facts : ∀ w1, Below wr.heap.size wr w1 → World.ownsRow (w1.alloc (.cells #[.int .i64 t0, .int .i64 t1, .int .i64 t2, .int .i64 t3, .int .i64 t4, .int .i64 t5, .int .i64 t6] 27)) w.heap.size 27 7 o k (rowS (fewK ls k)) ∧
              (∀ j u, (cellsL ⟨t0, t1, t2, t3, t4, t5, t6⟩)[j]? = some u → (w1.alloc (.cells #[.int .i64 t0, .int .i64 t1, .int .i64 t2, .int .i64 t3, .int .i64 t4, .int .i64 t5, .int .i64 t6] 27)).cell? ((⟨w1.heap.size, 0, none⟩ : Addr).add j) = some u) ∧
              Below w.heap.size w (w1.alloc (.cells #[.int .i64 t0, .int .i64 t1, .int .i64 t2, .int .i64 t3, .int .i64 t4, .int .i64 t5, .int .i64 t6] 27)) := fun w1 hb =>
            ⟨owns_below HROW.out (hb.alloc hb.size _), World.news_of_block (World.alloc_heap_new w1 _), (hB.trans (hb.mono hB.size)).alloc (Nat.le_trans hB.size hb.size) _⟩
          have FACTS := Lib.hid facts
          clear facts
          go_wp2_with (first
            | (go_at_call 9; refine (hst.out _).mono ?_; rintro e w1 ⟨rfl, hb⟩; obtain ⟨F1, F2, F3⟩ := FACTS.out w1 hb; have G1 := Lib.hid F1; have G2 := Lib.hid F2; clear F1 F2)
            | (at_builtin; refine wpList_append_own _ rfl _ _ 22 rfl w.heap.size 27 i0 _ 7 56 Tryd.underlying22 hi hz0 hz1 hz2 rfl (by decide) _ k (rowS (fewK ls k)) rfl G1.out ⟨w1.heap.size, 0, none⟩ 1 1 (cellsL ⟨t0, t1, t2, t3, t4, t5, t6⟩) rfl rfl G2.out (by simp [Value.oneCell']) (by unfold maxLen; omega) (by omega) F3.size ?_; intro v' w2 hown' hgrow _; have HOWN := Lib.hid hown'; clear hown'))
          go_roundw
          case rel => exact ⟨k + 1, _, by omega, by omega, by simp, rfl, by rw [HS.out, rowS_snoc]; exact HOWN.out, F3.grown hgrow F3.size (fun k' e => (G1.out.lt k' e).1)⟩
          case measure => simp [intOf]; omega
      · obtain rfl : k = 6 := by omega
        have hm : min ls.length 6 = 6 := by omega
        go_wp2
        go_ret
        exact ⟨_, rfl, by rw [hm, fewK_len]; exact HROW.out, hB⟩
    · obtain rfl : k = ls.length := by omega
      have hm : min ls.length 6 = ls.length := by omega
      go_wp2
      go_ret
      exact ⟨_, rfl, by rw [hm, fewK_len]; exact HROW.out, hB⟩
end Go.Proofs.YtkbninfdehppiaaDoor
