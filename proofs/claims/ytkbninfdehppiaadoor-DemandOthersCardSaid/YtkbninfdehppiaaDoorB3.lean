/-
Contracts of strand.places, Clean and Number: loops over an iterator of bytes.
Conditions: as each theorem states them.
-/
import Derived.RangeFuncBox
import Derived.RangeFuncLeaves
import Derived.RangeFuncBound
import Derived.RangeFuncCalls
import Derived.RangeFuncNested
import Derived.Shelf.Abstract
import Derived.Shelf.RegionOpen
import Derived.OwnWalkIn
import Derived.TacticsInMore
import Derived.LoopNIn
import Derived.LoopIn
import Derived.Maps.AppendAt
import Derived.Test.YtkbninfdehppiaaDoorB2
namespace Go.Proofs.YtkbninfdehppiaaDoor
open Go Go.Proofs Go.RowKit Go.Shelf

attribute [local go_sem] Oper.semAt_some

theorem ownFrom_exists {β γ : Type} {B : Nat} {I : γ → β → World → Prop} (h : ∀ x, OwnFrom B (I x)) : OwnFrom B (fun s W => ∃ x, I x s W) :=
  fun s W W' row ⟨x, hx⟩ hg hr => ⟨x, h x s W W' row hx hg hr⟩
theorem ownFrom_const {β : Type} {B : Nat} (p : β → Prop) : OwnFrom B (fun s (_ : World) => p s) := fun _ _ _ _ h _ _ => h

/-- What places hands on: a place below n, and a bit. -/
abbrev PB (n : Nat) := { p : Nat × Int // p.1 < n ∧ 0 ≤ p.2 ∧ p.2 ≤ 255 }
abbrev encPB (n : Nat) (x : PB n) : Array Value := #[.int .i64 (x.1.1 : Int), .int .u8 x.1.2]

theorem places_any (n : Nat) (a : Option Addr) (len cap : Nat) (w : World) :
    CallsIn Fence.wide n Tryd.prog 82 #[.slice a len cap] w fun e w' => e = .returned (.func (.func 90) #[] #[.pointer (some ⟨w.heap.size, 0, none⟩)]) ∧ w' = w.alloc (.cells #[.slice a len cap] 89) := by
  refine callsIn_wide.2 ?_
  go_enter Tryd.func82, Tryd.ntmps82
  go_wp2
  go_ret
  exact ⟨rfl, rfl⟩

set_option maxRecDepth 100000 in
set_option maxHeartbeats 2000000 in
theorem places1_in (n : Nat) (hn : 1 ≤ n) (l Bs n₀ len : Nat) (v : Value) (hlen : len ≤ 100000) (J Jx : List (PB len) → World → Prop)
    (hY : ∀ pre x W, J pre W → pre.length < len → YieldAt Fence.wide (n - 1) Tryd.prog l (encPB len x) W fun e W' =>
      (e = .returned (.bool true) ∧ J (pre ++ [x]) W' ∧ Below n₀ W W') ∨ (e = .returned (.bool false) ∧ Jx (pre ++ [x]) W'))
    (W : World) (hBs : W.cell? ⟨Bs, 0, none⟩ = some v) (hr : RdB W v len) (hlt : ∀ b off cap, v = .slice (some ⟨b, off, none⟩) len cap → b < n₀) (h0 : J [] W) :
    CallsIn Fence.wide n Tryd.prog 90 #[.func (.yield l) #[] #[], .pointer (some ⟨Bs, 0, none⟩)] W fun e W' => (∃ v, e = .returned v) ∧
      ((∃ ys : List (PB len), ys.length = len ∧ J ys W') ∨ (∃ pre, True ∧ Jx pre W')) := by
  rcases hr with ⟨rfl, rfl⟩ | ⟨b, off, cap, rfl, hbl, hcap, hc⟩
  · refine callsIn_of_wp Tryd.func90 rfl trivial ?_ rfl
    simp only [Tryd.ntmps90, List.size_toArray, List.length_cons, List.length_nil, Nat.reduceAdd, Nat.reduceSub, Array.replicate_succ, Array.replicate_zero, List.push_toArray, List.append_toArray, List.nil_append, List.cons_append]
    gi_wp2
    gi_loopw [7] (fun i wr => i = .int .i64 0 ∧ J [] wr) (fun _ _ => 0)
    case atStart => exact ⟨rfl, h0⟩
    case round =>
      obtain ⟨rfl, hJs⟩ := hrel
      gi_wp2
      go_end0
      exact ⟨⟨_, rfl⟩, .inl ⟨[], rfl, hJs⟩⟩
  · have hb := hlt b off cap rfl
    have HC := Lib.hid hc
    clear hc
    refine callsIn_of_wp Tryd.func90 rfl trivial ?_ rfl
    simp only [Tryd.ntmps90, List.size_toArray, List.length_cons, List.length_nil, Nat.reduceAdd, Nat.reduceSub, Array.replicate_succ, Array.replicate_zero, List.push_toArray, List.append_toArray, List.nil_append, List.cons_append]
    gi_wp2
    gi_loopw [7] (fun i wr => ∃ (k : Nat) (pre : List (PB len)), k ≤ len ∧ i = .int .i64 k ∧ pre.length = k ∧ J pre wr ∧ Below n₀ W wr) (fun i _ => len - (intOf i).toNat)
    case atStart => exact ⟨0, [], Nat.zero_le _, rfl, rfl, h0, Below.refl _ _⟩
    case round =>
      obtain ⟨k, pre, hk, rfl, hpre, hJs, hnx⟩ := hrel
      have HP := Lib.hid hpre
      clear hpre
      by_cases hlt' : k < len
      · obtain ⟨x, hx1, z, rfl, hz0, hz1⟩ := HC.out k hlt'
        have hcx := (hnx.cell (p := ⟨b, off + k, none⟩) hb).trans hx1
        have htb := truthI_bd z
        obtain ⟨fn, tmps, assign, body, hy, hR⟩ := hY pre ⟨(k, truthI z), hlt', htb⟩ wr hJs (by rw [HP.out]; exact hlt')
        clear hx1
        gi_wp2_with (refine ⟨trivial, ?_⟩; gi_at_call 91; refine (callsIn_wide.2 (strTruth_any _ _)).mono ?_; rintro e w1 ⟨rfl, rfl⟩)
        refine hR.mono ?_
        rintro e W3 (⟨rfl, hJ3, hk3⟩ | ⟨rfl, hJx3⟩)
        · gi_wp2
          go_roundw
          case rel => exact ⟨k + 1, _, by omega, by simp, by rw [List.length_append, HP.out]; rfl, hJ3, hnx.trans hk3⟩
          case measure => simp [intOf]; omega
        · gi_wp2
          refine bodyPost_ret (results_none rfl _ _ _) rfl ?_
          exact ⟨⟨_, rfl⟩, .inr ⟨_, trivial, hJx3⟩⟩
      · obtain rfl : k = len := by omega
        gi_wp2
        go_end0
        exact ⟨⟨_, rfl⟩, .inl ⟨_, HP.out, hJs⟩⟩

theorem places_stops (n : Nat) (hn : 1 ≤ n) (Bs n₀ len : Nat) (v : Value) (hlen : len ≤ 100000) (w : World) (hBs : Bs < w.heap.size)
    (hc : w.cell? ⟨Bs, 0, none⟩ = some v) (hr : RdB w v len) (hlt : ∀ b off cap, v = .slice (some ⟨b, off, none⟩) len cap → b < n₀) :
    SeqStopsK Fence.wide n Tryd.prog 90 #[.pointer (some ⟨Bs, 0, none⟩)] (encPB len) (Below n₀) (fun ys => ys.length = len) (fun _ => True) len w := fun l J Jx W hW _ _ hY h0 =>
  places1_in n hn l Bs n₀ len v hlen J Jx hY W ((hW.cell (p := ⟨Bs, 0, none⟩) hBs).trans hc) (hr.below hW) hlt h0

theorem RdB.slice {w : World} {v : Value} {n : Nat} (h : RdB w v n) : ∃ a cap, v = .slice a n cap := by
  rcases h with ⟨rfl, rfl⟩ | ⟨b, off, cap, rfl, _⟩
  · exact ⟨_, _, rfl⟩
  · exact ⟨_, _, rfl⟩
theorem RdB.lt {w : World} {v : Value} {n : Nat} (h : RdB w v n) : ∀ b off cap, v = .slice (some ⟨b, off, none⟩) n cap → b < w.heap.size := by
  rcases h with ⟨rfl, rfl⟩ | ⟨b, off, cap, rfl, hb, _⟩
  · intro b off cap e; cases e
  · intro b' off' cap' e; cases e; exact hb

set_option maxRecDepth 100000 in
set_option maxHeartbeats 2000000 in
/-- strand.Clean: as many bytes as came in. -/
theorem clean_any (v : Value) (len : Nat) (hlen : len ≤ 100000) (w : World) (hr : RdB w v len) :
    Calls Tryd.prog 67 #[v] w fun e w' => ∃ xs, e = .returned (.slice (some ⟨w.heap.size, 0, none⟩) len len) ∧ w'.ownsRow w.heap.size 5 1 (.slice (some ⟨w.heap.size, 0, none⟩) len len) len xs ∧ (∀ v ∈ xs, IsB v) ∧ Below w.heap.size w w' := by
  obtain ⟨a, cap, rfl⟩ := hr.slice
  obtain ⟨i0, hi, hz0, hz1, hz2⟩ := info_parts info5
  obtain ⟨w1, hmk, hown, hgrow⟩ := run_make_full (P := Tryd.prog) w w.heap.size 89 5 i0 (.int .u8 0) 1 Tryd.underlying89 hi hz0 hz1 .i64 .i64 len (by rw [hz2]; omega) (by unfold maxLen; omega) (Nat.le_refl _)
  refine (callsIn_wide (n := 5)).1 ?_
  have hro : Fence.wide.round = none := rfl
  refine callsIn_of_wp_marks Tryd.func67 rfl trivial ?_ rfl
  simp only [Tryd.ntmps67, List.size_toArray, List.length_cons, List.length_nil, Nat.reduceAdd, Nat.reduceSub, Array.replicate_succ, Array.replicate_zero, List.push_toArray, List.append_toArray, List.nil_append, List.cons_append]
  have hsz := hgrow.size
  have hb1 : Below w.heap.size w w1 := (Below.refl _ _).grown hgrow (Nat.le_refl _) (fun k e => by cases e)
  have hxs : ∀ v ∈ (madeCells (Value.int IntKind.u8 0).cells (len * 1)).toList, IsB v := by
    intro v hv
    rw [show (Value.int IntKind.u8 0).cells = #[.int .u8 0] from rfl, toList_madeCells_one] at hv
    rw [List.eq_of_mem_replicate hv]
    exact ⟨0, rfl, by decide, by decide⟩
  have HXS := Lib.hid hxs
  clear hxs hi hz0 hz1 hz2
  gi_wp2_with (refine ⟨trivial, ?_⟩; gi_at_call 82; refine (places_any _ _ _ _ _).mono ?_; rintro e w' ⟨rfl, rfl⟩)
  have bO := Boxed.new w1 89 (.slice (some ⟨w.heap.size, 0, none⟩) len len)
  have bN := Boxed.new (w1.alloc (.cells #[.slice (some ⟨w.heap.size, 0, none⟩) len len] 89)) 89 (.slice a len cap)
  rw [World.size_alloc] at bN
  have hB0 : Below w.heap.size w ((w1.alloc (.cells #[.slice (some ⟨w.heap.size, 0, none⟩) len len] 89)).alloc (.cells #[.slice a len cap] 89)) := (hb1.alloc hsz _).alloc (by simp; omega) _
  refine wpIn_rangeFunc_ownG hro (by omega) (gf := 90) (lb := #[.pointer (some ⟨w1.heap.size + 1, 0, none⟩)]) rfl trivial (enters_of Tryd.func90 (by kernel_rfl) rfl)
    (places_stops 4 (by omega) (w1.heap.size + 1) w.heap.size len (.slice a len cap) hlen _ (by simp) bN.cell (hr.below hB0) (fun b off c e => hr.lt b off c e)) belowK_t (belowK_b (by simp; omega)) (Below.refl _ _) (fun _ => rfl)
    (fun _ W => ∃ xs : List Value, (∃ v, Boxed W w1.heap.size 89 v ∧ W.ownsRow w.heap.size 5 1 v len xs ∧ v = .slice (some ⟨w.heap.size, 0, none⟩) len len) ∧ (∀ v ∈ xs, IsB v) ∧ Below w.heap.size w W)
    (fun _ _ _ => False)
    (ownFrom_exists fun xs => OwnFrom.and (Own.from (holdsRow_own w.heap.size w1.heap.size 89 5 1 (fun _ => len) (fun _ => xs) (fun _ v => v = .slice (some ⟨w.heap.size, 0, none⟩) len len)) _) (OwnFrom.and (ownFrom_const _) (ownFrom_below (Nat.le_refl _) (by simp; omega))))
    (fun _ _ _ _ _ hs _ _ => hs)
    ⟨_, ⟨_, bO.alloc _, (hown.alloc _).alloc _, rfl⟩, HXS.out, hB0⟩
    (fun x => { tmps := #[.slice a len cap, undef, .slice none 0 0, .pointer (some ⟨w1.heap.size, 0, none⟩), .int .i64 (x.1.1 : Int), .int .u8 x.1.2, .slice a len cap, .int .i64 len, .slice (some ⟨w.heap.size, 0, none⟩) len len, .slice a len cap, .func (.func 90) #[] #[.pointer (some ⟨w1.heap.size + 1, 0, none⟩)], .int .i64 (x.1.1 : Int), .int .u8 x.1.2, undef, undef, undef, undef, undef], defers := [] }) ?assign ?body ?done ?stop
  case assign =>
    intro l x W K hK
    gi_wp2
    exact hK
  case body =>
    rintro l pre ⟨⟨k, z⟩, hk, hz0, hz1⟩ W ⟨xs, ⟨v, hv, hrow, rfl⟩, hall, hB⟩ hlt
    have hc := hv.cell
    obtain ⟨v0, hcell, _⟩ := owns_cell hrow k hk
    have hfr := hrow.frozenAt k
    have hst := Lib.hid (fun u => hrow.stored k u)
    have HALL := Lib.hid hall
    have hne := Lib.hid (hv.not_row (by decide) hrow)
    clear hall hrow
    gi_wp2
    refine ⟨(KeepsOthers.setCell _ _ _).from _, (Below.refl w.heap.size W).setCell (Nat.le_refl _) _, xs.set k (.int .u8 z), ⟨_, hv.kept (hst.out _).2 hne.out, (hst.out _).1, rfl⟩, ?_, hB.setCell (Nat.le_refl _) _⟩
    intro v hv
    rcases List.mem_or_eq_of_mem_set hv with h | h
    · exact HALL.out v h
    · exact ⟨_, h, hz0, hz1⟩
  case done =>
    rintro D ys W hD _ ⟨xs, ⟨v, hv, hrow, rfl⟩, hall, hB⟩ hK
    have hc := hv.cell
    gi_wp2
    refine ⟨by simp, .inl ⟨_, _, rfl, run_takeDeferred hK, ?_⟩⟩
    exact ⟨_, results_tmp rfl _ _ _, xs, rfl, ownsRow_putObj hrow _ hK rfl, hall, hB.trans (belowK_b (w := w) (Nat.le_refl _) W D _ _ (by simp at hD; omega) hK rfl rfl)⟩
  case stop =>
    rintro D c pre W _ _ h _
    exact h.elim

theorem or_u64_bd (a b : Int) : 0 ≤ bits BinOp.or IntKind.u64 a b ∧ bits BinOp.or IntKind.u64 a b ≤ 18446744073709551615 := by
  show 0 ≤ IntKind.u64.wrap _ ∧ IntKind.u64.wrap _ ≤ _
  rw [IntKind.wrap_u64]
  omega

set_option maxRecDepth 100000 in
set_option maxHeartbeats 2000000 in
/-- strand.Number: some number of 64 bits. -/
theorem number_any (v : Value) (len : Nat) (hlen : len ≤ 100000) (w : World) (hr : RdB w v len) :
    Calls Tryd.prog 83 #[v] w fun e w' => (∃ n : Int, e = .returned (.int .u64 n) ∧ 0 ≤ n ∧ n ≤ 18446744073709551615) ∧ Below w.heap.size w w' := by
  obtain ⟨a, cap, rfl⟩ := hr.slice
  refine (callsIn_wide (n := 5)).1 ?_
  have hro : Fence.wide.round = none := rfl
  refine callsIn_of_wp_marks Tryd.func83 rfl trivial ?_ rfl
  simp only [Tryd.ntmps83, List.size_toArray, List.length_cons, List.length_nil, Nat.reduceAdd, Nat.reduceSub, Array.replicate_succ, Array.replicate_zero, List.push_toArray, List.append_toArray, List.nil_append, List.cons_append]
  gi_wp2_with (refine ⟨trivial, ?_⟩; gi_at_call 82; refine (places_any _ _ _ _ _).mono ?_; rintro e w' ⟨rfl, rfl⟩)
  have bO := Boxed.new w 50 (.int .u64 0)
  have bN := Boxed.new (w.alloc (.cells #[.int .u64 0] 50)) 89 (.slice a len cap)
  rw [World.size_alloc] at bN
  have hB0 : Below w.heap.size w ((w.alloc (.cells #[.int .u64 0] 50)).alloc (.cells #[.slice a len cap] 89)) := ((Below.refl _ _).alloc (Nat.le_refl _) _).alloc (by simp) _
  refine wpIn_rangeFunc_ownG hro (by omega) (gf := 90) (lb := #[.pointer (some ⟨w.heap.size + 1, 0, none⟩)]) rfl trivial (enters_of Tryd.func90 (by kernel_rfl) rfl)
    (places_stops 4 (by omega) (w.heap.size + 1) w.heap.size len (.slice a len cap) hlen _ (by simp) bN.cell (hr.below hB0) (fun b off c e => hr.lt b off c e)) belowK_t (belowK_b (by simp; omega)) (Below.refl _ _) (fun _ => rfl)
    (fun _ W => ∃ z : Int, Boxed W w.heap.size 50 (.int .u64 z) ∧ (0 ≤ z ∧ z ≤ 18446744073709551615) ∧ Below w.heap.size w W)
    (fun _ _ _ => False)
    (ownFrom_exists fun z => OwnFrom.and (Own.from (boxed_own _ _ _) _) (OwnFrom.and (ownFrom_const _) (ownFrom_below (Nat.le_refl _) (by simp; omega))))
    (fun _ _ _ _ _ hs _ _ => hs)
    ⟨0, bO.alloc _, ⟨by decide, by decide⟩, hB0⟩
    (fun x => { tmps := #[.slice a len cap, undef, .int .u64 0, .pointer (some ⟨w.heap.size, 0, none⟩), undef, .int .u8 x.1.2, .slice a len cap, .func (.func 90) #[] #[.pointer (some ⟨w.heap.size + 1, 0, none⟩)], .int .i64 (x.1.1 : Int), .int .u8 x.1.2, undef, undef, undef, undef, undef, undef], defers := [] }) ?assign ?body ?done ?stop
  case assign =>
    intro l x W K hK
    gi_wp2
    exact hK
  case body =>
    rintro l pre ⟨⟨k, y⟩, hk, hz0, hz1⟩ W ⟨z, hv, ⟨z0, z1⟩, hB⟩ hlt
    have hc := hv.cell
    have hfr := hv.frozen
    gi_wp2
    exact ⟨(KeepsOthers.setCell _ _ _).from _, (Below.refl w.heap.size W).setCell (Nat.le_refl _) _, _, hv.set _, or_u64_bd _ _, hB.setCell (Nat.le_refl _) _⟩
  case done =>
    rintro D ys W hD _ ⟨z, hv, ⟨z0, z1⟩, hB⟩ hK
    have hc := hv.cell
    gi_wp2
    refine ⟨by simp, .inl ⟨_, _, rfl, run_takeDeferred hK, ?_⟩⟩
    exact ⟨_, results_tmp rfl _ _ _, ⟨z, rfl, z0, z1⟩, hB.trans (belowK_b (w := w) (Nat.le_refl _) W D _ _ (by simp at hD; omega) hK rfl rfl)⟩
  case stop =>
    rintro D c pre W _ _ h _
    exact h.elim
end Go.Proofs.YtkbninfdehppiaaDoor
