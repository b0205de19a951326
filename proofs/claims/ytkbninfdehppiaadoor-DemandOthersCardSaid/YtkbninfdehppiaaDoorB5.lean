/-
Contracts of frame.Body, wire.Most, stuff.Most: how many bits there are at most.
Conditions: as each theorem states them.
-/
import Derived.RegionTactic
import Derived.Deep.RegionHeld3
import Derived.Deep.RegionWith
import Derived.Deep.DeepCutAuto
import Derived.StillTailTactics
import Derived.Test.YtkbninfdehppiaaDoorB4
namespace Go.Proofs.YtkbninfdehppiaaDoor
open Go Go.Proofs Go.RowKit

theorem stuffMost_any (n : Int) (w : World) (h1 : 1 ≤ n) (h2 : n ≤ 1000000) :
    Calls Tryd.prog 43 #[.int .i64 n] w fun e w' => e = .returned (.int .i64 (n + (n - 1) / 4)) ∧ w = w' := by
  go_enter Tryd.func43, Tryd.ntmps43
  go_wp2
  go_ret
  exact ⟨rfl, rfl⟩

theorem RdB.alloc {w : World} {v : Value} {n : Nat} (h : RdB w v n) (o : Obj) : RdB (w.alloc o) v n := h.below ((Below.refl _ _).alloc (Nat.le_refl _) o)

theorem RdB.drew {w : World} {v : Value} {n : Nat} (h : RdB w v n) : RdB w.drew v n := h.below (Below.refl _ _).drew
theorem RdB.drewN {w : World} {v : Value} {n : Nat} (h : RdB w v n) (k : Nat) : RdB (w.drewN k) v n := h.below (below_drewN (Below.refl _ _) k)
theorem RdB.lit1 {W : World} {t : TypeId} {g : Nat} (hg : g = W.heap.size) : RdB (W.alloc (.cells #[.int .u8 0] t)) (.slice (some ⟨g, 0, none⟩) 1 1) 1 := by
  subst hg
  refine .inr ⟨_, 0, 1, rfl, by simp, Nat.le_refl _, fun j hj => ?_⟩
  obtain rfl : j = 0 := by omega
  exact ⟨_, by go_simp, 0, rfl, by decide, by decide⟩
theorem RdB.lit2 {W : World} {t : TypeId} {g : Nat} (hg : g = W.heap.size) : RdB (W.alloc (.cells #[.int .u8 0, .int .u8 0] t)) (.slice (some ⟨g, 0, none⟩) 2 2) 2 := by
  subst hg
  refine .inr ⟨_, 0, 2, rfl, by simp, Nat.le_refl _, fun j hj => ?_⟩
  have : j = 0 ∨ j = 1 := by omega
  rcases this with rfl | rfl
  · exact ⟨.int .u8 0, by go_simp, 0, rfl, by decide, by decide⟩
  · exact ⟨.int .u8 0, by go_simp, 0, rfl, by decide, by decide⟩

theorem concat4' (b : Nat) (v0 v1 v2 v3 : Value) (w : World) (c0 : w.cell? ⟨b, 0, none⟩ = some v0) (c1 : w.cell? ⟨b, 1, none⟩ = some v1) (c2 : w.cell? ⟨b, 2, none⟩ = some v2) (c3 : w.cell? ⟨b, 3, none⟩ = some v3) (hb : b < w.heap.size)
    (h0 : RdB w v0 1) (h1 : RdB w v1 32) (h2 : RdB w v2 2) (h3 : RdB w v3 4) :
    Calls Tryd.prog 53 #[.slice (some ⟨b, 0, none⟩) 4 4] w fun e w' => ∃ r xs, e = .returned r ∧ w'.ownsRow w.heap.size 5 1 r 39 xs ∧ (∀ v ∈ xs, IsB v) ∧ Below w.heap.size w w' := by
  refine concatB4 b (fun j => [v0, v1, v2, v3].getD j undef) (fun j => [1, 32, 2, 4].getD j 0) w ⟨?_, ?_, hb⟩ ?_ (by decide)
  · intro j hj
    have : j = 0 ∨ j = 1 ∨ j = 2 ∨ j = 3 := by omega
    rcases this with rfl | rfl | rfl | rfl <;> assumption
  · intro j hj
    have : j = 0 ∨ j = 1 ∨ j = 2 ∨ j = 3 := by omega
    rcases this with rfl | rfl | rfl | rfl <;> assumption
  · intro j hj
    have : j = 0 ∨ j = 1 ∨ j = 2 ∨ j = 3 := by omega
    rcases this with rfl | rfl | rfl | rfl <;> decide

theorem concat4'' (W : World) (t : TypeId) (g : Nat) (v0 v1 v2 v3 : Value) (hg : g = W.heap.size) (h0 : RdB W v0 1) (h1 : RdB W v1 32) (h2 : RdB W v2 2) (h3 : RdB W v3 4) :
    Calls Tryd.prog 53 #[.slice (some ⟨g, 0, none⟩) 4 4] (W.alloc (.cells #[v0, v1, v2, v3] t)) fun e w' => ∃ r xs, e = .returned r ∧ w'.ownsRow W.heap.size 5 1 r 39 xs ∧ (∀ v ∈ xs, IsB v) ∧ Below W.heap.size W w' ∧ Below (W.alloc (.cells #[v0, v1, v2, v3] t)).heap.size (W.alloc (.cells #[v0, v1, v2, v3] t)) w' := by
  subst hg
  refine (concat4' W.heap.size v0 v1 v2 v3 _ (by go_simp) (by go_simp) (by go_simp) (by go_simp) (by simp) (h0.alloc _) (h1.alloc _) (h2.alloc _) (h3.alloc _)).mono ?_
  rintro e w' ⟨r, xs, he, hr, hx, hb⟩
  exact ⟨r, xs, he, owns_base hr (by simp), hx, ((Below.refl _ _).alloc (Nat.le_refl _) _).trans (hb.mono (by simp)), hb⟩

theorem step_append_run {P : Program} (w : World) {ops : Array Oper} {o : Oper} {a : Act} {K : Act → World → Prop} {Q : Exit → Act → World → Prop} {E : Prop} (hgd : o.guard = none) (s x : Operand) (t tn : TypeId)
    (ho : o.op = .call { callee := .builtin .append, args := #[s, x], argTypes := #[t, tn] }) (vs vx : Value) (hs : a.eval s = vs) (hx : a.eval x = vx)
    (v' : Value) (w' : World) (hr : (Builtin.append_ #[t, tn] o.type #[vs, vx]).run P w = .ok v' w') (h : K (a.put o.dst v') w') :
    if Region.wanted o (yielded ops a.tmps) = true then Oper.wp P o a w K Q else E := by
  have hw : Region.wanted o (yielded ops a.tmps) = true := by simp [Region.wanted, hgd]
  rw [if_pos hw]
  exact Lib.wp_append_run w s x t tn ho vs vx hs hx v' w' hr h

set_option maxRecDepth 100000 in
set_option maxHeartbeats 4000000 in
theorem body_any (k : Nat) (w : World) (hk : k ≤ 8) (hd : Div w) :
    Calls Tryd.prog 44 #[f0 k] w fun e w' => (∃ a cap, e = .returned (.slice a (54 + 8 * k) cap)) ∧ Below w.heap.size w w' := by
  have HD := Lib.hid hd
  clear hd
  have hmk : ∀ w : World, (Instr.makeSlice 89 (.int .i64 2) (.int .i64 2)).run Tryd.prog w = .ok (.slice (some ⟨w.heap.size, 0, none⟩) 2 2) (w.alloc (.cells #[.int .u8 0, .int .u8 0] 5)) := fun _ => by kernel_rfl
  go_enter Tryd.func44, Tryd.ntmps44
  go_upto_region 6 with (go_at_call 52; refine (frameRight_zero k _ hk).mono ?_; rintro e w1 ⟨rfl, hb⟩; obtain ⟨g1, g2⟩ := bcell hb; have gs : w.heap.size < w1.heap.size := by (have := hb.size; simp at this; omega))
  have c0 : w1.cell? ⟨w.heap.size, 0, none⟩ = some (.bool true) := by rw [g1 _ _ (by simp)]; go_simp
  have c1 : w1.cell? ⟨w.heap.size, 1, none⟩ = some (.int .u32 0) := by rw [g1 _ _ (by simp)]; go_simp
  have c2 : w1.cell? ⟨w.heap.size, 2, none⟩ = some (.bool false) := by rw [g1 _ _ (by simp)]; go_simp
  have c3 : w1.cell? ⟨w.heap.size, 3, none⟩ = some (.int .i64 k) := by rw [g1 _ _ (by simp)]; go_simp
  have hcz : ∀ j, j < 8 → w1.cell? ⟨w.heap.size, 4 + j, none⟩ = some (.int .u8 0) := fun j hj => by rw [g1 _ _ (by simp)]; exact f0_cells k w (4 + j) (by omega) (by omega)
  have HCZ := Lib.hid hcz
  have hb1 := ((Below.refl _ w).alloc (Nat.le_refl _) _).trans (hb.mono (by simp))
  have HB1 := Lib.hid hb1
  clear hcz hb hb1 g1 g2
  go_cut [4] (fun s4 wx => ∃ xs : List Value, wx.ownsRow w1.heap.size 5 1 s4 39 xs ∧ (∀ v ∈ xs, IsB v) ∧ Below w1.heap.size w1 wx)
  case first =>
    have hwr : IntKind.u64.wrap (k : Int) = k := by rw [IntKind.wrap_u64]; omega
    go_region_held3 (fun w' => w'.cell? ⟨w.heap.size, 0, none⟩ = some (.bool true) ∧ w'.cell? ⟨w.heap.size, 1, none⟩ = some (.int .u32 0) ∧ w'.cell? ⟨w.heap.size, 2, none⟩ = some (.bool false) ∧ w'.cell? ⟨w.heap.size, 3, none⟩ = some (.int .i64 k))
      (first | go_keep | (go_split_ands; exact ⟨(hbc.cell (by first | (simp; done) | (simp; omega))).trans (by assumption), (hbc.cell (by first | (simp; done) | (simp; omega))).trans (by assumption), (hbc.cell (by first | (simp; done) | (simp; omega))).trans (by assumption), (hbc.cell (by first | (simp; done) | (simp; omega))).trans (by assumption)⟩) | (go_split_ands; exact ⟨(hbb.cell (by first | (simp; done) | (simp; omega))).trans (by assumption), (hbb.cell (by first | (simp; done) | (simp; omega))).trans (by assumption), (hbb.cell (by first | (simp; done) | (simp; omega))).trans (by assumption), (hbb.cell (by first | (simp; done) | (simp; omega))).trans (by assumption)⟩) | (go_split_ands; exact ⟨(hba.cell (by first | (simp; done) | (simp; omega))).trans (by assumption), (hba.cell (by first | (simp; done) | (simp; omega))).trans (by assumption), (hba.cell (by first | (simp; done) | (simp; omega))).trans (by assumption), (hba.cell (by first | (simp; done) | (simp; omega))).trans (by assumption)⟩))
      (first | (go_at_call 54; refine (identBits_zero _).mono ?_; rintro e wa ⟨va, rfl, hra, hba⟩; obtain ⟨aa, ca, rfl⟩ := hra.slice; have sa := hba.size; (try simp at sa)) | (go_at_call 55; refine (of_any (k : Int) 4 _ (by omega) (by omega) (by omega) (by omega)).mono ?_; rintro e wb ⟨gb, xb, rfl, hrb, hxb, hbb⟩; have hrb := RdB.of_row hrb hxb; have sb := hbb.size; (try simp at sb)) | (go_at_call 53; refine (concat4'' _ _ _ _ _ _ _ ?_ ?_ ?_ ?_ ?_).mono ?_; (solve | rfl | simp); (repeat (first | with_reducible exact hra | with_reducible exact hrb | (with_reducible refine RdB.lit1 ?_; solve | rfl | simp) | (with_reducible refine RdB.lit2 ?_; solve | rfl | simp) | with_reducible refine RdB.below ?_ hbb | with_reducible refine RdB.below ?_ hba | with_reducible refine RdB.alloc ?_ _ | with_reducible refine RdB.drew ?_ | with_reducible refine RdB.drewN ?_ _)); (repeat (first | with_reducible exact hra | with_reducible exact hrb | (with_reducible refine RdB.lit1 ?_; solve | rfl | simp) | (with_reducible refine RdB.lit2 ?_; solve | rfl | simp) | with_reducible refine RdB.below ?_ hbb | with_reducible refine RdB.below ?_ hba | with_reducible refine RdB.alloc ?_ _ | with_reducible refine RdB.drew ?_ | with_reducible refine RdB.drewN ?_ _)); (repeat (first | with_reducible exact hra | with_reducible exact hrb | (with_reducible refine RdB.lit1 ?_; solve | rfl | simp) | (with_reducible refine RdB.lit2 ?_; solve | rfl | simp) | with_reducible refine RdB.below ?_ hbb | with_reducible refine RdB.below ?_ hba | with_reducible refine RdB.alloc ?_ _ | with_reducible refine RdB.drew ?_ | with_reducible refine RdB.drewN ?_ _)); (repeat (first | with_reducible exact hra | with_reducible exact hrb | (with_reducible refine RdB.lit1 ?_; solve | rfl | simp) | (with_reducible refine RdB.lit2 ?_; solve | rfl | simp) | with_reducible refine RdB.below ?_ hbb | with_reducible refine RdB.below ?_ hba | with_reducible refine RdB.alloc ?_ _ | with_reducible refine RdB.drew ?_ | with_reducible refine RdB.drewN ?_ _)); rintro e wc ⟨rc, xc, rfl, hrc, hxc, hbd, hbc⟩; have sc := hbd.size))
    all_goals (go_wp2_with fail; go_meet)
    all_goals
      refine ⟨xc, owns_base hrc ?_, hxc, ?_⟩
      rotate_left
      refine Below.trans ?_ (hbd.mono ?_)
      repeat (first | with_reducible exact Below.refl _ _ | with_reducible refine Below.alloc ?_ ?_ _ | with_reducible refine Below.drew ?_ | with_reducible refine Below.trans ?_ (hbb.mono ?_) | with_reducible refine Below.trans ?_ (hba.mono ?_))
      all_goals (first | omega | (simp; done) | (simp; omega))
  case rest =>
    obtain ⟨xs, hrow, hx, hbx⟩ := hcut
    have HROW := Lib.hid hrow
    have HX := Lib.hid hx
    have k2 := (hbx.cell (p := ⟨w.heap.size, 2, none⟩) gs).trans c2
    have k3 := (hbx.cell (p := ⟨w.heap.size, 3, none⟩) gs).trans c3
    have hd : RdB wc (.slice (some ⟨w.heap.size, 4, none⟩) k 8) k := .inr ⟨w.heap.size, 4, 8, rfl, Nat.lt_of_lt_of_le gs hbx.size, hk, fun j hj => ⟨_, (hbx.cell (p := ⟨w.heap.size, 4 + j, none⟩) gs).trans (HCZ.out j (by omega)), 0, rfl, by decide, by decide⟩⟩
    have HDD := Lib.hid hd
    clear hrow hx c0 c1 c2 hd
    have hwr8 : IntKind.i64.wrap (8 * (k : Int)) = ((8 * k : Nat) : Int) := by rw [IntKind.wrap_i64]; omega
    obtain ⟨g, cap, rfl⟩ := ownsRow_succ (k := 38) HROW.out
    have hgw := Nat.le_trans (Nat.le_refl w1.heap.size) hbx.size
    obtain ⟨i0, hi, hz0, hz1, hz2⟩ := info_parts info5
    have happ : ∀ wd r, Below wc.heap.size wc wd → RdB wd r (8 * k) → (k = 0 → r = .slice none 0 0) → ∃ v' w', (∀ ty, (Builtin.append_ #[89, 89] ty #[.slice (some ⟨g, 0, none⟩) 39 cap, r]).run Tryd.prog wd = .ok v' w') ∧ Below w1.heap.size w1 w' ∧ ∃ ys, w'.ownsRow w1.heap.size 5 1 v' (39 + 8 * k) ys ∧ ∀ v ∈ ys, IsB v := by
      intro wd r hb hr hn
      have hro := owns_below HROW.out hb
      rcases hr with ⟨rfl, e⟩ | ⟨b, off, c, rfl, hl, hc, hcc⟩
      · exact ⟨_, _, fun ty => run_append_owned_none wd w1.heap.size _ ty _ i0 1 Tryd.underlying89 hi _ 39 xs hro, hbx.trans (hb.mono hbx.size), xs, by rw [e]; exact hro, HX.out⟩
      · obtain ⟨news, g1, g2, g3, g4⟩ := news_of hcc
        obtain ⟨v', w', h1, h2, h3, _⟩ := run_append_own wd w1.heap.size 89 89 5 i0 (.int .u8 0) 1 1 Tryd.underlying89 hi hz0 hz1 hz2 rfl (by decide) _ 39 xs hro ⟨b, off, none⟩ (8 * k) c news g1 g2 g3 (by unfold maxLen; omega) (by omega) (Nat.le_trans hbx.size hb.size)
        exact ⟨v', w', fun ty => h1, (hbx.trans (hb.mono hbx.size)).grown h3 (Nat.le_trans hbx.size hb.size) (fun k' e => (hro.lt k' e).1), xs ++ news, h2, fun u hu => (List.mem_append.1 hu).elim (HX.out u) (g4 u)⟩
    have hs9 : w.heap.size < wc.heap.size := Nat.lt_of_lt_of_le gs hbx.size
    have HAPP := Lib.hid happ
    clear happ hi hz0 hz1 hz2
    have hk0 : (0 : Int) ≤ (k : Int) := by omega
    have hk8 : (k : Int) ≤ 8 := by omega
    go_upto_region 8 with (fail)
    go_region_held3 (fun w' => w'.cell? ⟨w.heap.size, 3, none⟩ = some (.int .i64 k))
      (first | go_keep | (exact (hbe.cell (p := ⟨w.heap.size, 3, none⟩) gs).trans (by assumption)) | (exact (hbd.cell (p := ⟨w.heap.size, 3, none⟩) (by simp; omega)).trans (by assumption)))
      (first | (go_at_call 56; refine (unpack_any _ k _ hk (HDD.out.below (Below.refl _ _).drew)).mono ?_; rintro e wd ⟨r, rfl, hr, hn, hbd⟩; obtain ⟨v', we, hrun, hbe, ys, hoy, hay⟩ := HAPP.out wd r ((Below.refl _ _).drew.trans hbd) hr hn) | (refine step_append_run _ rfl _ _ _ _ rfl _ _ rfl rfl _ _ (hrun _) ?_))
    have hd9 : Div we := HD.out.below (HB1.out.trans (hbe.mono (Nat.le_of_lt gs)))
    have hw9 := HB1.out.trans (hbe.mono (Nat.le_of_lt gs))
    have hr9 := RdB.of_row hoy hay
    have HS := Lib.hid (seal_any v' (39 + 8 * k) (by omega) we hr9 hd9)
    have HW9 := Lib.hid hw9
    clear hd9 hw9 hr9
    go_wp2_with (go_at_call 57; refine HS.out.mono ?_; rintro e wf ⟨r9, x9, rfl, ho9, hx9, hb9⟩)
    all_goals
      obtain ⟨a9, c9, rfl⟩ := (RdB.of_row ho9 hx9).slice
      go_ret
      refine ⟨⟨a9, c9, by rw [show 39 + 8 * k + 15 = 54 + 8 * k by omega]; rfl⟩, HW9.out.trans (hb9.mono HW9.out.size)⟩
end Go.Proofs.YtkbninfdehppiaaDoor
