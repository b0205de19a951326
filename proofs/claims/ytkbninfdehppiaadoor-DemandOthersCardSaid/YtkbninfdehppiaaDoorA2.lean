/-
Contracts of the parts of exact.Scale at small numbers.
Conditions: as each theorem states them.
-/
import Derived.WalkKit
import Derived.Lib.Hide
import Derived.Outline
import Derived.Deep.QuietTactic
import Derived.BigQuiet
import Derived.ScopeJumps
import Derived.WalkMore
import Derived.WalkSmall
import Derived.Test.YtkbninfdehppiaaDoorA1
import Derived.Test.YtkbninfdehppiaaDoorShelf
namespace Go.Proofs.YtkbninfdehppiaaDoor
open Go Go.Proofs Go.RowKit

theorem ret_u64 {a b : Int} (h : a = b) : Ending.returned (.int .u64 a) = .returned (.int .u64 b) := by rw [h]

theorem size_any (a : Int) (w : World) (h1 : -4611686018427387904 ≤ a) (h2 : a ≤ 4611686018427387904) :
    Calls Tryd.prog 23 #[.int .i64 a] w fun e w' => e = .returned (.int .u64 (a.natAbs : Int)) ∧ w = w' := by
  go_enter Tryd.func23, Tryd.ntmps23
  go_wp2
  all_goals (go_ret; exact ⟨ret_u64 (by omega), rfl⟩)

theorem neg_u64 (lo : Nat) (h : lo ≤ 4611686018427387904) : wrap64 (IntKind.u64.wrap (bits BinOp.xor IntKind.u64 IntKind.u64.max ↑lo + 1)) = -(lo : Int) := by
  have e : IntKind.u64.max = ((18446744073709551615 : Nat) : Int) := rfl
  rw [e, bits_xor_u64_nat _ _ (by omega) (by omega), IntKind.wrap_u64]
  have h2 : 18446744073709551615 ^^^ lo = 18446744073709551615 - lo := by
    have := BitVec.not_def (x := BitVec.ofNat 64 lo)
    have h3 : (~~~ (BitVec.ofNat 64 lo)).toNat = (BitVec.allOnes 64 ^^^ BitVec.ofNat 64 lo).toNat := by rw [this]
    rw [BitVec.toNat_not, BitVec.toNat_xor, BitVec.toNat_allOnes, BitVec.toNat_ofNat, Nat.mod_eq_of_lt (by omega)] at h3
    have h4 : (2 : Nat) ^ 64 - 1 = 18446744073709551615 := by decide
    rw [h4] at h3
    exact h3.symm
  rw [h2]
  unfold wrap64
  omega

set_option maxHeartbeats 400000 in
theorem signed_any (lo : Nat) (below : Bool) (w : World) (h : lo ≤ 4611686018427387904) :
    Calls Tryd.prog 26 #[.agg #[.int .u64 0, .int .u64 lo], .bool below] w fun e w' => e = .returned (.tuple #[.int .i64 (if below then -(lo : Int) else lo), .bool true]) ∧ Below w.heap.size w w' := by
  have h64 := Lib.hid (neg_u64 lo h)
  cases below
  all_goals
    go_enter Tryd.func26, Tryd.ntmps26
    go_wp2
    all_goals first | (exfalso; omega) | skip
  · go_ret2
    exact ⟨rfl, (Below.refl _ _).alloc (Nat.le_refl _) _⟩
  · go_ret2
    exact ⟨by rw [← h64.out]; rfl, (Below.refl _ _).alloc (Nat.le_refl _) _⟩

theorem div64_any (lo y : Int) (w : World) (hy : 1 ≤ y) (hlo : 0 ≤ lo) (hlo2 : lo ≤ 18446744073709551615) :
    Calls Tryd.prog 40 #[.int .u64 0, .int .u64 lo, .int .u64 y] w fun e w' => e = .returned (.tuple #[.int .u64 (lo / y), .int .u64 (lo % y)]) ∧ ∃ q, w' = w.drewN q := by
  go_enter Tryd.func40, Tryd.ntmps40
  go_wp2
  go_quiet (fail)
  all_goals (try go_wp2)
  go_ret2
  have e : IntKind.u64.wrap (lo.tdiv y) = lo / y := by
    have h1 : lo / y ≤ lo := Int.ediv_le_self _ hlo
    have h2 : 0 ≤ lo / y := Int.ediv_nonneg hlo (by omega)
    rw [Int.tdiv_eq_ediv_of_nonneg hlo, IntKind.wrap_u64]
    omega
  exact ⟨by rw [← e]; rfl, nq, rfl⟩


def dvD (lo : Nat) : Nat → Nat | 2 => lo / 4294967296 | 3 => lo % 4294967296 | _ => 0
def dvL (lo d : Nat) : Nat → Nat | 0 => 0 | i + 1 => (dvL lo d i * 4294967296 + dvD lo i) % d
def dvQ (lo d i : Nat) : Nat := (dvL lo d i * 4294967296 + dvD lo i) / d
theorem dvL_lt (lo d : Nat) (hd : 1 ≤ d) (i : Nat) : dvL lo d i < d := by cases i with | zero => exact hd | succ i => exact Nat.mod_lt _ hd
theorem dvD_lt (lo : Nat) (h : lo ≤ 4611686018427387904) (i : Nat) : dvD lo i < 4294967296 := by unfold dvD; split <;> omega
theorem dvL1 (lo d : Nat) : dvL lo d 1 = 0 := by simp [dvL, dvD]
theorem dv_end (lo d : Nat) (hd : 1 ≤ d) : dvQ lo d 0 = 0 ∧ dvQ lo d 1 = 0 ∧ dvQ lo d 2 * 4294967296 + dvQ lo d 3 = lo / d ∧ dvL lo d 4 = lo % d := by
  have e1 : dvL lo d 1 = 0 := by simp [dvL, dvD]
  have e2 : dvL lo d 2 = 0 := by rw [dvL, e1]; simp [dvD]
  have e3 : dvL lo d 3 = (lo / 4294967296) % d := by rw [dvL, e2]; simp [dvD]
  have q2 : dvQ lo d 2 = lo / 4294967296 / d := by rw [dvQ, e2]; simp [dvD]
  have m := Nat.div_add_mod lo 4294967296
  have k := Nat.div_add_mod (lo / 4294967296) d
  have hlo : lo = (dvL lo d 3 * 4294967296 + dvD lo 3) + d * (dvQ lo d 2 * 4294967296) := by
    rw [e3, q2]
    show lo = (lo / 4294967296 % d * 4294967296 + lo % 4294967296) + d * (lo / 4294967296 / d * 4294967296)
    have : lo / 4294967296 * 4294967296 = (d * (lo / 4294967296 / d) + lo / 4294967296 % d) * 4294967296 := by rw [k]
    rw [Nat.add_mul, Nat.mul_assoc] at this
    omega
  refine ⟨by simp [dvQ, dvL, dvD], by rw [dvQ, e1]; simp [dvD], ?_, ?_⟩
  · show _ + (dvL lo d 3 * 4294967296 + dvD lo 3) / d = lo / d
    conv => rhs; rw [hlo]
    rw [Nat.add_mul_div_left _ _ hd]
    omega
  · show (dvL lo d 3 * 4294967296 + dvD lo 3) % d = lo % d
    conv => rhs; rw [hlo]
    rw [Nat.add_mul_mod_self_left]

theorem dvQ3_lt (lo d : Nat) (hd : 1 ≤ d) : dvQ lo d 3 < 4294967296 := by
  have h := dvL_lt lo d hd 3
  unfold dvQ
  rw [Nat.div_lt_iff_lt_mul hd]
  have : dvD lo 3 < 4294967296 := Nat.mod_lt _ (by decide)
  have h2 : (dvL lo d 3 + 1) * 4294967296 ≤ d * 4294967296 := Nat.mul_le_mul_right _ h
  omega

/-- What the loop of divided knows of the world. -/
structure DvW (lo d B i : Nat) (w wr : World) : Prop where
  size : wr.heap.size = B + 4
  dig : ∀ k, k < 4 → wr.cell? ⟨B + 2, k, none⟩ = some (.int .u64 (dvD lo k : Nat))
  out : ∀ k, k < i → wr.cell? ⟨B + 3, k, none⟩ = some (.int .u64 (dvQ lo d k : Nat))
  rest : ∀ k, k < 4 → ∃ v, wr.cell? ⟨B + 3, k, none⟩ = some v
  frz : ∀ k, k < 4 → wr.frozen? ⟨B + 3, k, none⟩ = false
  res : ∀ k, k < 2 → wr.cell? ⟨B + 1, k, none⟩ = some (.int .u64 0)
  rfz : ∀ k, k < 2 → wr.frozen? ⟨B + 1, k, none⟩ = false
  below : Below B w wr

theorem cast_div (a b d : Nat) : ((a : Int) * 4294967296 + (b : Int)) / (d : Int) = ((a * 4294967296 + b) / d : Nat) := by
  have e : (a : Int) * 4294967296 + (b : Int) = ((a * 4294967296 + b : Nat) : Int) := by omega
  rw [e, Int.natCast_ediv]
theorem cast_mod (a b d : Nat) : ((a : Int) * 4294967296 + (b : Int)) % (d : Int) = ((a * 4294967296 + b) % d : Nat) := by
  have e : (a : Int) * 4294967296 + (b : Int) = ((a * 4294967296 + b : Nat) : Int) := by omega
  rw [e, Int.natCast_emod]
theorem DvW.step {lo d B i : Nat} {w wr : World} (h : DvW lo d B i w wr) (hi : i < 4) (q : Nat) : DvW lo d B (i + 1) w ((wr.drewN q).setCell ⟨B + 3, i, none⟩ (.int .u64 (((dvL lo d i : Int) * 4294967296 + (dvD lo i : Int)) / (d : Int)))) := by
  have e : ((dvL lo d i : Int) * 4294967296 + (dvD lo i : Int)) / (d : Int) = (dvQ lo d i : Nat) := cast_div _ _ _
  rw [e]
  have ne : ∀ (b k : Nat), b ≠ B + 3 → ((wr.drewN q).setCell ⟨B + 3, i, none⟩ (.int .u64 (dvQ lo d i : Nat))).cell? ⟨b, k, none⟩ = wr.cell? ⟨b, k, none⟩ := fun b k hb => by
    rw [World.cell?_setCell_other]
    · exact World.cell?_drewN ..
    · intro e; cases e; exact hb rfl
  refine ⟨by rw [← h.size]; simp [World.setCell], ?_, ?_, ?_, ?_, ?_, ?_, ?_⟩
  · intro k hk; rw [ne _ _ (by omega)]; exact h.dig k hk
  · intro k hk
    by_cases hki : k = i
    · subst hki
      obtain ⟨v, hv⟩ := h.rest k hi
      exact World.cell?_setCell_same' _ _ _ (by rw [World.cell?_drewN, hv]; rfl)
    · rw [World.cell?_setCell_other]
      · rw [World.cell?_drewN]; exact h.out k (by omega)
      · intro e; cases e; exact hki rfl
  · intro k hk
    obtain ⟨v, hv⟩ := h.rest k hk
    exact cell?_setCell_some (w := wr.drewN q) (p := ⟨B + 3, i, none⟩) (q := ⟨B + 3, k, none⟩) (v := v) (by rw [World.cell?_drewN]; exact hv)
  · intro k hk; rw [World.frozen?_setCell, World.frozen?_drewN]; exact h.frz k hk
  · intro k hk; rw [ne _ _ (by omega)]; exact h.res k hk
  · intro k hk; rw [World.frozen?_setCell, World.frozen?_drewN]; exact h.rfz k hk
  · exact (below_drewN h.below q).setCell (by simp) _

set_option maxRecDepth 100000 in
set_option maxHeartbeats 1000000 in
theorem divided_any (lo : Nat) (d : Nat) (w : World) (h : lo ≤ 4611686018427387904) (hd : 1 ≤ d) (hd2 : d ≤ 1073741824) :
    Calls Tryd.prog 24 #[.agg #[.int .u64 0, .int .u64 lo], .int .u64 d] w fun e w' => e = .returned (.tuple #[.agg #[.int .u64 0, .int .u64 (lo / d : Nat)], .bool (decide (0 < lo % d))]) ∧ Below w.heap.size w w' := by
  go_enter Tryd.func24, Tryd.ntmps24
  go_wp2
  refine wp_scope_jumps 0 (fun a' w' => ∃ i : Nat, i ≤ 4 ∧ DvW lo d w.heap.size i w w' ∧ ∃ u10 u11 u12 u13 u14 u15 u16 u17 u18 u19 u20 u21 u22 u23 u24 u25 u26 u27 u28 u29 u30 u31 u32 u33 u34 u35 u36 u37 u38 u39 u40 u41 u42 u43 u44 u45 : Value, a' = { tmps := #[Value.agg #[.int .u64 0, .int .u64 lo], .int .u64 d, .pointer (some ⟨w.heap.size, 0, none⟩), undef, .pointer (some ⟨w.heap.size + 1, 0, none⟩), .bool false, .pointer (some ⟨w.heap.size + 2, 0, none⟩), .pointer (some ⟨w.heap.size + 3, 0, none⟩), .int .u64 (dvL lo d i : Nat), .int .i64 (i : Nat), u10, u11, u12, u13, u14, u15, u16, u17, u18, u19, u20, u21, u22, u23, u24, u25, u26, u27, u28, u29, u30, u31, u32, u33, u34, u35, u36, u37, u38, u39, u40, u41, u42, u43, u44, u45, undef, undef, undef, undef, undef, undef, undef, undef, undef, undef, undef, undef, undef, undef, undef], defers := [] }) (fun a' _ => 4 - (intOf (a'.tmps.getD 9 undef)).toNat) rfl ?_ ?_
  · have b0 : bits BinOp.and IntKind.u64 0 4294967295 = 0 := by decide
    have b1 : bits BinOp.and IntKind.u64 (lo : Int) 4294967295 = ((lo % 4294967296 : Nat) : Int) := by
      have := bits_and_u64_nat lo 4294967295 (by omega) (by omega)
      rw [show (4294967295 : Nat) = 2 ^ 32 - 1 from rfl, Nat.and_two_pow_sub_one_eq_mod] at this
      exact this
    have b2 : bits BinOp.or IntKind.u64 0 0 = 0 := by decide
    have H0 := Lib.hid b0
    have H1 := Lib.hid b1
    go_wp2
    clear b0 b1
    go_step3
    go_wp2_with (go_at_call 40; refine (div64_any _ _ _ (by omega) (by decide) (by decide)).mono ?_; rintro e w1 ⟨rfl, q, rfl⟩)
    go_step3
    simp only [Exit.then]
    clear b2
    have X0 := (dv_end lo d hd).1
    refine ⟨rfl, 1, by omega, ⟨by simp [World.setCell], ?_, ?_, ?_, ?_, ?_, ?_, ?_⟩, ?_⟩
    rotate_right
    · exact ⟨_, _, _, _, _, _, _, _, _, _, _, _, _, _, _, _, _, _, _, _, _, _, _, _, _, _, _, _, _, _, _, _, _, _, _, _, by rw [dvL1]; rfl⟩
    · intro k hk
      match k, hk with
      | 0, _ => go_simp; simp [dvD]
      | 1, _ => go_simp; simp [dvD]
      | 2, _ => go_simp; simp [dvD]
      | 3, _ => go_simp; simp [dvD]
    · intro k hk
      obtain rfl : k = 0 := by omega
      rw [X0]
      go_simp
    · intro k hk
      match k, hk with
      | 0, _ => exact ⟨.int .u64 0, by go_simp⟩
      | 1, _ => exact ⟨.int .u64 0, by go_simp⟩
      | 2, _ => exact ⟨.int .u64 0, by go_simp⟩
      | 3, _ => exact ⟨.int .u64 0, by go_simp⟩
    · intro k hk
      match k, hk with
      | 0, _ => go_simp
      | 1, _ => go_simp
      | 2, _ => go_simp
      | 3, _ => go_simp
    · intro k hk
      match k, hk with
      | 0, _ => go_simp
      | 1, _ => go_simp
    · intro k hk
      match k, hk with
      | 0, _ => go_simp
      | 1, _ => go_simp
    · exact (((((((Below.refl _ _).alloc (Nat.le_refl _) _).alloc (by simp) _).alloc (by simp; omega) _).alloc (by simp; omega) _) |> fun h => below_drewN h _).setCell (by simp; omega) _)
  · rintro a' w' ⟨i, hi, hw, u10, u11, u12, u13, u14, u15, u16, u17, u18, u19, u20, u21, u22, u23, u24, u25, u26, u27, u28, u29, u30, u31, u32, u33, u34, u35, u36, u37, u38, u39, u40, u41, u42, u43, u44, u45, rfl⟩
    have hL := dvL_lt lo d hd i
    have hD := dvD_lt lo h i
    by_cases hi4 : i < 4
    · have c1 := hw.dig i hi4
      obtain ⟨v0, c2⟩ := hw.rest i hi4
      have c3 := hw.frz i hi4
      have b2 : bits BinOp.or IntKind.u64 ((dvL lo d i : Int) * 4294967296) (dvD lo i : Int) = ((dvL lo d i * 4294967296 + dvD lo i : Nat) : Int) := by
        have e : (dvL lo d i : Int) * 4294967296 = ((dvL lo d i * 4294967296 : Nat) : Int) := by omega
        rw [e, bits_or_u64_nat _ _ (by omega) (by omega)]
        have := Nat.two_pow_add_eq_or_of_lt (i := 32) (b := dvD lo i) (by omega) (dvL lo d i)
        rw [Nat.mul_comm, show (4294967296 : Nat) = 2 ^ 32 from rfl, ← this]
      have z : (dvL lo d i : Int) / 4294967296 = 0 := by omega
      have B2 := Lib.hid b2
      have Z := Lib.hid z
      have HW := Lib.hid hw
      clear hw
      go_wp2_with (go_at_call 40; refine (div64_any _ _ _ (by omega) (by omega) (by omega)).mono ?_; rintro e w1 ⟨rfl, q, rfl⟩)
      go_step3
      simp only [Exit.then]
      have eL : ((dvL lo d i : Int) * 4294967296 + (dvD lo i : Int)) % (d : Int) = (dvL lo d (i + 1) : Nat) := cast_mod _ _ _
      refine ⟨rfl, ⟨i + 1, by omega, HW.out.step hi4 q, _, _, _, _, _, _, _, _, _, _, _, _, _, _, _, _, _, _, _, _, _, _, _, _, _, _, _, _, _, _, _, _, _, _, _, _, by rw [eL]; rfl⟩, by simp [intOf]; omega⟩
    · obtain rfl : i = 4 := by omega
      have o0 := hw.out 0 (by omega)
      have o1 := hw.out 1 (by omega)
      have o2 := hw.out 2 (by omega)
      have o3 := hw.out 3 (by omega)
      have r0 := hw.res 0 (by omega)
      have r1 := hw.res 1 (by omega)
      have f0 := hw.rfz 0 (by omega)
      have f1 := hw.rfz 1 (by omega)
      have hB := hw.below
      obtain ⟨x0, x1, x2, x3⟩ := dv_end lo d hd
      have X0 := Lib.hid x0
      have X1 := Lib.hid x1
      have X2 := Lib.hid x2
      have X3 := Lib.hid x3
      clear x0 x1 x2 x3 hw
      go_wp2
      simp only [Exit.jump]
      refine bodyPost_ret (v := .tuple #[.agg #[.int .u64 0, .int .u64 (lo / d : Nat)], .bool (decide (0 < lo % d))]) ?_ rfl ⟨rfl, (hB.setCell (by simp) _).setCell (by simp) _⟩
      have e0 : bits BinOp.or IntKind.u64 (IntKind.u64.wrap (↑(dvQ lo d 0) * 4294967296)) ↑(dvQ lo d 1) = 0 := by rw [X0.out, X1.out]; decide
      have hq : dvQ lo d 3 < 4294967296 := dvQ3_lt lo d hd
      have e1 : bits BinOp.or IntKind.u64 (IntKind.u64.wrap (↑(dvQ lo d 2) * 4294967296)) ↑(dvQ lo d 3) = (lo / d : Nat) := by
        have hle : lo / d ≤ lo := Nat.div_le_self _ _
        have x2 := X2.out
        have ew : IntKind.u64.wrap ((dvQ lo d 2 : Int) * 4294967296) = ((dvQ lo d 2 * 4294967296 : Nat) : Int) := by rw [IntKind.wrap_u64]; omega
        have := Nat.two_pow_add_eq_or_of_lt (i := 32) (b := dvQ lo d 3) (by omega) (dvQ lo d 2)
        rw [ew, bits_or_u64_nat _ _ (by omega) (by omega), Nat.mul_comm, show (4294967296 : Nat) = 2 ^ 32 from rfl, ← this, ← x2]
        congr 1
        omega
      rw [e0, e1, X3.out]
      simp [results, Tryd.results24, go_sem, r0, r1]

/-- What Load adds of one stream: cost * num / den, rounded down, of a number that is 0 or less. -/
def scaleI (c den : Int) : Int := -((c * 1000000 + den - 1) / den)

theorem bcell {W w1 : World} (hb : Below W.heap.size W w1) : (∀ b o, b < W.heap.size → w1.cell? ⟨b, o, none⟩ = W.cell? ⟨b, o, none⟩) ∧ (∀ b o, b < W.heap.size → w1.frozen? ⟨b, o, none⟩ = W.frozen? ⟨b, o, none⟩) :=
  ⟨fun b o h => hb.cell (p := ⟨b, o, none⟩) h, fun b o h => hb.frozen (p := ⟨b, o, none⟩) h⟩


theorem xor_neg (c : Nat) (h1 : 1 ≤ c) (h2 : c ≤ 1000000) : bits BinOp.xor IntKind.i64 (-(c : Int)) 1000000 < 0 := by
  show IntKind.i64.wrap ((BitVec.ofInt 64 (-(c : Int)) ^^^ BitVec.ofInt 64 1000000).toNat : Int) < 0
  have m1 : (BitVec.ofInt 64 (-(c : Int))).msb = true := by
    rw [BitVec.msb_eq_decide, BitVec.toNat_ofInt]
    simp only [decide_eq_true_eq]
    omega
  have m2 : (BitVec.ofInt 64 1000000).msb = false := by decide
  have m : (BitVec.ofInt 64 (-(c : Int)) ^^^ BitVec.ofInt 64 1000000).msb = true := by rw [BitVec.msb_xor, m1, m2]; rfl
  rw [BitVec.msb_eq_decide] at m
  simp only [decide_eq_true_eq] at m
  have l := (BitVec.ofInt 64 (-(c : Int)) ^^^ BitVec.ofInt 64 1000000).isLt
  generalize (BitVec.ofInt 64 (-(c : Int)) ^^^ BitVec.ofInt 64 1000000).toNat = n at m l
  rw [IntKind.wrap_i64]
  omega

theorem size_neg (c : Nat) (w : World) (h : c ≤ 1000000) :
    Calls Tryd.prog 23 #[.int .i64 (-(c : Int))] w fun e w' => e = .returned (.int .u64 c) ∧ w = w' :=
  (size_any (-(c : Int)) w (by omega) (by omega)).mono fun e w' ⟨h1, h2⟩ => ⟨by rw [h1]; exact ret_u64 (by omega), h2⟩
theorem size_mil (w : World) :
    Calls Tryd.prog 23 #[.int .i64 1000000] w fun e w' => e = .returned (.int .u64 1000000) ∧ w = w' :=
  (size_any 1000000 w (by omega) (by omega)).mono fun e w' ⟨h1, h2⟩ => ⟨by rw [h1]; exact ret_u64 (by omega), h2⟩
theorem mul_mil (c : Nat) (w : World) (h : c ≤ 1000000) :
    Calls Tryd.prog 22 #[.int .u64 c, .int .u64 1000000] w fun e w' => e = .returned (.tuple #[.int .u64 0, .int .u64 (c * 1000000 : Nat)]) ∧ w = w' :=
  (Tryd.bits_Mul64 c 1000000 (by omega) (by omega) w).mono fun e w' ⟨h1, h2⟩ => ⟨by
    rw [h1, Nat.div_eq_of_lt (by omega), Nat.mod_eq_of_lt (by omega)]; rfl, h2.symm⟩
theorem add64_one (x : Int) (w : World) (h0 : 0 ≤ x) (h : x ≤ 4611686018427387904) :
    (callFunc 25 #[.int .u64 x, .int .u64 1, .int .u64 0]).run Tryd.prog w = .ok (.value (.tuple #[.int .u64 (x + 1), .int .u64 0])) w := by
  rw [run_callFunc_extern (e := add64Entry) Tryd.func25 (by kernel_rfl) (by kernel_rfl) (by kernel_rfl) rfl, run_add64 x 1 0 h0 (by decide) (by decide) (by decide) w]
  rw [show (x + 1 + 0) % 18446744073709551616 = x + 1 by omega, show (x + 1 + 0) / 18446744073709551616 = 0 by omega]
  rfl

theorem scale_val (c den : Nat) (hd : 1 ≤ den) : scaleI c den = -((c * 1000000 / den + if 0 < c * 1000000 % den then 1 else 0 : Nat) : Int) := by
  unfold scaleI
  have h := Nat.div_add_mod (c * 1000000) den
  have hm := Nat.mod_lt (c * 1000000) hd
  generalize c * 1000000 / den = q at *
  generalize c * 1000000 % den = r at *
  congr 1
  have e : (c : Int) * 1000000 + den - 1 = den * q + (r + den - 1) := by
    have : ((den * q + r : Nat) : Int) = ((c * 1000000 : Nat) : Int) := by rw [h]
    rw [Int.natCast_add, Int.natCast_mul] at this
    omega
  rw [e, Int.mul_add_ediv_left _ _ (by omega)]
  by_cases hr : 0 < r
  · rw [if_pos hr]
    have : ((r : Int) + den - 1) / den = 1 := by
      rw [show (r : Int) + den - 1 = (r - 1) + den * 1 by omega, Int.add_mul_ediv_left _ _ (by omega), Int.ediv_eq_zero_of_lt (by omega) (by omega)]
      rfl
    rw [this]; omega
  · rw [if_neg hr]
    have : ((r : Int) + den - 1) / den = 0 := Int.ediv_eq_zero_of_lt (by omega) (by omega)
    rw [this]; omega

set_option maxRecDepth 100000 in
set_option maxHeartbeats 1000000 in
/-- exact.Scale at -c, a million, den. -/
theorem scale_any (c den : Nat) (w : World) (hc1 : 1 ≤ c) (hc : c ≤ 1000000) (hd : 1 ≤ den) (hd2 : den ≤ 1073741824) :
    Calls Tryd.prog 15 #[.int .i64 (-(c : Int)), .int .i64 1000000, .int .i64 den] w fun e w' => e = .returned (.tuple #[.int .i64 (scaleI c den), .bool true]) ∧ Below w.heap.size w w' := by
  have hx := xor_neg c hc1 hc
  go_enter Tryd.func15, Tryd.ntmps15
  go_wp2_with fail
  refine (size_neg c _ hc).mono ?_
  rintro e w1 ⟨rfl, rfl⟩
  go_wp2_with fail
  refine (size_mil _).mono ?_
  rintro e w1 ⟨rfl, rfl⟩
  go_wp2_with fail
  refine (mul_mil c _ hc).mono ?_
  rintro e w1 ⟨rfl, rfl⟩
  have hle : c * 1000000 / den ≤ c * 1000000 := Nat.div_le_self _ _
  go_wp2_with fail
  refine (divided_any (c * 1000000) den _ (by omega) hd hd2).mono ?_
  rintro e w1 ⟨rfl, hb⟩
  obtain ⟨g1, g2⟩ := bcell hb
  have gs := hb.size
  have hq0 : (0 : Int) ≤ ↑c * 1000000 / ↑den := Int.ediv_nonneg (by omega) (by omega)
  have hcd : ((c : Int) * 1000000 / den) = ((c * 1000000 / den : Nat) : Int) := by
    rw [Int.natCast_ediv]; congr 1
  have hadd := add64_one ((c : Int) * 1000000 / den) 
  have hv := Lib.hid (scale_val c den hd)
  have HCD := Lib.hid hcd
  have hadd1 := fun W => hadd W hq0 (by rw [hcd]; omega)
  clear hadd hcd
  by_cases hr : 0 < c * 1000000 % den
  · go_wp2_with fail
    rw [show (c : Int) * 1000000 / den + 1 = ((c * 1000000 / den + 1 : Nat) : Int) by rw [Int.natCast_add, ← HCD.out]; rfl]
    refine (signed_any (c * 1000000 / den + 1) true _ (by omega)).mono ?_
    rintro e w2 ⟨rfl, hb2⟩
    go_wp2
    go_ret2
    refine ⟨by rw [hv.out, if_pos hr]; rfl, (hb.alloc gs _).trans (hb2.mono (by simp; omega))⟩
  · go_wp2_with fail
    rw [HCD.out]
    refine (signed_any (c * 1000000 / den) true _ (by omega)).mono ?_
    rintro e w2 ⟨rfl, hb2⟩
    go_wp2
    go_ret2
    refine ⟨by rw [hv.out, if_neg hr]; rfl, (hb.alloc gs _).trans (hb2.mono (by simp; omega))⟩
end Go.Proofs.YtkbninfdehppiaaDoor
