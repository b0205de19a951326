/-
Streams of another class count for nothing but their longest frame: law26.DemandOthers is true at every input, and leaves its arguments as they were.
Conditions: none but the row's own (the table crc.divisor, which the card ties to the program's text).
-/
import Derived.Test.YtkbninfdehppiaaDoorCards
import Derived.Test.YtkbninfdehppiaaDoorTie
import Derived.Test.YtkbninfdehppiaaDoorZ1
import Derived.Test.YtkbninfdehppiaaDoorD9
namespace Go.Proofs.YtkbninfdehppiaaDoor
open Go Go.Proofs Go.ChangeShapes Go.WideShapes Go.ChangeAt Go.RowKit

theorem ownNone : ownKnob Tryd.prog.godebug = none := by kernel_rfl
theorem gDiv : Tryd.prog.globalNamed "bellbuoy/crc.divisor" = some 2 := by kernel_rfl
theorem gDivType : (Tryd.prog.globals[2]?).map (·.type) = some 128 := by kernel_rfl
theorem cellsTab : Tryd.prog.cellsOf 128 = 16 := by kernel_rfl
theorem cellsU8 : Tryd.prog.cellsOf 5 = 1 := by kernel_rfl
theorem laidOutP : laidOutB Tryd.prog = true := by kernel_rfl

theorem div_of_laid {W : World} (h : laidMetH Tryd.prog Rows.demandOthersRow.laid W) : Div W := fun j hj => by
  have ht : Lib.TabIs Tryd.prog W "bellbuoy/crc.divisor" .u8 [1, 1, 0, 0, 0, 1, 0, 1, 1, 0, 0, 1, 1, 0, 0, 1] :=
    Lib.tabIs_of_head (rest := []) gDiv gDivType Tryd.underlying128 Tryd.underlying5 cellsU8 cellsTab h
  exact ht.cell gDiv j hj

set_option maxRecDepth 100000 in
/-- WHAT THE WALK GIVES. -/
theorem demand_contract (H : Type) (enc : TypeId × Value → H) (W : World) (base : Nat) (args : Array Value) (ds gs : List (DataW H)) (before : List MemPlace)
    (hval : ∀ (j : Nat) t v, Tryd.f3.params[j]? = some t → args[j]? = some v → Value.okWide Tryd.prog W .any base t v)
    (hW : DataW.Whole enc Tryd.prog Tryd.f3.params.toList Rows.demandOthersSpec.vars false W args.toList ds gs before) (hL : laidMetH Tryd.prog Rows.demandOthersRow.laid W) :
    Calls Tryd.prog 3 args W fun e W' => ∃ v, e = .returned v ∧ Rows.demandOthersSpec.post enc Tryd.prog Tryd.f3 false true false false W args v W' := by
  have hW' := hW
  obtain ⟨p, q, hA0, hV, rfl, hfz, hnd⟩ := hW
  have hA : DataW.TrodAll enc Tryd.prog W 0 (fun _ => true) true Tryd.f3.params.toList args.toList ds p := hA0
  rw [Tryd.params3] at hA hval
  obtain ⟨v0, vs0, d0, ds0, p0, q0, hargs, rfl, rfl, h0, r0⟩ := trodAll_cons hA
  obtain ⟨v1, vs1, d1, ds1, p1, q1, rfl, rfl, rfl, h1, r1⟩ := trodAll_cons r0
  obtain ⟨v2, vs2, d2, ds2, p2, q2, rfl, rfl, rfl, h2, r2⟩ := trodAll_cons r1
  obtain ⟨rfl, rfl, rfl⟩ := trodAll_nil r2
  obtain rfl : args = #[v0, v1, v2] := by cases args; simp_all
  obtain ⟨rfl, rfl⟩ := trodVars_none hV
  obtain ⟨x, rfl, rfl, rfl, hwx⟩ := open_int Tryd.underlying23 (hval 1 23 v1 rfl rfl) h1
  obtain ⟨b, rfl, rfl, rfl, hwb⟩ := open_int Tryd.underlying5 (hval 2 5 v2 rfl rfl) h2
  obtain ⟨ls, hlen, hfit, hv, hr⟩ := open_streams (hval 0 22 v0 rfl rfl) h0
  have hx : 0 ≤ x ∧ x ≤ 65535 := by
    simp [Lit.wf, IntKind.min, IntKind.max, IntKind.signed, IntKind.bits] at hwx
    omega
  have hb : 0 ≤ b ∧ b ≤ 255 := by
    simp [Lit.wf, IntKind.min, IntKind.max, IntKind.signed, IntKind.bits] at hwb
    omega
  refine (law_any v0 ls x b W (fun w hd => live_ok w hd) hlen hfit hv hr (div_of_laid hL) hx.1 hx.2 hb.1 hb.2).mono fun e W' ⟨he, hbw⟩ => ?_
  subst he
  refine ⟨_, rfl, law_post (tb := 4) laidOutP (fun t ht => ?_) rfl (by kernel_rfl) Tryd.underlying4 hW' rfl hbw⟩
  rw [Tryd.params3] at ht
  have hm : t ∈ [22, 23, 5] := by simpa using ht
  have hall : ([22, 23, 5].all fun u => Tryd.prog.readableRec u && decide (u < Tryd.prog.types.size)) = true := by kernel_rfl
  have := List.all_eq_true.1 hall t hm
  simpa using this

/-- A WORLD FOR THE WITNESS: the settled one, the table holding what its initialiser lays. -/
noncomputable def laidWorld (os : Os) : World :=
  { World.holding Tryd.prog os ⟨#[], #[], []⟩ with heap := (World.holding Tryd.prog os ⟨#[], #[], []⟩).heap.modify 2 fun
      | .cells _ t frozen => .cells #[.int .u8 1, .int .u8 1, .int .u8 0, .int .u8 0, .int .u8 0, .int .u8 1, .int .u8 0, .int .u8 1, .int .u8 1, .int .u8 0, .int .u8 0, .int .u8 1, .int .u8 1, .int .u8 0, .int .u8 0, .int .u8 1] t frozen
      | o => o }
theorem laid_met (os : Os) : laidMet Tryd.prog Rows.demandOthersRow.laid ((laidWorld os).forCall (fun _ _ => 0) ⟨#[], #[.slice none 0 0, .int .u16 0, .int .u8 0], []⟩).memory :=
  laidMet_of_run' 8 (by kernel_rfl) (by kernel_rfl)
theorem reads (os : Os) {H : Type} (enc : TypeId × Value → H) : ∃ places, DataW.whole enc Tryd.prog ((laidWorld os).forCall (fun _ _ => 0) ⟨#[], #[.slice none 0 0, .int .u16 0, .int .u8 0], []⟩).memory Tryd.f3.params.toList Rows.demandOthersSpec.vars false #[Value.slice none 0 0, .int .u16 0, .int .u8 0].toList 8 = some ([.nil, .lit (.int .u16 0), .lit (.int .u8 0)], [], places) :=
  ⟨[], by kernel_rfl⟩

set_option maxRecDepth 100000 in
theorem demand_lifted (os : Os) (started : os.Started) (H : Type) (enc : TypeId × Value → H) (F : Stop.Interp) :
    ReturnsInHanded {} Tryd.checked os 3 .any ((OpenSpec.ofChange Rows.demandOthersSpec).preRow enc Tryd.prog Tryd.f3 Rows.demandOthersRow.domain false Rows.demandOthersRow.laid) (((OpenSpec.ofChange Rows.demandOthersSpec).at F).post enc Tryd.prog Tryd.f3 false true false false) := by
  obtain ⟨places, hx⟩ := reads os enc
  refine returnsInHanded_of_row (C := Tryd.checked) (s := OpenSpec.ofChange Rows.demandOthersSpec) ownNone started (by kernel_rfl) Tryd.func3
    (witness_row_at (enc := enc) (C := Tryd.checked) false (laidWorld os) #[.slice none 0 0, .int .u16 0, .int .u8 0] rfl (by kernel_rfl) (by kernel_rfl) (by kernel_rfl)
      (OpenSpec.preRow_of_cond 8 hx (by kernel_rfl) (fun k hk => by cases hk) (by kernel_rfl) (laid_met os))) ?_
  intro W base args ds gs before hval hW _ _ _ hL _ _
  exact demand_contract H enc W base args ds gs before hval hW hL

theorem demand_said : Rows.DemandOthersSaid :=
  OpenClaim.holds_of_cond 3 Tryd.f3 rfl rfl rfl rfl rfl rfl rfl ⟨rfl, rfl, rfl, rfl, rfl⟩ rfl rfl rfl rfl rfl (by kernel_rfl) Tryd.func3 (by kernel_rfl)
    (of_decide_eq_true (by kernel_rfl)) (by unfold Func.isWrapper; first | (rw [if_pos (by decide +kernel)]; kernel_rfl) | (rw [if_neg (by decide +kernel)]; exact ⟨rfl, rfl⟩))
    (fun os started H enc _ F => by rw [OpenClaim.pre_eq_preRow]; exact demand_lifted os started H enc F)

/-- No parameter wants a stand-in; the program's own looks are off. -/
theorem demand_plain (f : FuncId) (fn : Func) (hf : Tryd.pinned.checked.prog.funcNamed "bellbuoy/bellbuoylaw26.DemandOthers" = some f) (hfn : Tryd.pinned.checked.prog.funcs[f]? = some fn) :
    false = Tryd.pinned.checked.prog.looks [] ∧ ∀ (j : Nat) t, fn.params[j]? = some t → Tryd.pinned.checked.prog.wantsStandIn t = false := by
  obtain rfl : f = 3 := Option.some.inj ((show Tryd.prog.funcNamed "bellbuoy/bellbuoylaw26.DemandOthers" = some 3 by kernel_rfl).symm.trans hf) |>.symm
  obtain rfl : fn = Tryd.f3 := (Option.some.inj (Tryd.func3.symm.trans hfn)).symm
  refine ⟨by kernel_rfl, fun j t ht => ?_⟩
  rw [Tryd.params3] at ht
  have hm : t ∈ [22, 23, 5] := by simpa using Array.mem_of_getElem? ht
  have hall : ([22, 23, 5].all fun u => !Tryd.prog.wantsStandIn u) = true := by kernel_rfl
  exact (show Tryd.prog.wantsStandIn t = false by simpa using List.all_eq_true.1 hall t hm)

/-- THE CARD. -/
theorem demandOthers_card : Rows.DemandOthersCardSaid :=
  Claim7.holds_tied_plain_at .later [] _ _ _ _ demand_said (fun _ h => by cases h) (by kernel_rfl) (fun _ h => by cases h) demandOthers_row_tie rfl ⟨rfl, rfl⟩ (by kernel_rfl) rfl demand_plain (by kernel_rfl)
#print axioms demandOthers_card
end Go.Proofs.YtkbninfdehppiaaDoor
