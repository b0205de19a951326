/-
A region that draws its order, in a round of a range over a function: the walk with one condition on the world, brought inside the round. No function of the program is named here.
Conditions: as each theorem states them.
-/
import Derived.RangeFuncNested
import Derived.OrdersIn
import Derived.OrdersHeld
import Derived.TacticsIn
import Derived.TacticsInMore
import Derived.Deep.RegionHeld3
namespace Go.Proofs.YtkbninfdehppiaaDoor
open Go Go.Proofs

/-- K at the ordinary end, and no other end. -/
def NormOnly (K : Act → World → Prop) : Exit → Act → World → Prop
  | .normal, a, w => K a w
  | _, _, _ => False

theorem not_letsOut_normOnly {K : Act → World → Prop} : ¬ LetsOut (NormOnly K) := fun ⟨_, _, h⟩ => h

theorem rowsIn_wide' {n : Nat} {P : Program} {row : String} {args : Array Value} {w : World} {R : Value → World → Prop} (l : Nat) (h : Rows P row args w R) : RowsIn (Fence.wide.inRound l) n P row args w R :=
  fun c cs _ => let ⟨v, w', r, s⟩ := h c cs; ⟨v, w', r, stepsIn_wide.2 s⟩

/-- An operation that is no defer statement, in a round. -/
theorem wpIn_of_wp_round {P : Program} {o : Oper} {a : Act} {w : World} {K K' : Act → World → Prop} {Q : Exit → Act → World → Prop} {N : Act → World → Prop} (l n : Nat)
    (hd : ∀ c, o.op ≠ .defer c) (hK : ∀ a w, K a w → K' a w) (h : o.wp P a w K (NormOnly N)) : o.wpIn (Fence.wide.inRound l) n P a w K' Q := by
  refine ⟨fun _ _ => trivial, ?_⟩
  rw [show (Fence.wide.inRound l).round = some l from rfl, Oper.semAt_some l a.eval o hd]
  unfold Oper.wp at h
  have hdep : (Fence.wide.inRound l).depth.isSome = true → 1 ≤ n := fun h => by cases h
  generalize (execOp a.eval o).run P w = r at *
  cases r with
  | ok x w' =>
    cases x with
    | value v => exact hK _ _ h
    | skip => exact hK _ _ h
    | defer d => exact hK _ _ h
    | enter f args =>
      refine ⟨hdep, CallsIn.inRound l (callsIn_wide.2 (Calls.mono h ?_))⟩
      intro e w'' he
      cases e with
      | returned v => exact hK _ _ he
      | panicked c => exact he.elim
      | outgrown => exact (not_letsOut_normOnly he).elim
    | row row args => exact ⟨hdep, rowsIn_wide' l (Rows.mono h fun v w'' he => hK _ _ he)⟩
    | _ => exact h.elim
  | halt x w' =>
    cases x with
    | panic v => exact (show False from h).elim
    | _ => exact h.elim

theorem wpAnyIn_of_held {P : Program} {md : Region.Mode} {ops : Array Oper} {N : Act → World → Prop} {Q : Exit → Act → World → Prop} {S : World → Prop} (l n : Nat)
    (hd : ∀ (i : Nat) (o : Oper), ops[i]? = some o → ∀ c, o.op ≠ .defer c) (hN : ∀ a w, N a w → Q .normal a w) :
    ∀ (fuel : Nat) (listed : Array Bool) (a : Act) (w : World), wpAnyH P md ops (NormOnly N) S fuel listed a w → wpAnyIn (Fence.wide.inRound l) n P md ops Q fuel listed a w
  | 0, _, _, _, h => ⟨h.1, hN _ _ h.2⟩
  | fuel + 1, listed, a, w, h => ⟨fun h0 => hN _ _ (h.1 h0), fun i hi => by
      have h1 := h.2 i hi
      unfold wpOp at h1
      unfold wpOpIn
      split
      · rename_i hn
        rw [hn] at h1
        exact wpAnyIn_of_held l n hd hN fuel _ a w h1.2
      · rename_i o ho
        rw [ho] at h1
        dsimp only at h1
        split
        · rename_i hw
          rw [if_pos hw] at h1
          rcases h1 with h1 | ⟨_, h1⟩
          · exact wpIn_of_wp_round l n (hd i o ho) (fun a' w' h2 => wpAnyIn_of_held l n hd hN fuel _ a' w' h2.2) h1
          · exact (not_letsOut_normOnly h1).elim
        · rename_i hw
          rw [if_neg hw] at h1
          exact ⟨fun _ _ => trivial, wpAnyIn_of_held l n hd hN fuel _ _ w h1.2⟩⟩

/-- No defer statement among the operations. -/
def noDefer (ops : Array Oper) : Bool := ops.all fun o => match o.op with | .defer _ => false | _ => true
theorem noDefer_spec {ops : Array Oper} (h : noDefer ops = true) (i : Nat) (o : Oper) (hi : ops[i]? = some o) : ∀ c, o.op ≠ .defer c := by
  intro c hc
  have h1 := Array.all_eq_true.1 h i (Array.getElem?_eq_some_iff.1 hi).1
  rw [(Array.getElem?_eq_some_iff.1 hi).2, hc] at h1
  cases h1

/-- The region, in a round. -/
theorem wpIn_round_held {P : Program} {ops : Array Oper} {Q : Exit → Act → World → Prop} {a : Act} {w : World} {l n id : Nat} (N : Act → World → Prop) (S : World → Prop)
    (hm : P.follows .mixedOrders = true) (hd : noDefer ops = true) (hN : ∀ a w, N a w → Q .normal a w)
    (h : wpAnyH P .any ops (NormOnly N) S ops.size (Array.replicate ops.size false) a w.drew) : (Code.region id ops true).wpIn (Fence.wide.inRound l) n P Q a w :=
  wpIn_region_any hm (wpAnyIn_of_held l n (noDefer_spec hd) hN _ _ _ _ h)
end Go.Proofs.YtkbninfdehppiaaDoor
