/-
slices.Sorted(maps.Keys(m)) at keys of 64 bits: the shelf's contracts, laid at this dump.
Conditions: as each theorem states them.
-/
import Derived.Test.YtkbninfdehppiaaDoorK1
namespace Go.Proofs.YtkbninfdehppiaaDoor
open Go Go.Proofs Go.RowKit Go.Maps Go.Sort Go.Shelf

/-- slices.Sort's two contracts at this dump, at the fence that asks nothing. -/
theorem sortsA (m : Nat) : AnyZI.SortsIn Tryd.prog Tryd.sortedA_ren Fence.wide m :=
  ⟨fun blk off cap ss W hH hblk hsz => callsIn_wide.2 (AnyM.slices_Sort_int Tryd.sortA blk off cap ss W hH hblk hsz),
   fun p cap W => callsIn_wide.2 (AnyM.slices_Sort_int_none Tryd.sortA p cap W)⟩
end Go.Proofs.YtkbninfdehppiaaDoor
