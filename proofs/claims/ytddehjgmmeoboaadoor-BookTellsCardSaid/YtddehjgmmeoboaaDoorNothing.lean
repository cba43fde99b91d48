/- The walk of the reference's Nothing: a digest of bytes 0. -/
import Derived.Test.YtddehjgmmeoboaaDoorBlk
import Derived.Test.YtddehjgmmeoboaaDoorNamed
namespace Go.Proofs.YtddehjgmmeoboaaDoor
open Go.RowKit
set_option maxRecDepth 8000

def zero32 : List UInt8 := List.replicate 32 0
theorem zero32_len : (zero32.map B).length = 32 := rfl
theorem Tryd.infoDig : (Tryd.prog.info? 23).map (·.size) = some 32 := by kernel_rfl
theorem nothing_any (w : World) : Calls Tryd.prog 69 #[] w fun e w' => e = .returned (.agg (zero32.map B).toArray) ∧ Below w.heap.size w w' := by
  go_enter Tryd.func69, Tryd.ntmps69
  go_wp2_with (show wpList _ _ _ (⟨_, Op.store _ _ _, _, _, _, _⟩ :: _) _ _
               go_must (refine store_blk (by rfl) 23 _ _ (by rfl) w.heap.size 0 23 (zero32.map B) (zero32.map B) (by rfl) (by rfl) (Blk.at_new _ _ _ _ _ (by rfl) (by rfl)) (by rw [zero32_len]; exact Tryd.infoDig) (mapB_one _) (by rw [zero32_len]; omega) ?_)
               intro W2 hB2 hG2
               rw [spl_all _ _ rfl] at hB2
               have hb2 : Below w.heap.size w W2 := ((Below.refl _ _).alloc (Nat.le_refl _) _).grown hG2 (by simp) (fun k hk => by cases hk; omega))
  refine bodyPost_ret (results_cell_one (P := Tryd.prog) Tryd.results69 _ _ w.heap.size 23 _ _ (by rfl) hB2 Tryd.underlying23 rfl (by rw [zero32_len]; exact Tryd.infoDig)) rfl ?_
  exact ⟨rfl, hb2⟩
end Go.Proofs.YtddehjgmmeoboaaDoor
