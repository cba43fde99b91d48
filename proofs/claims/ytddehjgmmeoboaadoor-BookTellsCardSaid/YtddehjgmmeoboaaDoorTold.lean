/- plain.Told and oathbooksame.Error: what they answer to nil and to an Errno. -/
import Derived.Test.YtddehjgmmeoboaaDoorAs2
namespace Go.Proofs.YtddehjgmmeoboaaDoor
open Go.RowKit Go.Extern.Stop Go.Stop Go.Extern

/-- The one package variable that errors.As reads is laid. -/
def Door (w : World) : Prop := w.cell? ⟨0, 0, none⟩ = some (.iface 240 (.agg #[.pointer (some ⟨3, 27, none⟩)]))
theorem Door.pos {w : World} (h : Door w) : 0 < w.heap.size := World.block_lt_of_cell? _ _ h
theorem Door.below {w w' : World} (h : Door w) (hb : Below w.heap.size w w') : Door w' := (hb.cell (p := ⟨0, 0, none⟩) h.pos).trans h
theorem Door.below_ {w w' : World} {B : Nat} (h : Door w) (hb : Below B w w') (hB : 0 < B) : Door w' := (hb.cell (p := ⟨0, 0, none⟩) hB).trans h
/-- An error: nil, or a number. -/
def errV : Option Int → Value
  | none => .nilIface
  | some n => .iface 51 (.int .i64 n)
def errN : Option Int → Int
  | none => 0
  | some n => n

theorem told_nil (w : World) : Calls Tryd.prog 65 #[.nilIface] w fun e w' => e = .returned (.int .i64 0) ∧ Below w.heap.size w w' := by
  go_enter Tryd.func65, Tryd.ntmps65
  go_wp2
  go_ret
  exact ⟨rfl, Below.refl _ _⟩
set_option maxHeartbeats 1000000 in
theorem told_errno (n : Int) (w : World) (hg : Door w) : Calls Tryd.prog 65 #[.iface 51 (.int .i64 n)] w fun e w' => e = .returned (.int .i64 n) ∧ Below w.heap.size w w' := by
  have hgA : (w.alloc (.cells #[.int .i64 0] 51)).cell? ⟨0, 0, none⟩ = some (.iface 240 (.agg #[.pointer (some ⟨3, 27, none⟩)])) := by
    rw [World.cell?_alloc_lt _ _ ⟨0, 0, none⟩ hg.pos]; exact hg
  have htA : (w.alloc (.cells #[.int .i64 0] 51)).cell? ⟨w.heap.size, 0, none⟩ = some (.int .i64 0) := by simp
  have hfA : (w.alloc (.cells #[.int .i64 0] 51)).frozen? ⟨w.heap.size, 0, none⟩ = false := by simp
  go_enter Tryd.func65, Tryd.ntmps65
  go_wp2_with fail
  refine (as_hit n _ _ _ hgA htA hfA).mono ?_
  rintro e W1 ⟨rfl, hW⟩
  have hb : Below w.heap.size w W1 := by
    rw [hW]
    exact (((((Below.refl _ _).alloc (Nat.le_refl _) _).alloc (by simp) _).alloc (by simp; omega) _).alloc (by simp; omega) _ |>.alloc (by simp; omega) _).setCell (Nat.le_refl _) _
  have hc : W1.cell? ⟨w.heap.size, 0, none⟩ = some (.int .i64 n) := by
    rw [hW]
    refine World.cell?_setCell_same _ _ _ (u := .int .i64 0) ?_
    rw [World.cell?_alloc_lt _ _ _ (by simp; omega), World.cell?_alloc_lt _ _ _ (by simp; omega), World.cell?_alloc_lt _ _ _ (by simp; omega), World.cell?_alloc_lt _ _ _ (by simp)]; exact htA
  clear hW
  go_wp2
  go_ret
  exact ⟨rfl, hb⟩
theorem told_any (x : Option Int) (w : World) (hg : Door w) : Calls Tryd.prog 65 #[errV x] w fun e w' => e = .returned (.int .i64 (errN x)) ∧ Below w.heap.size w w' := by
  cases x with
  | none => exact told_nil w
  | some n => exact told_errno n w hg
/-- S.Error: is an error the one told? -/
theorem error_any (x : Option Int) (m : Int) (w : World) (hg : Door w) : Calls Tryd.prog 17 #[errV x, .int .i64 m] w fun e w' => e = .returned (.bool (decide (errN x = m))) ∧ Below w.heap.size w w' := by
  go_enter Tryd.func17, Tryd.ntmps17
  go_wp2_with fail
  refine (told_any x w hg).mono ?_
  rintro e W1 ⟨rfl, hb⟩
  go_wp2
  go_ret
  exact ⟨rfl, hb⟩
end Go.Proofs.YtddehjgmmeoboaaDoor
