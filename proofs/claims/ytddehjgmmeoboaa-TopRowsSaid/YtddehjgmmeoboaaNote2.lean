/- The walks of note.Write where it tells an error. -/
import Derived.Test.YtddehjgmmeoboaaNote
namespace Go.Proofs.Ytddehjgmmeoboaa
open Go.RowKit

set_option maxHeartbeats 400000 in
theorem write_unnamed (s : ByteArray) (K : List UInt8) (t : Int) (w : World) (hs : named s.data.toList = false) :
    Calls Try.prog 5 #[.agg (noteC s K t)] w fun e w' => e = .returned (.tuple #[.slice none 0 0, errno 1]) ∧ Below w.heap.size w w' := by
  have h0 := noteC_0 s K t
  go_enter Try.func5, Try.ntmps5
  go_wp2_with fail
  refine (named_any s _).mono ?_
  rintro e w1 ⟨he, hb1⟩
  rw [hs] at he
  subst he
  go_wp2_with fail
  go_ret2
  exact ⟨rfl, ((Below.refl _ _).alloc (Nat.le_refl _) _).trans (hb1.mono (by simp))⟩

set_option maxHeartbeats 400000 in
theorem write_range (s : ByteArray) (K : List UInt8) (t : Int) (w : World) (hs : named s.data.toList = true) (hK : K.length = 32) (ht : t < 0 ∨ 4294967296 ≤ t) (h63 : t ≤ 9223372036854775807) :
    Calls Try.prog 5 #[.agg (noteC s K t)] w fun e w' => e = .returned (.tuple #[.slice none 0 0, errno 2]) ∧ Below w.heap.size w w' := by
  have h0 := noteC_0 s K t
  have h33 := noteC_33 s t hK
  have HK := Lib.hid hK; clear hK
  have HT := Lib.hid ht; clear ht
  go_enter Try.func5, Try.ntmps5
  go_wp2_with fail
  refine (named_any s _).mono ?_
  rintro e w1 ⟨he, hb1⟩
  rw [hs] at he
  subst he
  have c33 : w1.cell? ⟨w.heap.size, 33, none⟩ = some (.int .i64 t) := (hb1.cell (by simp)).trans (by simp [h33])
  go_wp2_with fail
  refine (put_bad t HT.out h63 _).mono ?_
  rintro e w2 ⟨rfl, rfl⟩
  go_wp2_with fail
  go_ret2
  exact ⟨rfl, ((Below.refl _ _).alloc (Nat.le_refl _) _).trans (hb1.mono (by simp))⟩
end Go.Proofs.Ytddehjgmmeoboaa
