/- The walks of slices.Clone, slices.Index, slices.Contains at bytes. -/
import Derived.Test.YtddehjgmmeoboaaField
namespace Go.Proofs.Ytddehjgmmeoboaa
open Go.RowKit

set_option maxHeartbeats 400000 in
theorem clone_any (l : List UInt8) (A : Option Addr) (n c : Nat) (w : World) (hn : n ≤ 70368744177664) (hr : Rd w 1 A n c (l.map B)) :
    Calls Try.prog 14 #[.slice A n c] w fun e w' => ∃ v, e = .returned v ∧ w'.ownsRow w.heap.size 5 1 v n (l.map B) ∧ Below w.heap.size w w' := by
  obtain ⟨i0, hi, hz0, hz1, hz2⟩ := info_parts Try.infoU8
  have hq := fun W => Lib.run_eql_slice_nil (P := Try.prog) W 26 5 A n c 0 0 Try.underlying26
  cases A with
  | none =>
    have h0 : n = 0 := by have := hr.nil_ rfl; have := hr.cap; omega
    subst h0
    have hl : l.map B = [] := List.eq_nil_of_length_eq_zero (by simpa using hr.len)
    go_enter Try.func14, Try.ntmps14
    go_wp2
    go_ret
    exact ⟨_, rfl, by rw [hl]; exact World.ownsRow_nil _ _ _ _, Below.refl _ _⟩
  | some ad =>
    go_enter Try.func14, Try.ntmps14
    obtain ⟨v', w', hrun, hown', hb', _, _⟩ := run_app (P := Try.prog) (w.alloc (.cells #[] 5)) w.heap.size 26 26 5 i0 _ 1 1 Try.underlying26 hi hz0 hz1 hz2 rfl (by omega) (.slice (some ⟨w.heap.size, 0, none⟩) 0 0) 0 [] (World.ownsRow_made w _ 0 (Nat.le_refl _) (by unfold maxLen; omega) rfl) _ _ _ _ (hr.below' ((Below.refl _ _).alloc (Nat.le_refl _) _)) (mapB_one _) (by unfold maxLen; omega) (by omega) (by simp)
    have HRUN := Lib.hid hrun; clear hrun
    go_wp2_with (at_builtin; go_must (refine Lib.wpList_append_run _ (by rfl) _ _ _ _ (by rfl) _ _ (by rfl) (by rfl) _ _ HRUN.out ?_))
    go_ret
    exact ⟨_, rfl, by simpa using hown', ((Below.refl _ _).alloc (Nat.le_refl _) _).trans hb'⟩

theorem idx_step (l : List UInt8) (x : UInt8) {k : Nat} (h : k < l.length) (hno : x ∉ l.take k) (hx : ¬ x = l.getD k 0) : x ∉ l.take (k + 1) := by
  rw [List.take_add_one, List.getElem?_eq_getElem h]
  rw [List.getD_eq_getElem?_getD, List.getElem?_eq_getElem h] at hx
  simp only [List.mem_append, Option.toList, List.mem_singleton, not_or]
  exact ⟨hno, hx⟩
theorem u8_beq (x y : UInt8) : ((x.toNat : Int) == (y.toNat : Int)) = decide (x = y) := by
  by_cases h : x = y
  · subst h; simp
  · rw [decide_eq_false h, beq_eq_false_iff_ne]
    intro e
    exact h (UInt8.toNat_inj.1 (by omega))
set_option maxHeartbeats 400000 in
theorem index_any (l : List UInt8) (x : UInt8) (A : Option Addr) (n c : Nat) (w : World) (hn : n ≤ 70368744177664) (hr : Rd w 1 A n c (l.map B)) :
    Calls Try.prog 23 #[.slice A n c, B x] w fun e w' => ∃ r : Int, e = .returned (.int .i64 r) ∧ (0 ≤ r ↔ x ∈ l) ∧ w = w' := by
  have hlen : l.length = n := by have := hr.len; simpa using this
  have HLEN := Lib.hid hlen; clear hlen
  go_enter Try.func23, Try.ntmps23
  go_wp2
  go_loop [5, 8] (fun _ i => ∃ k : Nat, k ≤ n ∧ i = .int .i64 k ∧ Hid (x ∉ l.take k)) (fun _ i => n - (intOf i).toNat)
  case atStart => exact ⟨0, Nat.zero_le _, rfl, by show x ∉ l.take 0; simp⟩
  case round =>
    obtain ⟨k, hk, rfl, hno⟩ := hrel
    by_cases hlt : k < n
    · obtain ⟨ad, rfl, hab, hc⟩ := hr.byte hlt
      have hkl : k < l.length := by rw [HLEN.out]; exact hlt
      generalize hy : l.getD k 0 = y at *
      have HY := Lib.hid hy; clear hy
      by_cases hx : x = y
      · have hq : ((x.toNat : Int) == (y.toNat : Int)) = true := by rw [u8_beq]; simpa using hx
        have hm : Hid (x ∈ l) := by
          show x ∈ l
          rw [hx, ← HY.out, List.getD_eq_getElem?_getD, List.getElem?_eq_getElem hkl]; exact List.getElem_mem hkl
        clear hx
        go_wp2
        go_ret
        exact ⟨_, rfl, ⟨fun _ => hm.out, fun _ => by omega⟩, rfl⟩
      · have hq : ((x.toNat : Int) == (y.toNat : Int)) = false := by rw [u8_beq]; simpa using hx
        have HX := Lib.hid hx; clear hx
        go_wp2
        go_round
        case rel => exact ⟨k + 1, by omega, by go_num, idx_step l x hkl hno.out (by rw [HY.out]; exact HX.out)⟩
        case measure => simp [intOf]; omega
    · obtain rfl : k = n := by omega
      go_wp2
      go_ret
      have h2 := hno.out
      rw [List.take_of_length_le (by rw [HLEN.out]; exact Nat.le_refl _)] at h2
      exact ⟨-1, rfl, ⟨fun h => by omega, fun h => absurd h h2⟩, rfl⟩
set_option maxHeartbeats 400000 in
theorem contains_any (l : List UInt8) (x : UInt8) (A : Option Addr) (n c : Nat) (w : World) (hn : n ≤ 70368744177664) (hr : Rd w 1 A n c (l.map B)) :
    Calls Try.prog 16 #[.slice A n c, B x] w fun e w' => e = .returned (.bool (decide (x ∈ l))) ∧ w = w' := by
  go_enter Try.func16, Try.ntmps16
  go_wp2_with fail
  refine (index_any l x A n c _ hn hr).mono ?_
  rintro e w' ⟨r, rfl, hd, rfl⟩
  have HD := Lib.hid hd; clear hd
  go_wp2_with fail
  go_ret
  refine ⟨congrArg (fun b => Ending.returned (.bool b)) ?_, rfl⟩
  exact decide_eq_decide.2 HD.out
end Go.Proofs.Ytddehjgmmeoboaa
