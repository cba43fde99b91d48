/- The walks of slices.Grow (of nil), slices.Concat, slices.Clone, slices.Contains at bytes. -/
import Derived.Test.YtddehjgmmeoboaaField
namespace Go.Proofs.Ytddehjgmmeoboaa
open Go.RowKit

set_option maxHeartbeats 400000 in
theorem grow_any (n : Nat) (w : World) (hn : n ≤ 140737488351232) :
    Calls Try.prog 19 #[.slice none 0 0, .int .i64 n] w fun e w' => ∃ v, e = .returned v ∧ w'.ownsRow w.heap.size 5 1 v 0 [] ∧ Below w.heap.size w w' := by
  obtain ⟨i0, hi, hz0, hz1, hz2⟩ := info_parts Try.infoU8
  by_cases h0 : n = 0
  · subst h0
    go_enter Try.func19, Try.ntmps19
    go_wp2_with fail
    go_ret
    exact ⟨_, rfl, World.ownsRow_nil _ _ _ _, Below.refl _ _⟩
  · have hpos : 0 < n := by omega
    have hrz := fun ty => Lib.run_append_nil_zeros (P := Try.prog) w 26 3 ty 5 i0 _ .i64 .i64 Try.underlying26 Try.underlying3 hi hz0 n hpos (by omega) (by omega) (by rw [hz2]; omega)
    have hge := grownCap_ge w n 0 5
    have hle := grownCap_le_maxLen w n 0 5 (by unfold maxLen; omega)
    have HRZ := Lib.hid hrz; clear hrz
    go_enter Try.func19, Try.ntmps19
    go_wp2_with (at_builtin; go_must (refine Lib.wpList_append_run _ (by rfl) _ _ _ _ (by rfl) _ _ (by rfl) (by rfl) _ _ (HRZ.out _) ?_))
    go_ret
    refine ⟨_, rfl, ?_, ?_⟩
    · exact World.ownsRow_made (base := w.heap.size) (size := 1) (e := 5) w _ _ (Nat.le_refl _) hle (by simp [size_zeroCells]; omega)
    · exact ((Below.refl _ _).alloc (Nat.le_refl _) _).drew

/-- The length of all rows together. -/
def tot (rows : List (List UInt8)) (k : Nat) : Nat := ((rows.take k).map List.length).sum
theorem tot_succ (rows : List (List UInt8)) {k : Nat} (h : k < rows.length) : tot rows (k + 1) = tot rows k + rows[k].length := by
  unfold tot; rw [List.take_add_one, List.getElem?_eq_getElem h, List.map_append, List.sum_append]; simp only [Option.toList, List.map_cons, List.map_nil, List.sum_cons, List.sum_nil]; omega
theorem tot_mono (rows : List (List UInt8)) (k d : Nat) : tot rows k ≤ tot rows (k + d) := by
  induction d with
  | zero => exact Nat.le_refl _
  | succ d ih =>
    by_cases h : k + d < rows.length
    · have := tot_succ rows h; rw [← Nat.add_assoc]; omega
    · have e1 : tot rows (k + d + 1) = tot rows (k + d) := by unfold tot; rw [List.take_of_length_le (by omega), List.take_of_length_le (by omega)]
      rw [← Nat.add_assoc, e1]; exact ih
theorem flat_succ (rows : List (List UInt8)) {k : Nat} (h : k < rows.length) : (rows.take (k + 1)).flatten = (rows.take k).flatten ++ rows[k] := by
  rw [List.take_add_one, List.getElem?_eq_getElem h, List.flatten_append]; simp
theorem flat_len (rows : List (List UInt8)) (k : Nat) : (rows.take k).flatten.length = tot rows k := by
  unfold tot; rw [List.length_flatten]
set_option maxHeartbeats 400000 in
theorem concat_any (rows : List (List UInt8)) (A : Option Addr) (n c : Nat) (w : World) (hn : rows.length = n) (ht : tot rows n ≤ 70368744177664) (hr : RdM w A n c (rows.map (·.map B))) :
    Calls Try.prog 12 #[.slice A n c] w fun e w' => ∃ v, e = .returned v ∧ w'.ownsRow w.heap.size 5 1 v rows.flatten.length (rows.flatten.map B) ∧ Below w.heap.size w w' := by
  obtain ⟨i0, hi, hz0, hz1, hz2⟩ := info_parts Try.infoU8
  have hcap := hr.cap
  have hlid := hr.lid
  have hN := Lib.hid hn; clear hn
  unfold maxLen at hlid
  have row : ∀ k, k < n → ∃ (hk : k < rows.length) (ad : Addr) (A' : Option Addr) (c' : Nat), A = some ad ∧ ad.block < w.heap.size ∧ w.cell? (ad.add k) = some (.slice A' rows[k].length c') ∧ Rd w 1 A' rows[k].length c' (rows[k].map B) := by
    intro k hk
    have hk' : k < rows.length := by rw [hN.out]; exact hk
    obtain ⟨ad, A', c', e1, e2, e3, e4⟩ := hr.at_ k (by simpa using hk')
    simp only [List.getElem_map, List.length_map] at e3 e4
    exact ⟨hk', ad, A', c', e1, e2, e3, e4⟩
  have hROW := Lib.hid row; clear row
  have tle : ∀ k, k ≤ n → tot rows k ≤ 70368744177664 := fun k hk => Nat.le_trans (by have := tot_mono rows k (n - k); rw [show k + (n - k) = n from by omega] at this; exact this) ht
  have hTLE := Lib.hid tle; clear tle
  go_enter Try.func12, Try.ntmps12
  go_wp2_with fail
  go_loop [3, 11] (fun s i => ∃ k : Nat, k ≤ n ∧ i = .int .i64 k ∧ s = .int .i64 (tot rows k)) (fun _ i => n - (intOf i).toNat)
  case atStart => exact ⟨0, Nat.zero_le _, rfl, rfl⟩
  case round =>
    obtain ⟨k, hk, rfl, rfl⟩ := hrel
    by_cases hlt : k < n
    · obtain ⟨hk', ad, A', c', rfl, hab, hck, hrk⟩ := hROW.out k hlt
      have hs := tot_succ rows hk'
      have ht1 := hTLE.out (k + 1) (by omega)
      generalize hL : rows[k].length = L at *
      have hL0 : 0 ≤ tot rows k := Nat.zero_le _
      have hLb : tot rows k + L ≤ 70368744177664 := by omega
      have HS := Lib.hid hs; clear hs ht1
      have HL := Lib.hid hL; clear hL
      go_wp2_with fail
      go_round
      case rel => exact ⟨k + 1, by omega, by go_num, by rw [HS.out]; go_num⟩
      case measure => simp [intOf]; omega
    · obtain rfl : k = n := by omega
      have ht1 := hTLE.out k (Nat.le_refl _)
      go_wp2_with fail
      refine (grow_any (tot rows k) _ (by omega)).mono ?_
      rintro e w1 ⟨v1, rfl, hown1, hb1⟩
      go_wp2_with fail
      go_loopw [6, 27] (fun v i wr => ∃ m : Nat, m ≤ k ∧ i = .int .i64 m ∧ wr.ownsRow w.heap.size 5 1 v (tot rows m) ((rows.take m).flatten.map B) ∧ Below w.heap.size w wr) (fun _ i _ => k - (intOf i).toNat)
      case atStart => exact ⟨0, Nat.zero_le _, rfl, hown1, hb1⟩
      case round =>
        obtain ⟨m, hm, rfl, hown, hb⟩ := hrel
        by_cases hml : m < k
        · obtain ⟨hm', ad, A', c', rfl, hab, hcm, hrm⟩ := hROW.out m hml
          have hcm' := (hb.cell (by rw [addr_block]; exact hab)).trans hcm
          have hrm' := hrm.below' hb
          have hs := tot_succ rows hm'
          have hf := flat_succ rows hm'
          have ht2 := hTLE.out (m + 1) (by omega)
          generalize hL : rows[m].length = L at *
          have hLb : tot rows m + L ≤ 70368744177664 := by omega
          have HS := Lib.hid hs; clear hs ht2
          have HL := Lib.hid hL; clear hL
          have HF := Lib.hid hf; clear hf
          clear hcm hrm hown1 hb1
          obtain ⟨v', w', hrun, hown', hb', _, _⟩ := run_app (P := Try.prog) wr w.heap.size 26 26 5 i0 _ 1 1 Try.underlying26 hi hz0 hz1 hz2 rfl (by omega) _ _ _ hown _ _ _ _ hrm' (mapB_one _) (by unfold maxLen; omega) (by omega) hb.size
          have HRUN := Lib.hid hrun; clear hrun
          go_wp2_with (at_builtin; go_must (refine Lib.wpList_append_run _ (by rfl) _ _ _ _ (by rfl) _ _ (by rfl) (by rfl) _ _ HRUN.out ?_))
          go_roundw
          case rel =>
            refine ⟨m + 1, by omega, by go_num, ?_, hb.trans hb'⟩
            rw [HF.out, List.map_append, HS.out]; exact hown'
          case measure => simp [intOf]; omega
        · obtain rfl : m = k := by omega
          go_wp2_with fail
          go_ret
          refine ⟨_, rfl, ?_, hb⟩
          have e1 : rows.take m = rows := List.take_of_length_le (by rw [hN.out]; exact Nat.le_refl _)
          have e2 : tot rows m = rows.flatten.length := by rw [← flat_len, e1]
          rw [e1, e2] at hown
          exact hown
end Go.Proofs.Ytddehjgmmeoboaa
