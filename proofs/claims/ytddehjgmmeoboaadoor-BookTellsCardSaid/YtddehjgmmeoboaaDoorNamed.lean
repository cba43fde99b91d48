/- The walks of book.Named and what it calls of package strings: whether a text is a name. -/
import Derived.Test.YtddehjgmmeoboaaDoorMem
namespace Go.Proofs.YtddehjgmmeoboaaDoor
open Go.RowKit
set_option maxRecDepth 8000

theorem ret_bool {a b : Bool} (h : a = b) : Ending.returned (.bool a) = .returned (.bool b) := by rw [h]
/-- Is a byte one of a name's? -/
def okc (b : UInt8) : Bool := (decide (97 ≤ b.toNat) && decide (b.toNat ≤ 122)) || (decide (48 ≤ b.toNat) && decide (b.toNat ≤ 57)) || decide (b.toNat = 45)
def badr (r : Int) : Bool := (decide (r < 97) || decide (122 < r)) && (decide (r < 48) || decide (57 < r)) && !decide (r = 45)
theorem badr_ascii (b : UInt8) : badr (b.toNat : Int) = !okc b := by
  unfold badr okc
  rw [Bool.eq_iff_iff]; simp; omega
theorem badr_high (r : Int) (h : 128 ≤ r) : badr r = true := by
  unfold badr; simp; omega

set_option maxHeartbeats 400000 in
theorem named1_any (r : Int) (w : World) : Calls Tryd.prog 123 #[.int .i32 r] w fun e w' => e = .returned (.bool (badr r)) ∧ w = w' := by
  go_enter Tryd.func123, Tryd.ntmps123
  go_wp2
  all_goals go_ret
  all_goals exact ⟨ret_bool (by unfold badr; rw [Bool.eq_iff_iff]; simp <;> omega), rfl⟩

def named (l : List UInt8) : Bool := decide (0 < l.length) && decide (l.length ≤ 30) && l.all okc

theorem data_get (s : ByteArray) (k : Nat) (h : k < s.size) : s.data.toList[k]? = some (s[k]'h) := by
  have h2 : k < s.data.toList.length := by simpa using h
  rw [List.getElem?_eq_getElem h2]; rfl
theorem take_ok {s : ByteArray} {k : Nat} (h : k < s.size) (ho : (s.data.toList.take k).all okc = true) (hb : okc (s[k]'h) = true) : (s.data.toList.take (k + 1)).all okc = true := by
  rw [List.take_add_one, data_get s k h, List.all_append, ho]; simp [hb]
theorem not_all {s : ByteArray} {k : Nat} (h : k < s.size) (hb : okc (s[k]'h) = false) : s.data.toList.all okc = false := by
  rw [List.all_eq_false]
  exact ⟨s[k]'h, List.mem_iff_getElem?.2 ⟨k, data_get s k h⟩, by simp [hb]⟩
set_option maxHeartbeats 400000 in
theorem indexFunc_any (s : ByteArray) (w : World) :
    Calls Tryd.prog 168 #[.string s, .func (.func 123) #[] #[], .bool true] w fun e w' => ∃ r : Int, e = .returned (.int .i64 r) ∧ decide (0 ≤ r) = !s.data.toList.all okc ∧ Below w.heap.size w w' := by
  go_enter Tryd.func168, Tryd.ntmps168
  go_wp2
  go_loopw [7, 8] (fun _ _ wr => ∃ pos : Nat, pos ≤ s.size ∧ Hid (wr = w.iter s pos) ∧ Hid ((s.data.toList.take pos).all okc = true)) (fun _ _ wr => s.size - wr.iterPos w.heap.size)
  case atStart => exact ⟨0, Nat.zero_le _, rfl, rfl⟩
  case round =>
    obtain ⟨pos, hpos, hw, hok⟩ := hrel
    have hw2 := hw.out; clear hw; subst hw2
    by_cases hp : pos < s.size
    · have hnx : ∀ ty, (Instr.next (.pointer (some ⟨w.heap.size, 0, none⟩)) true ty).run Tryd.prog (w.iter s pos) = _ := fun ty => run_next_any w s pos ty hp
      by_cases hb : okc (s[pos]'hp) = true
      · have ha : (s[pos]'hp).toNat < 128 := by unfold okc at hb; simp at hb; omega
        have hr : badr ((Utf8.decode s pos).1 : Int) = false := by rw [decode_ascii s pos hp ha, badr_ascii, hb]; rfl
        have hwd : (Utf8.decode s pos).2 = 1 := by rw [decode_ascii s pos hp ha]
        have HB := Lib.hid hb; clear hb
        have HWD := Lib.hid hwd; clear hwd
        go_wp2_with (go_at_call 123; refine (named1_any _ _).mono ?_; rintro e w' ⟨rfl, rfl⟩)
        go_roundw
        case rel =>
          rw [HWD.out]
          exact ⟨pos + 1, by omega, rfl, take_ok hp hok.out HB.out⟩
        case measure => rw [HWD.out]; simp; omega
      · have hr : badr ((Utf8.decode s pos).1 : Int) = true := by
          by_cases ha : (s[pos]'hp).toNat < 128
          · rw [decode_ascii s pos hp ha, badr_ascii]; simpa using hb
          · exact badr_high _ (by have := (decode_high s pos hp (by omega)).1; omega)
        have HB := Lib.hid hb; clear hb
        go_wp2_with (go_at_call 123; refine (named1_any _ _).mono ?_; rintro e w' ⟨rfl, rfl⟩)
        go_ret
        exact ⟨_, rfl, by rw [not_all hp (by simpa using HB.out)]; simp, (Below.refl _ _).alloc (Nat.le_refl _) _⟩
    · have hnx : ∀ ty, (Instr.next (.pointer (some ⟨w.heap.size, 0, none⟩)) true ty).run Tryd.prog (w.iter s pos) = _ := fun ty => run_next_end w s pos ty hp
      go_wp2
      go_ret
      have h2 := hok.out
      rw [List.take_of_length_le (by simpa using (by omega : s.size ≤ pos))] at h2
      exact ⟨-1, rfl, by rw [h2]; rfl, (Below.refl _ _).alloc (Nat.le_refl _) _⟩

set_option maxHeartbeats 400000 in
theorem containsFunc_any (s : ByteArray) (w : World) :
    Calls Tryd.prog 122 #[.string s, .func (.func 123) #[] #[]] w fun e w' => e = .returned (.bool (!s.data.toList.all okc)) ∧ Below w.heap.size w w' := by
  have h24 : ∀ W : World, Calls Tryd.prog 150 #[.string s, .func (.func 123) #[] #[]] W fun e w' => ∃ r : Int, e = .returned (.int .i64 r) ∧ decide (0 ≤ r) = !s.data.toList.all okc ∧ Below W.heap.size W w' := by
    intro W
    go_enter Tryd.func150, Tryd.ntmps150
    go_wp2_with fail
    refine (indexFunc_any s _).mono ?_
    rintro e w' ⟨r, rfl, hr, hb⟩
    have HR := Lib.hid hr; clear hr
    go_wp2_with fail
    go_ret
    exact ⟨r, rfl, HR.out, hb⟩
  go_enter Tryd.func122, Tryd.ntmps122
  go_wp2_with fail
  refine (h24 _).mono ?_
  rintro e w' ⟨r, rfl, hr, hb⟩
  have HR := Lib.hid hr; clear hr
  go_wp2_with fail
  go_ret
  exact ⟨by rw [← HR.out]; rfl, hb⟩

theorem named_long (s : ByteArray) (h : 30 < s.size) : named s.data.toList = false := by
  unfold named; simp; omega
set_option maxHeartbeats 400000 in
theorem named_any (s : ByteArray) (w : World) :
    Calls Tryd.prog 66 #[.string s] w fun e w' => e = .returned (.bool (named s.data.toList)) ∧ Below w.heap.size w w' := by
  go_enter Tryd.func66, Tryd.ntmps66
  go_wp2_with (go_at_call 122; refine (containsFunc_any _ _).mono ?_; rintro e w' ⟨rfl, hb⟩)
  · go_ret
    have h : s.toList = [] := by assumption
    rw [ByteArray.toList_eq] at h
    exact ⟨ret_bool (by unfold named; rw [h]; simp), Below.refl _ _⟩
  · go_ret
    have h : s.toList.isEmpty = true ∨ 30 < (s.size : Int) := by assumption
    have h1 : ¬ s.toList = [] := by assumption
    rcases h with h | h
    · exact absurd (by simpa using h) h1
    · exact ⟨ret_bool (by rw [named_long s (by omega)]), Below.refl _ _⟩
  · have h : s.toList.isEmpty = false ∧ (s.size : Int) ≤ 30 := by assumption
    go_ret
    refine ⟨ret_bool ?_, hb⟩
    have h1 := h.1
    rw [ByteArray.toList_eq] at h1
    have h2 : 0 < s.data.toList.length := by
      cases hl : s.data.toList with
      | nil => rw [hl] at h1; simp at h1
      | cons a l => simp
    have h3 : s.data.toList.length ≤ 30 := by have := h.2; simp; omega
    unfold named
    rw [decide_eq_true h2, decide_eq_true h3]; simp
end Go.Proofs.YtddehjgmmeoboaaDoor
