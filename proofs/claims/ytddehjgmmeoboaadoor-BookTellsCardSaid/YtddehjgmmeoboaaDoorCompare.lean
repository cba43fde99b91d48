/- strings.Compare, and what it says of the order of names. -/
import Derived.Test.YtddehjgmmeoboaaDoorConCells
import Derived.Lib.Bytealg
namespace Go.Proofs.YtddehjgmmeoboaaDoor
open Go.RowKit
set_option maxRecDepth 8000

theorem cmp_less : ∀ a b : List UInt8, Lib.compareBytes a b = if Bk.less a b = true then -1 else if Bk.less b a = true then 1 else 0
  | [], [] => rfl
  | [], _ :: _ => rfl
  | _ :: _, [] => rfl
  | a :: l, b :: m => by
    unfold Lib.compareBytes Bk.less
    by_cases h : a = b
    · subst h; simp [UInt8.lt_irrefl, cmp_less l m]
    · have h' : ¬ b = a := fun e => h e.symm
      rw [if_neg h, if_neg h']
      by_cases h1 : a < b
      · have h2 : a.toNat < b.toNat := UInt8.lt_iff_toNat_lt.1 h1
        simp [h1, h2]
      · have h2 : ¬ a.toNat < b.toNat := fun e => h1 (UInt8.lt_iff_toNat_lt.2 e)
        have h3 : b < a := UInt8.lt_of_le_of_ne (UInt8.not_lt.1 h1) (Ne.symm h)
        have h4 : b.toNat < a.toNat := UInt8.lt_iff_toNat_lt.1 h3
        simp [h1, h2, h3, h4]

theorem compare_any (s t : ByteArray) (w : World) : Calls Tryd.prog 72 #[.string s, .string t] w fun e w' => e = .returned (.int .i64 (Lib.compareBytes s.data.toList t.data.toList)) ∧ w' = w := by
  have h1 := @run_callFunc_extern Tryd.prog 151 _ Extern.BytealgCompare.compare Tryd.func151 (by kernel_rfl) (by kernel_rfl) (by kernel_rfl) (by kernel_rfl)
  have h2 := fun W => Lib.run_compareString (P := Tryd.prog) s t W
  have h3 : ∀ W : World, Calls Tryd.prog 124 #[.string s, .string t] W fun e w' => e = .returned (.int .i64 (Lib.compareBytes s.data.toList t.data.toList)) ∧ W = w' := by
    intro W
    go_enter Tryd.func124, Tryd.ntmps124
    go_wp2
    go_ret
    exact ⟨rfl, rfl⟩
  clear h1 h2
  have H3 := Lib.hid h3; clear h3
  go_enter Tryd.func72, Tryd.ntmps72
  go_wp2_with fail
  refine (H3.out _).mono ?_
  rintro e w' ⟨rfl, rfl⟩
  go_wp2_with fail
  go_ret
  exact ⟨rfl, rfl⟩
end Go.Proofs.YtddehjgmmeoboaaDoor
