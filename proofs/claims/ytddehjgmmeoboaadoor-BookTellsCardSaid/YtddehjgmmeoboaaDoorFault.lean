/- What is wrong with a book, in plain Lean. -/
import Derived.Test.YtddehjgmmeoboaaDoorBooks
import Derived.Test.YtddehjgmmeoboaaDoorBk
namespace Go.Proofs.YtddehjgmmeoboaaDoor

/-- Is a key nothing? -/
def Con.zero (x : Con) : Bool := x.K == List.replicate 32 0
/-- What is wrong with place i of a book; 0: nothing. -/
def faultAt (xs : List Con) (i : Nat) : Int :=
  if named (xs.getD i Con.z).s.data.toList = false then 1
  else if 0 < i ∧ Bk.less (xs.getD (i - 1) Con.z).s.data.toList (xs.getD i Con.z).s.data.toList = false then 7
  else if (xs.getD i Con.z).l < 1 ∨ 4 < (xs.getD i Con.z).l then 2
  else if (xs.getD i Con.z).zero ≠ decide ((xs.getD i Con.z).l = 2 ∨ (xs.getD i Con.z).l = 4) then 9
  else 0
/-- The first fault from place i on, k places. -/
def faultFrom (xs : List Con) : Nat → Nat → Int
  | _, 0 => 0
  | i, k + 1 => if faultAt xs i = 0 then faultFrom xs (i + 1) k else faultAt xs i
def fault (xs : List Con) : Int := if 40 < xs.length then 4 else faultFrom xs 0 xs.length
end Go.Proofs.YtddehjgmmeoboaaDoor
