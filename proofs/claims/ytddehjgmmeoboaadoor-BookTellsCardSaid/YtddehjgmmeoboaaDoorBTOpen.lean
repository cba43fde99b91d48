/- Arguments opened: digests, slices of contacts. -/
import Derived.Test.YtddehjgmmeoboaaDoorConCells
import Derived.ProofKit
import Derived.OpenShut
import Derived.Deep.Slices
import Derived.Deep.Fields
namespace Go.Proofs.YtddehjgmmeoboaaDoor
open Go.ChangeShapes Go.WideShapes Go.ChangeAt Go.RowKit Go.Deep
set_option maxRecDepth 8000

theorem Tryd.cellsCon : Tryd.prog.cellsOf 59 = 34 := by kernel_rfl
theorem Tryd.cellsDig : Tryd.prog.cellsOf 23 = 32 := by kernel_rfl
theorem Tryd.cellsU8 : Tryd.prog.cellsOf 5 = 1 := by kernel_rfl
theorem Tryd.cellsStr : Tryd.prog.cellsOf 9 = 1 := by kernel_rfl
theorem Tryd.cellsInt : Tryd.prog.cellsOf 3 = 1 := by kernel_rfl

theorem bytes_of (ks : List Value) (h : ∀ v ∈ ks, ∃ n : Int, v = .int .u8 n ∧ (Lit.int .u8 n).wf = true) : ∃ K : List UInt8, ks = K.map B := by
  induction ks with
  | nil => exact ⟨[], rfl⟩
  | cons v ks ih =>
    obtain ⟨K, rfl⟩ := ih fun u hu => h u (List.mem_cons_of_mem _ hu)
    obtain ⟨n, rfl, hw⟩ := h v (List.mem_cons_self ..)
    have hb : 0 ≤ n ∧ n ≤ 255 := by
      simp only [Lit.wf, Bool.and_eq_true, decide_eq_true_eq] at hw
      exact hw
    refine ⟨UInt8.ofNat n.toNat :: K, ?_⟩
    rw [List.map_cons]
    congr 1
    unfold B
    congr 1
    rw [UInt8.toNat_ofNat']
    omega

section
variable {H : Type} {enc : TypeId × Value → H} {W : World} {base : Nat} {spare : Nat → Bool} {held : Bool}
theorem dig_of_trod {fuel : Nat} {cs : List Value} {x : DataW H × List MemPlace} (h : DataW.trod enc Tryd.prog W base spare held fuel 23 cs = some x) : ∃ K : List UInt8, cs = K.map B ∧ K.length = 32 := by
  obtain ⟨ys, m, _, _, hl1, hys, ha⟩ := DataW.trod_array Tryd.underlying23 h
  rw [Tryd.cellsDig] at hl1
  rw [Tryd.cellsU8] at ha
  have hks : ∀ v ∈ cs, ∃ n : Int, v = .int .u8 n ∧ (Lit.int .u8 n).wf = true := by
    intro v hv
    obtain ⟨j, hj, rfl⟩ := List.mem_iff_getElem.1 hv
    have hj2 : j < 32 := by omega
    have hb := ha j hj2
    rw [List.getElem?_eq_getElem (by omega)] at hb
    obtain ⟨b, e, _, hwb⟩ := DataW.trod_int Tryd.underlying5 hb
    rw [Nat.mul_one, take1_drop _ j undef hj, List.getD_eq_getElem?_getD, List.getElem?_eq_getElem hj] at e
    exact ⟨b, by simpa using e, hwb⟩
  obtain ⟨K, hK⟩ := bytes_of _ hks
  exact ⟨K, hK, by rw [← hl1, hK, List.length_map]⟩
theorem open_dig {r : Reach} {b0 : Nat} {v : Value} {d : DataW H} {ps : List MemPlace} (hval : Value.okWide Tryd.prog W r b0 23 v) (hd : DataW.Trod enc Tryd.prog W base spare held 23 v d ps) :
    ∃ K : List UInt8, v = .agg (K.map B).toArray ∧ K.length = 32 := by
  have hv : ∃ cs, v = .agg cs := by
    simp only [Value.okWide, Tryd.underlying23] at hval
    obtain ⟨cs, h1, _, _⟩ := hval
    exact ⟨cs, h1⟩
  obtain ⟨cs, rfl⟩ := hv
  obtain ⟨fuel, hf⟩ := hd
  obtain ⟨K, h1, h2⟩ := dig_of_trod hf
  exact ⟨K, by rw [← h1]; simp [Value.cells], h2⟩
theorem con_of_trod {fuel : Nat} {cs : List Value} {x : DataW H × List MemPlace} (h : DataW.trod enc Tryd.prog W base spare held fuel 59 cs = some x) : ∃ y : Con, cs = y.c ∧ y.K.length = 32 ∧ y.s.size ≤ maxLen := by
  obtain ⟨xs, n, _, _, hl, hxs, hf⟩ := DataW.trod_struct Tryd.underlying59 h
  rw [Tryd.cellsCon] at hl
  have h3 : xs.length = 3 := hxs
  have f0 : DataW.trod enc Tryd.prog W base spare held n 9 ((cs.drop 0).take (Tryd.prog.cellsOf 9)) = xs[0]? := hf 0 _ rfl
  have f1 : DataW.trod enc Tryd.prog W base spare held n 23 ((cs.drop 1).take (Tryd.prog.cellsOf 23)) = xs[1]? := hf 1 _ rfl
  have f2 : DataW.trod enc Tryd.prog W base spare held n 3 ((cs.drop 33).take (Tryd.prog.cellsOf 3)) = xs[2]? := hf 2 _ rfl
  rw [List.getElem?_eq_getElem (by omega)] at f0 f1 f2
  obtain ⟨s, e0, _, hs⟩ := DataW.trod_string Tryd.underlying9 f0
  obtain ⟨K, hK, hKl⟩ := dig_of_trod f1
  obtain ⟨t, e2, _, hw⟩ := DataW.trod_int Tryd.underlying3 f2
  clear hf f0 f1 f2
  rw [Tryd.cellsStr] at e0
  rw [Tryd.cellsInt] at e2
  rw [Tryd.cellsDig] at hK
  simp only [List.drop_zero] at e0
  refine ⟨⟨s, K, t⟩, ?_, hKl, hs⟩
  show cs = .string s :: (K.map B ++ [.int .i64 t])
  rw [← hK, ← e2]
  have e3 : (cs.drop 33).take 1 = cs.drop 33 := List.take_of_length_le (by rw [List.length_drop]; omega)
  rw [e3]
  have e4 : (cs.drop 1).take 32 ++ cs.drop 33 = cs.drop 1 := by
    have := List.take_append_drop 32 (cs.drop 1)
    rw [List.drop_drop] at this; exact this
  rw [e4]
  have e5 := List.take_append_drop 1 cs
  rw [e0] at e5
  exact e5.symm
instance : Inhabited Con := ⟨Con.z⟩
theorem open_cons {v : Value} {d : DataW H} {ps : List MemPlace} {A : Option Addr} {n c : Nat} (hv : v = .slice A n c) (hd : DataW.Trod enc Tryd.prog W base (fun _ => true) held 48 v d ps) :
    ∃ xs : List Con, RdCons W A n xs ∧ (n ≤ c ∧ c ≤ maxLen ∧ (A = none → c = 0)) ∧ ∀ x ∈ xs, x.s.size ≤ maxLen := by
  obtain ⟨fuel, hf⟩ := hd
  subst hv
  rcases open_slice Tryd.underlying48 hf with ⟨hcs, _⟩ | ⟨a, l, c', m, n', D, Pl, hcs, _, hl, hm, rfl, _, hx⟩
  · simp [Value.cells] at hcs
    obtain ⟨rfl, rfl, rfl⟩ := hcs
    exact ⟨[], ⟨rfl, by simp, fun i hi => absurd hi (by omega)⟩, ⟨Nat.le_refl _, Nat.zero_le _, fun _ => rfl⟩, by simp⟩
  · simp [Value.cells] at hcs
    obtain ⟨rfl, rfl, rfl⟩ := hcs
    rw [Tryd.cellsCon] at hx
    obtain ⟨X, hX⟩ := choose_lt (α := Con) (n := c) (p := fun i y => W.cells? base (a.add (i * 34)) 34 = some y.c ∧ y.K.length = 32 ∧ y.s.size ≤ maxLen) (fun i hi => by
      obtain ⟨cs', h1, h2⟩ := hx i hi
      obtain ⟨y, rfl, h3, h4⟩ := con_of_trod h2
      exact ⟨y, h1, h3, h4⟩)
    refine ⟨(List.range n).map X, ⟨by simp, ?_, ?_⟩, ⟨hl, hm, fun h => by cases h⟩, ?_⟩
    · intro y hy
      obtain ⟨i, hi, rfl⟩ := List.mem_map.1 hy
      exact (hX i (by have := List.mem_range.1 hi; omega)).2.1
    · intro i hi
      obtain ⟨h1, h2, h3⟩ := hX i (by omega)
      obtain ⟨_, _, h4⟩ := World.cells?_some h1
      have e : ((List.range n).map X).getD i Con.z = X i := by
        rw [List.getD_eq_getElem?_getD, List.getElem?_map, List.getElem?_range hi]; rfl
      have h5 := h4 0 (by omega)
      rw [List.getElem?_eq_getElem (by rw [Con.len _ h2]; omega)] at h5
      have h6 := World.block_lt_of_cell? _ _ h5
      rw [addr_block, addr_block] at h6
      refine ⟨a, rfl, h6, fun j v hv => ?_⟩
      rw [e] at hv
      have hj : j < 34 := by
        have := (List.getElem?_eq_some_iff.1 hv).1
        rwa [Con.len _ h2] at this
      rw [h4 j hj]; exact hv
    · intro y hy
      obtain ⟨i, hi, rfl⟩ := List.mem_map.1 hy
      exact (hX i (by have := List.mem_range.1 hi; omega)).2.2
end
end Go.Proofs.YtddehjgmmeoboaaDoor
