/- For TopRows: a slice of notes, opened. -/
import Derived.Test.YtddehjgmmeoboaaTopLib
import Derived.ProofKit
import Derived.OpenShut
import Derived.Deep.Slices
import Derived.Deep.Fields
namespace Go.Proofs.Ytddehjgmmeoboaa
open Go.ChangeShapes Go.WideShapes Go.ChangeAt Go.RowKit Go.Deep

theorem Try.cellsNote : Try.prog.cellsOf 25 = 34 := by kernel_rfl
theorem Try.cellsDig : Try.prog.cellsOf 23 = 32 := by kernel_rfl
theorem Try.cellsU8 : Try.prog.cellsOf 5 = 1 := by kernel_rfl
theorem Try.cellsStr : Try.prog.cellsOf 9 = 1 := by kernel_rfl
theorem Try.cellsInt : Try.prog.cellsOf 3 = 1 := by kernel_rfl
theorem Try.bytesNote : Try.prog.bytesOf 25 = 56 := by kernel_rfl

theorem bytes_of (ks : List Value) (h : ∀ v ∈ ks, ∃ n : Int, v = .int .u8 n ∧ (Lit.int .u8 n).wf = true) : ∃ K : List UInt8, ks = K.map B := by
  induction ks with
  | nil => exact ⟨[], rfl⟩
  | cons v ks ih =>
    obtain ⟨K, rfl⟩ := ih fun u hu => h u (List.mem_cons_of_mem _ hu)
    obtain ⟨n, rfl, hw⟩ := h v (List.mem_cons_self ..)
    have hb : 0 ≤ n ∧ n ≤ 255 := by
      simp only [Lit.wf, Bool.and_eq_true, decide_eq_true_eq] at hw
      exact hw
    refine ⟨UInt8.ofNat n.toNat :: K, ?_⟩
    rw [List.map_cons]
    congr 1
    unfold B
    congr 1
    rw [UInt8.toNat_ofNat']
    omega

section
variable {H : Type} {enc : TypeId × Value → H} {W : World} {base : Nat} {spare : Nat → Bool} {held : Bool}
theorem note_of_trod {fuel : Nat} {cs : List Value} {x : DataW H × List MemPlace} (h : DataW.trod enc Try.prog W base spare held fuel 25 cs = some x) : ∃ y : NoteV, cs = y.cells ∧ y.K.length = 32 ∧ y.t ≤ 9223372036854775807 := by
  obtain ⟨xs, n, _, _, hl, hxs, hf⟩ := DataW.trod_struct Try.underlying25 h
  rw [Try.cellsNote] at hl
  have h3 : xs.length = 3 := hxs
  have f0 : DataW.trod enc Try.prog W base spare held n 9 ((cs.drop 0).take (Try.prog.cellsOf 9)) = xs[0]? := hf 0 _ rfl
  have f1 : DataW.trod enc Try.prog W base spare held n 23 ((cs.drop 1).take (Try.prog.cellsOf 23)) = xs[1]? := hf 1 _ rfl
  have f2 : DataW.trod enc Try.prog W base spare held n 3 ((cs.drop 33).take (Try.prog.cellsOf 3)) = xs[2]? := hf 2 _ rfl
  rw [List.getElem?_eq_getElem (by omega)] at f0 f1 f2
  obtain ⟨s, e0, _, _⟩ := DataW.trod_string Try.underlying9 f0
  obtain ⟨ys, m, _, _, hl1, hys, ha⟩ := DataW.trod_array Try.underlying23 f1
  obtain ⟨t, e2, _, hw⟩ := DataW.trod_int Try.underlying3 f2
  clear hf f0 f1 f2
  rw [Try.cellsStr] at e0
  rw [Try.cellsInt] at e2
  rw [Try.cellsDig] at hl1 ha
  rw [Try.cellsU8] at ha
  simp only [List.drop_zero] at e0
  have hks : ∀ v ∈ (cs.drop 1).take 32, ∃ n : Int, v = .int .u8 n ∧ (Lit.int .u8 n).wf = true := by
    intro v hv
    obtain ⟨j, hj, rfl⟩ := List.mem_iff_getElem.1 hv
    have hj2 : j < 32 := by omega
    have hb := ha j hj2
    rw [List.getElem?_eq_getElem (by omega)] at hb
    obtain ⟨b, e, _, hwb⟩ := DataW.trod_int Try.underlying5 hb
    rw [Nat.mul_one, take1_drop _ j undef hj, List.getD_eq_getElem?_getD, List.getElem?_eq_getElem hj] at e
    exact ⟨b, by simpa using e, hwb⟩
  obtain ⟨K, hK⟩ := bytes_of _ hks
  have hKl : K.length = 32 := by
    have := congrArg List.length hK
    rw [List.length_map] at this; omega
  refine ⟨⟨s, K, t⟩, ?_, hKl, ?_⟩
  · show cs = .string s :: (K.map B ++ [.int .i64 t])
    rw [← hK, ← e2]
    have e3 : (cs.drop 33).take 1 = cs.drop 33 := List.take_of_length_le (by rw [List.length_drop]; omega)
    rw [e3]
    have e4 : (cs.drop 1).take 32 ++ cs.drop 33 = cs.drop 1 := by
      have := List.take_append_drop 32 (cs.drop 1)
      rw [List.drop_drop] at this; exact this
    rw [e4]
    have e5 := List.take_append_drop 1 cs
    rw [e0] at e5
    exact e5.symm
  · simp only [Lit.wf, Bool.and_eq_true, decide_eq_true_eq] at hw
    exact hw.2

instance : Inhabited NoteV := ⟨NoteV.z⟩
theorem open_notes {fuel : Nat} {cs : List Value} {x : DataW H × List MemPlace} (h : DataW.trod enc Try.prog W base (fun _ => true) held fuel 35 cs = some x) :
    (cs = [.slice none 0 0] ∧ x = (.nil, [])) ∨
    ∃ (a : Addr) (l c : Nat) (ns : List NoteV) (E S : List (DataW H)) (Pl : List MemPlace), cs = [.slice (some a) l c] ∧ l ≤ c ∧ c ≤ maxLen ∧ x = (.slice E S, Pl) ∧ E.length + S.length = c ∧ RdNotes W (some a) l c ns := by
  rcases open_slice Try.underlying35 h with h0 | ⟨a, l, c, m, n, D, Pl, rfl, _, hl, hm, rfl, rfl, hx⟩
  · exact .inl h0
  right
  rw [Try.cellsNote] at hx
  obtain ⟨X, hX⟩ := choose_lt (α := NoteV) (n := m) (p := fun i y => W.cells? base (a.add (i * 34)) 34 = some y.cells ∧ y.K.length = 32 ∧ y.t ≤ 9223372036854775807) (fun i hi => by
    obtain ⟨cs', h1, h2⟩ := hx i hi
    obtain ⟨y, rfl, h3, h4⟩ := note_of_trod h2
    exact ⟨y, h1, h3, h4⟩)
  refine ⟨a, l, m, (List.range l).map X, _, _, _, rfl, hl, hm, rfl, by simp; omega, ⟨by simp, ?_, ?_⟩⟩
  · intro y hy
    obtain ⟨i, hi, rfl⟩ := List.mem_map.1 hy
    have := hX i (by have := List.mem_range.1 hi; omega)
    exact this.2
  · intro i hi
    obtain ⟨h1, h2, h3⟩ := hX i (by omega)
    obtain ⟨_, _, h4⟩ := World.cells?_some h1
    have e : ((List.range l).map X).getD i NoteV.z = X i := by
      rw [List.getD_eq_getElem?_getD, List.getElem?_map, List.getElem?_range hi]; rfl
    have h5 := h4 0 (by omega)
    rw [List.getElem?_eq_getElem (by rw [noteC_len _ _ h2]; omega)] at h5
    have h6 := World.block_lt_of_cell? _ _ h5
    rw [addr_block, addr_block] at h6
    refine ⟨a, rfl, h6, fun j v hv => ?_⟩
    rw [e] at hv
    have hj : j < 34 := by
      have := (List.getElem?_eq_some_iff.1 hv).1
      rwa [noteC_len _ _ h2] at this
    rw [h4 j hj]; exact hv
end
end Go.Proofs.Ytddehjgmmeoboaa
