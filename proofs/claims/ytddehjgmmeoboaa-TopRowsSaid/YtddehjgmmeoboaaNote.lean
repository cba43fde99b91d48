/- The walks of note.Write and note.Read. -/
import Derived.Test.YtddehjgmmeoboaaNamed
import Derived.Test.YtddehjgmmeoboaaOctet
import Derived.Test.YtddehjgmmeoboaaConcat
import Derived.Lib.ConvBytes
import Derived.Deep.RegionHeld3
namespace Go.Proofs.Ytddehjgmmeoboaa
open Go.RowKit

/-- The cells of a note. -/
def noteC (s : ByteArray) (K : List UInt8) (t : Int) : Array Value := (.string s :: (K.map B ++ [.int .i64 t])).toArray
theorem noteC_0 (s : ByteArray) (K : List UInt8) (t : Int) : (noteC s K t)[0]? = some (.string s) := by simp [noteC]
theorem noteC_33 (s : ByteArray) {K : List UInt8} (t : Int) (h : K.length = 32) : (noteC s K t)[33]? = some (.int .i64 t) := by
  simp [noteC, h]
theorem noteC_key (s : ByteArray) {K : List UInt8} (t : Int) (h : K.length = 32) {j : Nat} (hj : j < 32) : (noteC s K t)[1 + j]? = some (B (K.getD j 0)) := by
  have e : (1 + j) = j + 1 := by omega
  simp [noteC, e, List.getElem?_append, h, hj, List.getD_eq_getElem?_getD]
theorem noteC_size (s : ByteArray) {K : List UInt8} (t : Int) (h : K.length = 32) : (noteC s K t).size = 34 := by simp [noteC, h]

set_option maxHeartbeats 1000000 in
theorem write_good (s : ByteArray) (K : List UInt8) (m : Nat) (w : World) (hs : named s.data.toList = true) (hK : K.length = 32) (hm : m < 4294967296) :
    Calls Try.prog 5 #[.agg (noteC s K m)] w fun e w' => ∃ v, e = .returned (.tuple #[v, .nilIface]) ∧ w'.ownsRow w.heap.size 5 1 v (37 + s.size) ((UInt8.ofNat s.size :: (s.data.toList ++ (K ++ put4 m))).map B) ∧ Below w.heap.size w w' := by
  have hsz : s.size ≤ 30 := by
    unfold named at hs; simp at hs; simpa using hs.1.2
  have h0 := noteC_0 s K m
  have h33 := noteC_33 s (m : Int) hK
  have HK := Lib.hid hK; clear hK
  have kc := fun W => Lib.run_convert_string_bytes (P := Try.prog) W 9 26 5 s Try.underlying9 Try.underlying26 Try.underlying5
  go_enter Try.func5, Try.ntmps5
  go_wp2_with fail
  refine (named_any s _).mono ?_
  rintro e w1 ⟨he, hb1⟩
  rw [hs] at he
  subst he
  have c0 : w1.cell? ⟨w.heap.size, 0, none⟩ = some (.string s) := (hb1.cell (by simp)).trans (by simp [h0])
  have c33 : w1.cell? ⟨w.heap.size, 33, none⟩ = some (.int .i64 m) := (hb1.cell (by simp)).trans (by simp [h33])
  have HS := Lib.hid hs; clear hs
  go_wp2_with fail
  refine (put_good m hm _).mono ?_
  rintro e w2 ⟨vt, rfl, hownt, hb2⟩
  obtain ⟨At, ct, rfl, hrt⟩ := own_rd hownt
  have d0 : w2.cell? ⟨w.heap.size, 0, none⟩ = some (.string s) := (hb2.cell (by have := hb1.size; simp at this; simp; omega)).trans c0
  clear c0 c33
  go_wp2_with fail
  have hlt : w.heap.size < w2.heap.size := by
    have h1 := hb1.size
    have h2 := hb2.size
    simp only [World.size_alloc] at h1
    omega
  have kb : (Lib.bytesWorld w2.drew 5 s).cell? ⟨w.heap.size, 0, none⟩ = some (.string s) := (Lib.bytesWorld_old w2.drew 5 s ⟨w.heap.size, 0, none⟩ hlt).trans d0
  have kz := fun (W : World) => Lib.bytesWorld_size W 5 s
  have hlen : IntKind.u8.wrap (s.size : Int) = ((UInt8.ofNat s.size).toNat : Int) := by
    rw [IntKind.wrap_u8', UInt8.toNat_ofNat']; omega
  have hkey : w2.heap[w.heap.size]? = some (.cells (noteC s K m) 25 (0, 0)) := by
    have h1 := hb1.size
    simp only [World.size_alloc] at h1
    rw [hb2.block w.heap.size (by omega), hb1.block w.heap.size (by simp)]
    exact heap_alloc_new w _
  have rk : Rd w2 1 (some ⟨w.heap.size, 1, none⟩) 32 32 (K.map B) := rd_row hkey _ (by simpa using HK.out) (by unfold maxLen; omega) (fun j u hu => by
    have hj : j < K.length := by have := (List.getElem?_eq_some_iff.1 hu).1; simpa using this
    rw [noteC_key s _ HK.out (by have := HK.out; omega), ← hu, List.getElem?_map, List.getElem?_eq_getElem hj, List.getD_eq_getElem?_getD, List.getElem?_eq_getElem hj]; rfl)
  clear hkey
  have HL := Lib.hid hlen; clear hlen
  have htot : tot [[UInt8.ofNat s.size], s.data.toList, K, put4 m] 4 ≤ 70368744177664 := by
    have := HK.out
    simp [tot, put4]; omega
  have HT := Lib.hid htot; clear htot
  have HRK := Lib.hid rk; clear rk
  have HRT := Lib.hid hrt; clear hrt
  have hA : RdM ((Lib.bytesWorld (w2.alloc (.cells #[.int .u8 (IntKind.u8.wrap s.size)] 5)).drew 5 s).alloc (.cells #[.slice (some ⟨w2.heap.size, 0, none⟩) 1 1, .slice (some ⟨w2.heap.size + 1, 0, none⟩) s.size (grownCap (w2.alloc (.cells #[.int .u8 (IntKind.u8.wrap s.size)] 5)).drew s.size 0 5), .slice (some ⟨w.heap.size, 1, none⟩) 32 32, .slice At 4 ct] 26)) (some ⟨w2.heap.size + 1 + 1, 0, none⟩) 4 4 (([[UInt8.ofNat s.size], s.data.toList, K, put4 m] : List (List UInt8)).map (·.map B)) := by
    rw [HL.out]
    have b1 : Below w2.heap.size w2 (w2.alloc (.cells #[B (UInt8.ofNat s.size)] 5)).drew := ((Below.refl _ _).alloc (Nat.le_refl _) _).drew
    have b2 := below_bytes b1 (by simp) 5 s
    have b3 := below_bytes (Below.refl (w2.heap.size + 1) (w2.alloc (.cells #[B (UInt8.ofNat s.size)] 5)).drew) (by simp) 5 s
    have e0 : (w2.alloc (.cells #[B (UInt8.ofNat s.size)] 5)).drew.heap.size = w2.heap.size + 1 := World.size_alloc _ _
    have hrb := rd_bytes (w2.alloc (.cells #[B (UInt8.ofNat s.size)] 5)).drew 5 s (by omega)
    rw [e0] at hrb
    exact rdm4 (by rw [Lib.bytesWorld_size, e0]) _ ((rd_cell1 w2 _ _).drew.below b3 (by rw [e0]; exact Nat.le_refl _)) hrb (HRK.out.below' b2) (HRT.out.below' b2)
  have HA := Lib.hid hA; clear hA
  have hB : RdM (((Lib.bytesWorld w2.drew 5 s).alloc (.cells #[.int .u8 (IntKind.u8.wrap s.size)] 5)).alloc (.cells #[.slice (some ⟨w2.heap.size + 1, 0, none⟩) 1 1, .slice (some ⟨w2.heap.size, 0, none⟩) s.size (grownCap w2.drew s.size 0 5), .slice (some ⟨w.heap.size, 1, none⟩) 32 32, .slice At 4 ct] 26)) (some ⟨w2.heap.size + 1 + 1, 0, none⟩) 4 4 (([[UInt8.ofNat s.size], s.data.toList, K, put4 m] : List (List UInt8)).map (·.map B)) := by
    rw [HL.out]
    have b0 : Below w2.heap.size w2 w2.drew := (Below.refl _ _).drew
    have b2 := below_bytes b0 (Nat.le_refl _) 5 s
    have hz := Lib.bytesWorld_size w2.drew 5 s
    have e1 : (Lib.bytesWorld w2.drew 5 s).heap.size = w2.heap.size + 1 := hz
    have b4 := (Below.refl (w2.heap.size + 1) (Lib.bytesWorld w2.drew 5 s)).alloc (by omega) (.cells #[B (UInt8.ofNat s.size)] 5)
    have b3 := b2.alloc (by omega) (.cells #[B (UInt8.ofNat s.size)] 5)
    have hc := rd_cell1 (Lib.bytesWorld w2.drew 5 s) (B (UInt8.ofNat s.size)) 5
    rw [e1] at hc
    exact rdm4 (by rw [World.size_alloc, e1]) _ hc ((rd_bytes w2.drew 5 s (by omega)).below b4 (by omega)) (HRK.out.below' b3) (HRT.out.below' b3)
  have HB := Lib.hid hB; clear hB
  have hbw : Below w.heap.size w w2 := by
    have h1 := hb1.size
    simp only [World.size_alloc] at h1
    exact (((Below.refl _ _).alloc (Nat.le_refl _) _).trans (hb1.mono (by simp))).trans (hb2.mono (by omega))
  have HbA : Hid (Below w.heap.size w ((Lib.bytesWorld (w2.alloc (.cells #[.int .u8 (IntKind.u8.wrap s.size)] 5)).drew 5 s).alloc (.cells #[.slice (some ⟨w2.heap.size, 0, none⟩) 1 1, .slice (some ⟨w2.heap.size + 1, 0, none⟩) s.size (grownCap (w2.alloc (.cells #[.int .u8 (IntKind.u8.wrap s.size)] 5)).drew s.size 0 5), .slice (some ⟨w.heap.size, 1, none⟩) 32 32, .slice At 4 ct] 26))) := by
    have b1 := (hbw.alloc (by omega) (.cells #[.int .u8 (IntKind.u8.wrap s.size)] 5)).drew
    have e0 : (w2.alloc (.cells #[.int .u8 (IntKind.u8.wrap s.size)] 5)).drew.heap.size = w2.heap.size + 1 := World.size_alloc _ _
    exact (below_bytes b1 (by rw [e0]; omega) _ _).alloc (by rw [Lib.bytesWorld_size, e0]; omega) _
  have HbB : Hid (Below w.heap.size w (((Lib.bytesWorld w2.drew 5 s).alloc (.cells #[.int .u8 (IntKind.u8.wrap s.size)] 5)).alloc (.cells #[.slice (some ⟨w2.heap.size + 1, 0, none⟩) 1 1, .slice (some ⟨w2.heap.size, 0, none⟩) s.size (grownCap w2.drew s.size 0 5), .slice (some ⟨w.heap.size, 1, none⟩) 32 32, .slice At 4 ct] 26))) := by
    have e1 : (Lib.bytesWorld w2.drew 5 s).heap.size = w2.heap.size + 1 := Lib.bytesWorld_size _ _ _
    have b1 := below_bytes hbw.drew (B0 := w.heap.size) (W := w2.drew) (by show w.heap.size ≤ w2.heap.size; omega) 5 s
    have b2 := b1.alloc (by omega) (.cells #[.int .u8 (IntKind.u8.wrap s.size)] 5)
    exact b2.alloc (by rw [World.size_alloc]; omega) _
  have HE1 : Hid (([[UInt8.ofNat s.size], s.data.toList, K, put4 m] : List (List UInt8)).flatten.length = 37 + s.size) := by
    have := HK.out
    show _ = _
    simp [put4]; omega
  have HE2 : Hid (([[UInt8.ofNat s.size], s.data.toList, K, put4 m] : List (List UInt8)).flatten = UInt8.ofNat s.size :: (s.data.toList ++ (K ++ put4 m))) := by
    show _ = _
    simp
  clear hbw hownt
  go_region_with (first | (go_at_call 12; refine (concat_any _ _ 4 4 _ rfl HT.out HA.out).mono ?_; rintro e w3 ⟨v3, rfl, hown3, hb3⟩; rw [HE1.out, HE2.out] at hown3; have hfin := own_fin HbA.out hb3 hown3; clear hown3 hb3) | (go_at_call 12; refine (concat_any _ _ 4 4 _ rfl HT.out HB.out).mono ?_; rintro e w3 ⟨v3, rfl, hown3, hb3⟩; rw [HE1.out, HE2.out] at hown3; have hfin := own_fin HbB.out hb3 hown3; clear hown3 hb3))
  all_goals go_wp2
  all_goals go_ret2
  all_goals exact ⟨_, rfl, hfin⟩

end Go.Proofs.Ytddehjgmmeoboaa
