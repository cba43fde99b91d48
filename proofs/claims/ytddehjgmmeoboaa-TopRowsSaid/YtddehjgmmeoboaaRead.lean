/- The walk of note.Read at the bytes of a note. -/
import Derived.Test.YtddehjgmmeoboaaNote
import Derived.Test.YtddehjgmmeoboaaBlk
namespace Go.Proofs.Ytddehjgmmeoboaa
open Go.RowKit

def noteB (s K : List UInt8) (m : Nat) : List UInt8 := UInt8.ofNat s.length :: (s ++ (K ++ put4 m))
theorem noteB_len (s : List UInt8) {K : List UInt8} (m : Nat) (h : K.length = 32) : (noteB s K m).length = 37 + s.length := by
  simp [noteB, put4, h]; omega

def noteZ : List Value := (noteC ByteArray.empty (List.replicate 32 0) 0).toList
theorem noteZ_lit : #[Value.string { data := #[] }, Value.int IntKind.u8 0, Value.int IntKind.u8 0, Value.int IntKind.u8 0, Value.int IntKind.u8 0, Value.int IntKind.u8 0, Value.int IntKind.u8 0, Value.int IntKind.u8 0, Value.int IntKind.u8 0, Value.int IntKind.u8 0, Value.int IntKind.u8 0, Value.int IntKind.u8 0, Value.int IntKind.u8 0, Value.int IntKind.u8 0, Value.int IntKind.u8 0, Value.int IntKind.u8 0, Value.int IntKind.u8 0, Value.int IntKind.u8 0, Value.int IntKind.u8 0, Value.int IntKind.u8 0, Value.int IntKind.u8 0, Value.int IntKind.u8 0, Value.int IntKind.u8 0, Value.int IntKind.u8 0, Value.int IntKind.u8 0, Value.int IntKind.u8 0, Value.int IntKind.u8 0, Value.int IntKind.u8 0, Value.int IntKind.u8 0, Value.int IntKind.u8 0, Value.int IntKind.u8 0, Value.int IntKind.u8 0, Value.int IntKind.u8 0, Value.int IntKind.i64 0] = noteZ.toArray := rfl
theorem noteZ_len : noteZ.length = 34 := rfl

theorem noteC_one (s : ByteArray) (K : List UInt8) (t : Int) : ∀ v ∈ (noteC s K t).toList, v.oneCell' = true := by
  intro v hv
  simp only [noteC, List.mem_cons, List.mem_append, List.mem_map] at hv
  rcases hv with rfl | ⟨b, _, rfl⟩ | rfl | h
  · rfl
  · rfl
  · rfl
  · cases h
theorem noteC_len (s : ByteArray) {K : List UInt8} (t : Int) (h : K.length = 32) : (noteC s K t).toList.length = 34 := by simp [noteC, h]
theorem noteC_spl (s : ByteArray) {K : List UInt8} (t : Int) (h : K.length = 32) (rest : List UInt8) : spl (noteC s (List.replicate 32 0) t).toList 1 (((K ++ rest).map B).take 32) = (noteC s K t).toList := by
  have e : ((K ++ rest).map B).take 32 = K.map B := by
    rw [List.map_append, List.take_append_of_le_length (by simp [h]), List.take_of_length_le (by simp [h])]
  rw [e]
  unfold spl noteC
  simp [h]
theorem noteC_set (s : ByteArray) {K : List UInt8} (t u : Int) (h : K.length = 32) : (noteC s K t).toList.set 33 (.int .i64 u) = (noteC s K u).toList := by
  unfold noteC
  simp [h]
theorem Try.infoNote : (Try.prog.info? 25).map (·.size) = some 34 := by kernel_rfl
theorem Try.sizeU8 : (Try.prog.info? 5).map (·.size) = some 1 := by kernel_rfl
theorem numOf_put4 {m : Nat} (h : m < 4294967296) : numOf (put4 m) = m := by
  simp only [numOf, put4, List.foldl_cons, List.foldl_nil, UInt8.toNat_ofNat']
  omega

set_option maxHeartbeats 1000000 in
theorem read_good (s K : List UInt8) (m : Nat) (A : Option Addr) (n c : Nat) (w : World) (hs : named s = true) (hK : K.length = 32) (hm : m < 4294967296) (hr : Rd w 1 A n c ((noteB s K m).map B)) :
    Calls Try.prog 6 #[.slice A n c] w fun e w' => e = .returned (.tuple #[.agg (noteC ⟨s.toArray⟩ K m), .nilIface]) ∧ Below w.heap.size w w' := by
  have hlen : n = 37 + s.length := by have := hr.len; rw [List.length_map, noteB_len s m hK] at this; omega
  have hsz : s.length ≤ 30 := by unfold named at hs; simp at hs; exact hs.1.2
  have hs0 : 0 < s.length := by unfold named at hs; simp at hs; exact hs.1.1
  obtain ⟨ad, rfl, hab, hc0⟩ := hr.byte (k := 0) (by omega)
  have hb0 : (noteB s K m).getD 0 0 = UInt8.ofNat s.length := rfl
  rw [hb0] at hc0
  have hn8 : ((UInt8.ofNat s.length).toNat : Int) = (s.length : Int) := by rw [UInt8.toNat_ofNat']; omega
  rw [B, hn8] at hc0
  have hc0' : w.cell? ad = some (.int .u8 s.length) := by simpa [Addr.add] using hc0
  clear hc0 hb0 hn8
  have hcap := hr.cap
  have hlid := Lib.hid hr.lid
  -- the name's bytes
  have hnm : Rd w 1 (some ⟨ad.block, ad.off + 1, none⟩) s.length (c - 1) (s.map B) := by
    have := hr.from_ (k := 1) (m := s.length) (d := c - 1) (by omega) (by omega) (by omega) (by omega)
    have e : (((noteB s K m).map B).drop 1).take s.length = s.map B := by
      simp [noteB]
    rw [e] at this; exact this
  have hrest : Rd w 1 (some (ad.add (1 + s.length))) (37 + s.length - (1 + s.length)) (c - (1 + s.length)) ((K ++ put4 m).map B) := by
    have := hr.from_ (k := 1 + s.length) (m := 36) (d := c - (1 + s.length)) (by omega) (by omega) (by omega) (by omega)
    have e : (((noteB s K m).map B).drop (1 + s.length)).take 36 = (K ++ put4 m).map B := by
      rw [noteB, Nat.add_comm 1, ← List.map_drop, List.drop_succ_cons, List.drop_left, ← List.map_take]
      rw [List.take_of_length_le (by simp [put4, hK])]
    rw [e] at this
    rw [add_pos ad (by omega), show 37 + s.length - (1 + s.length) = 36 from by omega]; exact this
  have hcv : ∀ o : Obj, (convert 26 9 (.slice (some ⟨ad.block, ad.off + 1, none⟩) s.length (c - 1))).run Try.prog (w.alloc o) = .ok (.string ⟨s.toArray⟩) (w.alloc o) := fun o =>
    run_string (hnm.below' ((Below.refl _ _).alloc (Nat.le_refl _) o)) hs0 _ _ _ Try.underlying26 Try.underlying5 Try.underlying9
  have hne : ((37 + (s.length : Int)) != 1 + (s.length : Int) + 36) = false := by rw [bne_eq_false_iff_eq]; omega
  have HS := Lib.hid hs; clear hs
  have HK := Lib.hid hK; clear hK
  generalize hL : s.length = L at *
  have HL := Lib.hid hL; clear hL
  subst hlen
  go_enter Try.func6, Try.ntmps6
  go_wp2_with (first
    | (show wpList _ _ _ (⟨_, Op.store _ (.tmp 4) _, _, _, _, _⟩ :: _) _ _
       go_must (refine store_blk (by rfl) 25 _ _ (by rfl) (w.heap.size + 1) 0 25 noteZ (noteC ⟨s.toArray⟩ (List.replicate 32 0) 0).toList (by rfl) (by rfl) (Blk.at_new _ _ _ _ _ (by simp) (by rfl)) Try.infoNote (noteC_one _ _ _) (by rw [noteC_len _ _ (by rfl), noteZ_len]; omega) ?_)
       intro W2 hB2 hG2
       rw [spl_all _ _ (by rw [noteC_len _ _ (by rfl), noteZ_len])] at hB2
       have hR2 : Blk W2 w.heap.size 25 noteZ := ((Blk.at_new w 25 _ noteZ w.heap.size rfl (by rfl)).alloc _).grown hG2 (by simp)
       have hb2 : Below w.heap.size w W2 := (((Below.refl _ _).alloc (Nat.le_refl _) _).alloc (by simp) _).grown hG2 (by simp; omega) (fun k hk => by cases hk; omega)
       clear hG2
       have hc2 : W2.cell? ad = some (.int .u8 L) := (hb2.cell hab).trans hc0'
       have hrest2 := hrest.below' hb2
       clear hcv hc0' hnm hrest)
    | (show wpList _ _ _ (⟨_, Op.call { callee := Callee.builtin Builtin.copy, args := _, argTypes := _ }, _, _, _, _⟩ :: _) _ _
       go_must (refine copy_blk (by rfl) _ _ _ _ 5 (by rfl) Try.underlying26 Try.sizeU8 (w.heap.size + 1) 1 32 32 25 _ _ (37 + L - (1 + L)) _ _ (by rfl) (by rfl) hB2 hrest2 (by rw [noteC_len _ _ (by rfl)]; omega) (mapB_one _) ?_)
       intro W3 hB3 hG3
       rw [noteC_spl _ _ HK.out] at hB3
       have hR3 := hR2.grown hG3 (by simp)
       have hb3 : Below w.heap.size w W3 := hb2.grown hG3 (by have := hB2.lt; omega) (fun k hk => by cases hk; omega)
       have hrest3 := hrest2.grown_ hG3 (by intro e; injection e with e; rw [addr_block] at e; omega)))
  have hN3 : W3.cell? ⟨w.heap.size + 1, 0, none⟩ = some (.string ⟨s.toArray⟩) := by rw [hB3.cell, Array.getElem?_toList]; exact noteC_0 _ _ _
  have hnum : Rd W3 1 (some ⟨(ad.add (1 + L)).block, (ad.add (1 + L)).off + 32, none⟩) (37 + L - (1 + L) - 32) (c - (1 + L) - 32) ((put4 m).map B) := by
    have := hrest3.from_ (k := 32) (m := 37 + L - (1 + L) - 32) (d := c - (1 + L) - 32) (by omega) (by omega) (by omega) (by omega)
    have e : (((K ++ put4 m).map B).drop 32).take (37 + L - (1 + L) - 32) = (put4 m).map B := by
      have e1 : 37 + L - (1 + L) - 32 = 4 := by omega
      have hk := HK.out
      have e2 : (K.map B).length = 32 := by rw [List.length_map, hk]
      rw [List.map_append, e1, ← e2, List.drop_left, List.take_of_length_le (by simp [put4])]
    rw [e] at this; exact this
  refine (num_any (put4 m) _ _ _ _ (by omega) (by omega) hnum).mono ?_
  rintro e w' ⟨he, rfl⟩
  rw [numOf_put4 hm] at he
  subst he
  clear hnum hrest3 hrest2 hc2
  go_wp2_with fail
  refine (named_any ⟨s.toArray⟩ _).mono ?_
  rintro e W4 ⟨he, hb4⟩
  have hs' : named (ByteArray.data ⟨s.toArray⟩).toList = true := HS.out
  rw [hs'] at he
  subst he
  clear hs'
  have hB4 := hB3.below hb4 hB3.lt
  have hR4 := hR3.below hb4 hR3.lt
  have hb5 : Below w.heap.size w W4 := hb3.trans (hb4.mono hb3.size)
  have hc33 : W4.cell? ⟨w.heap.size + 1, 33, none⟩ = some (.int .i64 0) := by rw [hB4.cell, Array.getElem?_toList]; exact noteC_33 _ _ HK.out
  have hf33 : W4.frozen? ⟨w.heap.size + 1, 33, none⟩ = false := hB4.frozen 33
  have hB5 := hB4.setCell 33 (.int .i64 m)
  rw [noteC_set _ _ _ HK.out] at hB5
  have hR5 := hR4.far (p := ⟨w.heap.size + 1, 33, none⟩) (by simp) (.int .i64 m)
  have hb6 := hb5.setCell (p := ⟨w.heap.size + 1, 33, none⟩) (by simp) (.int .i64 m)
  have HB5 := Lib.hid hB5
  have HR5 := Lib.hid hR5
  have Hb6 := Lib.hid hb6
  clear hB5 hR5 hb6 hB4 hR4 hb5 hB3 hR3 hb3 hB2 hR2 hb2 hN3
  go_wp2_with (first
    | (show wpList _ _ _ (⟨_, Op.load 25 _, _, _, _, _⟩ :: _) _ _
       go_must (refine load_blk (by rfl) 25 _ (by rfl) (w.heap.size + 1) 0 34 25 _ (by rfl) HB5.out _ Try.underlying25 rfl Try.infoNote (by rw [noteC_len _ _ HK.out]; omega) (noteC ⟨s.toArray⟩ K m).toList (by rw [List.drop_zero, List.take_of_length_le (by rw [noteC_len _ _ HK.out]; omega)]) ?_))
    | (show wpList _ _ _ (⟨_, Op.store 25 _ _, _, _, _, _⟩ :: _) _ _
       go_must (refine store_blk (by rfl) 25 _ _ (by rfl) w.heap.size 0 25 noteZ (noteC ⟨s.toArray⟩ K m).toList (by rfl) (by rfl) HR5.out (by rw [noteC_len _ _ HK.out]; exact Try.infoNote) (noteC_one _ _ _) (by rw [noteC_len _ _ HK.out, noteZ_len]; omega) ?_)
       intro W6 hB6 hG6
       rw [spl_all _ _ (by rw [noteC_len _ _ HK.out, noteZ_len])] at hB6))
  refine bodyPost_ret (results_cell_tmp (P := Try.prog) Try.results6 _ _ w.heap.size 25 _ _ (by rfl) hB6 Try.underlying25 rfl (by rw [noteC_len _ _ HK.out]; exact Try.infoNote)) rfl ?_
  exact ⟨rfl, Hb6.out.grown hG6 (by have := Hb6.out.size; omega) (fun k hk => by cases hk; exact Nat.le_refl _)⟩
end Go.Proofs.Ytddehjgmmeoboaa
