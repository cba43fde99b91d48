/- The walk of TopRows. -/
import Derived.Test.YtddehjgmmeoboaaTopLib
import Derived.Test.YtddehjgmmeoboaaTopSh
import Derived.Test.YtddehjgmmeoboaaTopEq
import Derived.Test.YtddehjgmmeoboaaNote2
namespace Go.Proofs.Ytddehjgmmeoboaa
open Go.RowKit

/-- The rows of the first so many notes. -/
def padRows (ns : List NoteV) : List (List UInt8) := ns.map NoteV.padded

set_option maxRecDepth 20000 in
set_option maxHeartbeats 2000000 in
theorem rows_law (ns : List NoteV) (l c : Nat) (N : Int) (which : List Int) (l2 c2 : Nat) (A A2 : Option Addr) (w : World) (hl56 : l * 56 ≤ 140737488355328)
    (hr : RdNotes w A l c ns) (hr2 : Rd w 1 A2 l2 c2 (which.map fun x => .int .i64 x)) :
    Calls Try.prog 4 #[.slice A l c, .int .i64 N, .slice A2 l2 c2] w fun e w' => e = .returned (.bool true) ∧ Below w.heap.size w w' := by
  obtain ⟨i0, hi, hz0, hz1, hz2⟩ := info_parts Try.infoU8
  obtain ⟨i1, hj, hy0, hy1, hy2⟩ := info_parts Try.infoSl
  have HK := Lib.hid hr.keys
  have HLN := Lib.hid hr.len
  have HNOTE := Lib.hid hr.at_
  clear hr
  have B1 : Hid (Rd (w.alloc (.cells #[.int .u8 7] 5)) 1 (some ⟨w.heap.size, 0, none⟩) 1 1 (([7] : List UInt8).map B)) := rd_cell1 w (B 7) _
  have B2 : Hid (RdM ((w.alloc (.cells #[.int .u8 7] 5)).alloc (.cells #[.slice (some ⟨w.heap.size, 0, none⟩) 1 1] 26)) (some ⟨w.heap.size + 1, 0, none⟩) 1 1 (([[7]] : List (List UInt8)).map (·.map B))) := by
    have h := rdm1 26 B1.out
    rw [World.size_alloc] at h; exact h
  have BL2 : Hid (Below w.heap.size w ((w.alloc (.cells #[.int .u8 7] 5)).alloc (.cells #[.slice (some ⟨w.heap.size, 0, none⟩) 1 1] 26))) := ((Below.refl _ _).alloc (Nat.le_refl _) _).alloc (by simp) _
  go_enter Try.func4, Try.ntmps4
  go_wp2_with fail
  refine (spread_good [[7]] 1 2 1 _ _ _ rfl (by omega) (by omega) (by omega) (by omega) (by omega) (by intro r hr; simp at hr; subst hr; rfl) B2.out).mono ?_
  rintro e W1 ⟨v1, rfl, ⟨vs1, hown1, _⟩, hb1⟩
  obtain ⟨A1, c1, rfl, _⟩ := own_rd hown1
  have hb : Below w.heap.size w W1 := BL2.out.trans (hb1.mono BL2.out.size)
  clear hown1 hb1 B1 B2 BL2
  go_wp2_with fail
  go_loopw [9, 10] (fun vo si wr => ∃ (k : Nat) (vs : List Value), k ≤ l ∧ si = .int .i64 k ∧ Two wr W1.heap.size (.slice none 0 0) vo [] ((padRows (ns.take k)).map (·.map B)) vs ∧ Below W1.heap.size W1 wr ∧ Hid (∀ x ∈ ns.take k, x.Good)) (fun _ si _ => l - (intOf si).toNat)
  case atStart => exact ⟨0, [], Nat.zero_le _, rfl, Two.start _ _, Below.refl _ _, by intro x hx; simp at hx⟩
  case round =>
    obtain ⟨k, vs, hk, rfl, hT, hbr, hgood⟩ := hrel
    by_cases hlt : k < l
    · obtain ⟨ad, rfl, hab, hcells⟩ := HNOTE.out k hlt
      have hcells' : Hid (∀ j v, (ns.getD k NoteV.z).cells[j]? = some v → wr.cell? ((ad.add (k * 34)).add j) = some v) := fun j v hv => (hbr.cell (by rw [addr_block, addr_block]; exact Nat.lt_of_lt_of_le hab hb.size)).trans ((hb.cell (by rw [addr_block, addr_block]; exact hab)).trans (hcells j v hv))
      clear hcells
      have hmem : ns.getD k NoteV.z ∈ ns := by
        have hkl : k < ns.length := by rw [HLN.out]; exact hlt
        rw [List.getD_eq_getElem?_getD, List.getElem?_eq_getElem hkl]; exact List.getElem_mem hkl
      obtain ⟨hK, h63⟩ := HK.out _ hmem
      generalize hx : ns.getD k NoteV.z = x at *
      have HX := Lib.hid hx; clear hx
      have hbr0 := Lib.hid (hb.trans (hbr.mono hb.size))
      go_wp2_with (show wpList _ _ _ (⟨_, Op.load 25 _, _, _, _, _⟩ :: _) _ _
                   go_must (refine load_at (by rfl) 25 _ (by rfl) (ad.add (k * 34)) (by rfl) x.cells _ hcells'.out Try.underlying25 rfl (by rw [noteC_len _ _ hK]; exact Try.infoNote) ?_))
      have out : ∀ e : Int, (named x.s.data.toList = false ∧ e = 1) ∨ (named x.s.data.toList = true ∧ (x.t < 0 ∨ 4294967296 ≤ x.t) ∧ e = 2) → Calls Try.prog 5 #[.agg (noteC x.s x.K x.t)] wr fun e' w' => e' = .returned (.tuple #[.slice none 0 0, errno e]) ∧ Below wr.heap.size wr w' := by
        rintro e (⟨h1, rfl⟩ | ⟨h1, h2, rfl⟩)
        · exact write_unnamed x.s x.K x.t wr h1
        · exact write_range x.s x.K x.t wr h1 hK h2 h63
      by_cases hbad : ∃ e : Int, (named x.s.data.toList = false ∧ e = 1) ∨ (named x.s.data.toList = true ∧ (x.t < 0 ∨ 4294967296 ≤ x.t) ∧ e = 2)
      · obtain ⟨e, he⟩ := hbad
        refine (out e he).mono ?_
        clear out he
        rintro _ W2 ⟨rfl, hb2⟩
        go_wp2
        go_ret
        exact ⟨rfl, hbr0.out.trans (hb2.mono hbr0.out.size)⟩
      · have hx : Hid x.Good := by
          by_cases h1 : named x.s.data.toList = true
          · by_cases h2 : x.t < 0 ∨ 4294967296 ≤ x.t
            · exact absurd ⟨2, .inr ⟨h1, h2, rfl⟩⟩ hbad
            · exact ⟨h1, by omega, by omega⟩
          · exact absurd ⟨1, .inl ⟨by simpa using h1, rfl⟩⟩ hbad
        clear out hbad
        have hsm := NoteV.small hx.out
        obtain ⟨m, hm⟩ : ∃ m : Nat, x.t = m := ⟨x.t.toNat, by have := hx.out.2.1; omega⟩
        rw [hm]
        refine (write_good x.s x.K m wr hx.out.1 hK (by have := hx.out.2.2; omega)).mono ?_
        rintro e W2 ⟨v2, rfl, hown2, hb2⟩
        obtain ⟨A3, c3, rfl, hr3⟩ := own_rd hown2
        have hT2 := hT.below hb2
        have hb2' := hbr.trans (hb2.mono hbr.size)
        have R3 : Hid (Rd W2 1 A3 (37 + x.s.size) c3 (x.bytes.map B)) := by
          have e : x.bytes = (UInt8.ofNat x.s.size :: (x.s.data.toList ++ (x.K ++ put4 m))) := by
            unfold NoteV.bytes noteB; rw [hm]; simp
          rw [e]; exact hr3
        clear hown2 hr3
        have hd80 : decide (80 < ((37 + x.s.size : Nat) : Int)) = false := decide_eq_false (by omega)
        have ek : Hid ((.int .u8 (37 + (x.s.size : Int)) : Value) = B (UInt8.ofNat (37 + x.s.size))) := by
          show _ = _
          simp only [B, UInt8.toNat_ofNat']; congr 1; omega
        have hpad := x.padTo_len
        generalize hz : x.s.size = z at *
        have HZ := Lib.hid hz; clear hz
        have HPL := Lib.hid hpad; clear hpad
        have O1 : Hid ((W2.alloc (.cells #[.int .u8 (37 + (z : Int))] 5)).ownsRow W2.heap.size 5 1 (.slice (some ⟨W2.heap.size, 0, none⟩) 1 1) 1 [.int .u8 (37 + (z : Int))]) := own_cell1 W2 _ _
        have R4 : Hid (Rd (W2.alloc (.cells #[.int .u8 (37 + (z : Int))] 5)) 1 A3 (37 + z) c3 (x.bytes.map B)) := R3.out.below' ((Below.refl _ _).alloc (Nat.le_refl _) _)
        have BL4 : Hid (Below W2.heap.size W2 (W2.alloc (.cells #[.int .u8 (37 + (z : Int))] 5))) := (Below.refl _ _).alloc (Nat.le_refl _) _
        go_wp2_with (show wpList _ _ _ (⟨_, Op.call { callee := Callee.builtin Builtin.append, args := #[Operand.tmp 60, _], argTypes := _ }, _, _, _, _⟩ :: _) _ _
                     go_must (refine list_app (by rfl) _ _ _ (by rfl) W2.heap.size 5 i0 _ 1 1 Try.underlying26 hi hz0 hz1 hz2 rfl (by omega) _ 1 _ (by rfl) O1.out A3 (37 + z) c3 _ (by rfl) R4.out (by intro u hu; obtain ⟨b, _, rfl⟩ := List.mem_map.1 hu; rfl) (by unfold maxLen; omega) (by omega) BL4.out.size ?_)
                     intro v5 W5 hown5 hbl5 _ _)
        have hb5 : Below W2.heap.size W2 W5 := BL4.out.trans hbl5
        have H5 : Hid (W5.ownsRow W2.heap.size 5 1 v5 (38 + z + 0) ((x.padTo 0).map B)) := by
          have e1 : 1 + (37 + z) = 38 + z + 0 := by omega
          have e2 : [(.int .u8 (37 + (z : Int)) : Value)] ++ x.bytes.map B = (x.padTo 0).map B := by
            rw [ek.out]; unfold NoteV.padTo; rw [HZ.out]; simp
          rw [e1, e2] at hown5; exact hown5
        clear hown5 hbl5 O1 R4 BL4 R3
        rename World => W0
        obtain ⟨Aq, cq, rfl, _⟩ := own_rd H5.out
        go_loopw [13] (fun vr wr => ∃ (q : Nat), q + z ≤ 52 ∧ wr.ownsRow W2.heap.size 5 1 vr (38 + z + q) ((x.padTo q).map B) ∧ Below W2.heap.size W2 wr) (fun vr _ => restOf 90 vr)
        case atStart => exact ⟨0, by omega, H5.out, hb5⟩
        case round =>
          obtain ⟨q, hq, hownq, hbq⟩ := hrel
          obtain ⟨Ar, cr, rfl, hrq⟩ := own_rd hownq
          by_cases hq2 : q + z < 52
          · go_wp2_with (show wpList _ _ _ (⟨_, Op.call { callee := Callee.builtin Builtin.append, args := #[Operand.tmp 66, _], argTypes := _ }, _, _, _, _⟩ :: _) _ _
                         go_must (refine app1 (by rfl) _ _ _ (by rfl) W2.heap.size 5 i0 _ 1 Try.underlying26 hi hz0 hz1 hz2 rfl _ _ _ (.int .u8 0) (by rfl) hownq (by rfl) rfl (by unfold maxLen; omega) (by omega) hbq.size ?_)
                         intro v6 W6 hown6 hbl6 _ _)
            have hown6' : W6.ownsRow W2.heap.size 5 1 v6 (38 + z + (q + 1)) ((x.padTo (q + 1)).map B) := by
              rw [NoteV.padTo_succ, List.map_append]; exact hown6
            obtain ⟨A6, c6, rfl, _⟩ := own_rd hown6'
            go_roundw
            case rel => ((repeat apply Exists.intro); exact ⟨⟨q + 1, by omega, hown6', hbq.trans hbl6⟩, rfl⟩)
            case measure => simp [restOf]; omega
          · obtain rfl : q = 52 - z := by omega
            have e90 : 38 + z + (52 - z) = 90 := by omega
            rw [e90] at hownq hrq ⊢
            have hT3 := hT2.below hbq
            have hb3 := hb2'.trans (hbq.mono hb2'.size)
            have hlen : (padRows (ns.take k)).length = k := by unfold padRows; rw [List.length_map, List.length_take, HLN.out]; omega
            have hge := own_rd_base hownq
            have hlen2 : ((padRows (ns.take k)).map (·.map B)).length = k := by rw [List.length_map, hlen]
            have e7 : x.padTo (52 - z) = x.padded := by unfold NoteV.padded; rw [HZ.out]
            rw [e7] at hrq
            go_wp2_with (show wpList _ _ _ (⟨_, Op.call { callee := Callee.builtin Builtin.append, args := #[Operand.tmp 69, _], argTypes := _ }, _, _, _, _⟩ :: _) _ _
                         go_must (refine app1 (by rfl) _ _ _ (by rfl) W1.heap.size 26 i1 _ 24 Try.underlying37 hj hy0 hy1 hy2 rfl _ _ _ (.slice Ar 90 cr) (by rfl) hT3.out (by rfl) rfl (by unfold maxLen; omega) (by omega) hb3.size ?_)
                         intro vo1 W7 hown7 hbl7 hg7 hat7)
            have htk : Hid (ns.take (k + 1) = ns.take k ++ [x]) := by
              show _ = _
              have hkl : k < ns.length := by rw [HLN.out]; exact hlt
              have hx2 := HX.out
              rw [List.getD_eq_getElem?_getD, List.getElem?_eq_getElem hkl] at hx2
              have hx3 : ns[k] = x := hx2
              rw [List.take_add_one, List.getElem?_eq_getElem hkl, hx3]; rfl
            have hgood' : Hid (∀ y ∈ ns.take (k + 1), y.Good) := by
              intro y hy
              rw [htk.out] at hy
              rcases List.mem_append.1 hy with h | h
              · exact hgood.out y h
              · simp at h; subst h; exact hx.out
            have hpos : ∀ r ∈ (padRows (ns.take k)).map (·.map B), 0 < r.length := by
              intro r hr
              obtain ⟨r', hr', rfl⟩ := List.mem_map.1 hr
              obtain ⟨y, hy, rfl⟩ := List.mem_map.1 hr'
              rw [List.length_map, NoteV.padded_len (hgood.out y hy) (HK.out y (List.mem_of_mem_take hy)).1]; omega
            have hrel' : Two W7 W1.heap.size (.slice none 0 0) vo1 [] ((padRows (ns.take (k + 1))).map (·.map B)) (vs ++ [.slice Ar 90 cr]) := by
              have e8 : (padRows (ns.take (k + 1))).map (·.map B) = (padRows (ns.take k)).map (·.map B) ++ [x.padded.map B] := by
                rw [htk.out]; unfold padRows; simp
              rw [e8]
              refine hT3.out_append hpos hrq (fun a ha hbn => ?_) (by have := hrq.len; omega) hown7 hg7 (hat7.imp id fun h => ⟨_, by omega, h⟩)
              obtain ⟨A', c', e9, _, hge9⟩ := hge
              injection e9 with e9 _ _
              subst e9
              exact hT2.fresh (hge9 a ha) hbn
            go_roundw
            case rel => first
              | exact ⟨k + 1, vs ++ [.slice Ar 90 cr], by omega, by go_num, hrel', hb3.trans hbl7, hgood'⟩
              | ((repeat apply Exists.intro); exact ⟨⟨k + 1, vs ++ [.slice Ar 90 cr], by omega, by go_num, hrel', hb3.trans hbl7, hgood'⟩, rfl⟩)
            case measure => simp [intOf]; omega
    · obtain rfl : k = l := by omega
      have ht : ns.take k = ns := List.take_of_length_le (by rw [HLN.out]; exact Nat.le_refl _)
      rw [ht] at hT hgood
      clear ht
      obtain ⟨Ar, cr, e7, hrm, _⟩ := RdRows.rdm hT.rd hT.out
      have hplen : (padRows ns).length = k := by unfold padRows; rw [List.length_map, HLN.out]
      rw [List.length_map, hplen] at e7 hrm
      subst e7
      have HPL := Lib.hid hplen
      clear hT
      have hbw := hb.trans (hbr.mono hb.size)
      clear hbr
      have hrows90 : Hid (∀ r ∈ padRows ns, r.length = 90) := by
        intro r hr
        obtain ⟨y, hy, rfl⟩ := List.mem_map.1 hr
        exact NoteV.padded_len (hgood.out y hy) (HK.out y hy).1
      go_wp2_with fail
      by_cases hbad : k = 0 ∨ N < k ∨ 20 < N
      · refine (spread_bad k N Ar cr wr hbad (by omega)).mono ?_
        rintro e W2 ⟨rfl, rfl⟩
        go_wp2
        go_ret
        exact ⟨rfl, hbw⟩
      · obtain ⟨M, rfl⟩ : ∃ M : Nat, N = M := ⟨N.toNat, by omega⟩
        refine (spread_good (padRows ns) k M 90 Ar cr wr hplen (by omega) (by omega) (by omega) (by omega) (by omega) hrows90.out hrm).mono ?_
        rintro e W2 ⟨v2, rfl, ⟨vs2, hown2, hrd2⟩, hb2⟩
        obtain ⟨Aa, ca, rfl, hram, hrav⟩ := RdRows.rdm hrd2 hown2
        have hbw2 := hbw.trans (hb2.mono hbw.size)
        have hrm2 := hrm.below hb2 (Nat.le_refl _)
        have hrw2 := hr2.below hbw2 (Nat.le_refl _)
        clear hb2 hbw hown2 hrm
        have hkN : k ≤ M := by omega
        have hN20 : M ≤ 20 := by omega
        have hk1 : 1 ≤ k := by omega
        clear hbad
        have hll : which.length = l2 := by have := hr2.len; simpa using this
        by_cases hlw : l2 < k
        · go_wp2
          go_ret
          exact ⟨rfl, hbw2⟩
        · have hlw' : k ≤ l2 := by omega
          have hdl : decide ((l2 : Int) < k) = false := decide_eq_false (by omega)
          go_wp2_with fail
          have hnd0 : decide ((M : Int) < 0) = false := decide_eq_false (by omega)
          go_loopw [16, 17] (fun vo si wr => ∃ (i : Nat), i ≤ k ∧ si = .int .i64 i ∧ wr.ownsRow W2.heap.size 42 2 vo i (shareCells vs2 (which.take i)) ∧ Below W2.heap.size W2 wr ∧ Hid (∀ x ∈ which.take i, 0 ≤ x ∧ x < M) ∧ Hid (which.take i).Nodup) (fun _ si _ => k - (intOf si).toNat)
          case atStart => exact ⟨0, Nat.zero_le _, rfl, World.ownsRow_nil _ _ _ _, Below.refl _ _, by intro x hx; simp at hx, List.nodup_nil⟩
          case round =>
            obtain ⟨i, hik, rfl, hown3, hb3, hrng, hnd⟩ := hrel
            by_cases hlt : i < k
            · obtain ⟨ad2, rfl, hab2, hcw⟩ := Rd.int hrw2 (show i < l2 by omega)
              have hcw3 : wr.cell? (ad2.add i) = some (.int .i64 (which.getD i 0)) := (hb3.cell (by rw [addr_block]; exact hab2)).trans hcw
              have hil2 : (i : Int) < l2 := by omega
              generalize hx : which.getD i 0 = x at *
              have HX := Lib.hid hx; clear hx
              by_cases hx0 : x < 0
              · go_wp2
                go_ret
                exact ⟨rfl, hbw2.trans (hb3.mono hbw2.size)⟩
              by_cases hxM : (M : Int) ≤ x
              · go_wp2
                go_ret
                exact ⟨rfl, hbw2.trans (hb3.mono hbw2.size)⟩
              · obtain ⟨X, rfl⟩ : ∃ X : Nat, x = X := ⟨x.toNat, by omega⟩
                have hXM : X < M := by omega
                clear hx0 hxM
                go_wp2_with fail
                clear hcw3
                rename World => W5
                go_loopw [18] (fun sj wr => ∃ (j : Nat), j ≤ i ∧ sj = .int .i64 j ∧ wr.ownsRow W2.heap.size 42 2 u16 i (shareCells vs2 (which.take i)) ∧ Below W2.heap.size W2 wr ∧ Hid (∀ y ∈ which.take j, y ≠ (X : Int))) (fun sj _ => i - (intOf sj).toNat)
                case atStart => exact ⟨0, Nat.zero_le _, rfl, hown3, hb3, by intro x hx; simp at hx⟩
                case round =>
                  clear hown3 hb3
                  obtain ⟨j, hji, rfl, hown3, hb3, hne⟩ := hrel
                  have hcwi : wr.cell? (ad2.add i) = some (.int .i64 (X : Int)) := (hb3.cell (by rw [addr_block]; exact hab2)).trans hcw
                  by_cases hjlt : j < i
                  · obtain ⟨ad3, e3, _, hcwj⟩ := Rd.int hrw2 (show j < l2 by omega)
                    injection e3 with e3; subst e3
                    have hcwj3 : wr.cell? (ad2.add j) = some (.int .i64 (which.getD j 0)) := (hb3.cell (by rw [addr_block]; exact hab2)).trans hcwj
                    have hjl2 : (j : Int) < l2 := by omega
                    clear hcwj
                    have HYM : Hid (which.getD j 0 ∈ which.take i) := by
                      show _ ∈ _
                      have hjw : j < which.length := by omega
                      rw [List.getD_eq_getElem?_getD, List.getElem?_eq_getElem hjw]
                      exact List.mem_take_iff_getElem.2 ⟨j, by omega, rfl⟩
                    have HTJ : Hid (which.take (j + 1) = which.take j ++ [which.getD j 0]) := by
                      show _ = _
                      have hjw : j < which.length := by omega
                      rw [List.take_add_one, List.getD_eq_getElem?_getD, List.getElem?_eq_getElem hjw]; rfl
                    generalize hy : which.getD j 0 = y at *
                    clear hy
                    have hown4 := fun nq => (show (wr.drewN nq).ownsRow W2.heap.size 42 2 u16 i (shareCells vs2 (which.take i)) from hown3)
                    have hb4 := fun nq => (show Below W2.heap.size W2 (wr.drewN nq) from ⟨hb3.os, hb3.tape, hb3.output, hb3.size, hb3.block⟩)
                    have HO4 := Lib.hid hown4
                    have HB4 := Lib.hid hb4
                    clear hown4 hb4 hown3
                    by_cases hyx : y = X
                    · subst hyx
                      go_wp2_with fail
                      go_quiet (fail)
                      go_wp2
                      go_ret
                      exact ⟨rfl, hbw2.trans ((HB4.out _).mono hbw2.size)⟩
                    · have hdyx : decide (y = (X : Int)) = false := decide_eq_false hyx
                      go_wp2_with fail
                      go_quiet (fail)
                      go_wp2_with fail
                      have hne' : Hid (∀ y ∈ which.take (j + 1), y ≠ (X : Int)) := by
                        intro y' hy'
                        rw [HTJ.out] at hy'
                        rcases List.mem_append.1 hy' with h | h
                        · exact hne.out y' h
                        · simp at h; subst h; exact hyx
                      go_roundw
                      case rel => first
                        | exact ⟨j + 1, by omega, by go_num, HO4.out _, HB4.out _, hne'⟩
                        | ((repeat apply Exists.intro); exact ⟨⟨j + 1, by omega, by go_num, HO4.out _, HB4.out _, hne'⟩, rfl⟩)
                      case measure => simp [intOf]; omega
                  · obtain rfl : j = i := by omega
                    obtain ⟨ada, rfl, haba, hcall⟩ := hrav.cell (show X < vs2.length by have := hrav.len; omega)
                    have hsl : (spreadTo (padRows ns) 90 M).length = M := spreadTo_len _ _ (by rw [HPL.out]; exact hkN)
                    obtain ⟨Ax, cx, hvx, hrx⟩ := hrd2.at_ (show X < ((spreadTo (padRows ns) 90 M).map (·.map B)).length by rw [List.length_map, hsl]; exact hXM)
                    have hxl : ∀ r ∈ (spreadTo (padRows ns) 90 M).map (fun r : List UInt8 => r.map B), r.length = 90 := by
                      intro r hr
                      obtain ⟨r', hr', rfl⟩ := List.mem_map.1 hr
                      rw [List.length_map]
                      exact spreadTo_row _ _ _ hrows90.out _ hr'
                    rw [hxl _ (List.getElem_mem _)] at hvx
                    have hX90 : Hid (vs2.getD X undef = .slice Ax 90 cx) := by
                      show _ = _
                      rw [List.getD_eq_getElem?_getD, hvx]; rfl
                    have hvx2 : vs2[X]'(by have := hrav.len; omega) = .slice Ax 90 cx := by
                      rw [List.getElem?_eq_getElem (by have := hrav.len; omega)] at hvx; injection hvx
                    rw [hvx2] at hcall
                    have hcax : wr.cell? (ada.add X) = some (.slice Ax 90 cx) := (hb3.cell (by rw [addr_block]; exact haba)).trans hcall
                    clear hvx hxl hrx hvx2 hcall hcw
                    have hl2 : ad2.block < wr.heap.size := Nat.lt_of_lt_of_le hab2 hb3.size
                    have hla : ada.block < wr.heap.size := Nat.lt_of_lt_of_le haba hb3.size
                    have K1 : Hid (∀ o, (wr.alloc o).cell? (ad2.add j) = some (.int .i64 (X : Int))) := fun o => (World.cell?_alloc_lt _ _ _ (by rw [addr_block]; exact hl2)).trans hcwi
                    have K2 : Hid (∀ o, (wr.alloc o).cell? (ada.add X) = some (.slice Ax 90 cx)) := fun o => (World.cell?_alloc_lt _ _ _ (by rw [addr_block]; exact hla)).trans hcax
                    have O1 : Hid ((wr.alloc (.cells #[.int .u8 (IntKind.u8.wrap (X : Int)), .slice Ax 90 cx] 42)).drew.ownsRow W2.heap.size 42 2 u16 j (shareCells vs2 (which.take j))) := hown3.alloc _
                    have R1 : Hid (Rd (wr.alloc (.cells #[.int .u8 (IntKind.u8.wrap (X : Int)), .slice Ax 90 cx] 42)).drew 2 (some ⟨wr.heap.size, 0, none⟩) 1 1 [.int .u8 (IntKind.u8.wrap (X : Int)), .slice Ax 90 cx]) := (rd_cell2 wr _ _ _).drew
                    have BV : Hid (Below W2.heap.size W2 (wr.alloc (.cells #[.int .u8 (IntKind.u8.wrap (X : Int)), .slice Ax 90 cx] 42)).drew) := (hb3.alloc hb3.size _).drew
                    have NO : Hid (∀ g, Value.ownBlock u16 = some g → W2.heap.size ≤ g) := fun g hg => (hown3.lt g hg).1
                    have H2L := Lib.hid hab2
                    have HAL := Lib.hid haba
                    clear hown3 hb3 hl2 hla
                    obtain ⟨i3, hs3, hsz0, hsz1, hsz2⟩ := info_parts Try.infoShare
                    go_wp2_with fail
                    go_region_held3 (fun w' => w'.cell? (ad2.add j) = some (.int .i64 (X : Int)) ∧ w'.cell? (ada.add X) = some (.slice Ax 90 cx)) (first | exact ⟨s1, s2⟩ | exact ⟨K1.out _, K2.out _⟩ | exact ⟨hcwi, hcax⟩ | go_keep)
                      (first
                         | (rw [if_pos (by rfl)]
                            refine wp_app (.tmp 122) _ _ (by rfl) W2.heap.size 42 i3 _ 2 32 Try.underlying40 hs3 hsz0 hsz1 hsz2 rfl (by omega) u16 _ _ (by rfl) O1.out _ 1 1 [.int .u8 (IntKind.u8.wrap (X : Int)), .slice Ax 90 cx] (by rfl) R1.out (by intro u hu; simp at hu; rcases hu with rfl | rfl <;> rfl) (by unfold maxLen; omega) (by omega) BV.out.size ?_
                            intro v8 W8 hown8 hbl8 hg8 hat8
                            have s1 : W8.cell? (ad2.add j) = some (.int .i64 (X : Int)) := hg8.cell (K1.out _) (fun e => by rw [addr_block] at e; have := NO.out _ e.symm; have := H2L.out; omega)
                            have s2 : W8.cell? (ada.add X) = some (.slice Ax 90 cx) := hg8.cell (K2.out _) (fun e => by rw [addr_block] at e; have := NO.out _ e.symm; have := HAL.out; omega)
                            have hb8 : Below W2.heap.size W2 W8 := BV.out.trans hbl8
                            clear hg8 hat8 hbl8))
                    have ew : ([.int .u8 (IntKind.u8.wrap (X : Int)), .slice Ax 90 cx] : List Value) = [B (UInt8.ofNat (X : Int).toNat), vs2.getD (X : Int).toNat undef] := by
                      have e1 : (.int .u8 (IntKind.u8.wrap (X : Int)) : Value) = B (UInt8.ofNat (X : Int).toNat) := by
                        simp only [B, UInt8.toNat_ofNat', Int.toNat_natCast]; congr 1
                      rw [e1, Int.toNat_natCast, hX90.out]
                    have htw : Hid (which.take (j + 1) = which.take j ++ [(X : Int)]) := by
                      show _ = _
                      have hjw : j < which.length := by omega
                      have hx2 := HX.out
                      rw [List.getD_eq_getElem?_getD, List.getElem?_eq_getElem hjw] at hx2
                      have hx3 : which[j] = (X : Int) := hx2
                      rw [List.take_add_one, List.getElem?_eq_getElem hjw, hx3]; rfl
                    have hown9 : W8.ownsRow W2.heap.size 42 2 v8 (j + 1) (shareCells vs2 (which.take (j + 1))) := by
                      rw [htw.out, shareCells_snoc, ← ew]; exact hown8
                    have hrng9 : Hid (∀ x ∈ which.take (j + 1), 0 ≤ x ∧ x < (M : Int)) := by
                      intro x hx
                      rw [htw.out] at hx
                      rcases List.mem_append.1 hx with h | h
                      · exact hrng.out x h
                      · simp at h; subst h; omega
                    have hnd9 : Hid (which.take (j + 1)).Nodup := by
                      show List.Nodup _
                      rw [htw.out, List.nodup_append]
                      refine ⟨hnd.out, by simp, fun a ha b hb e => ?_⟩
                      simp at hb; subst hb
                      exact hne.out a ha e
                    clear ew hown8 O1 R1 BV K1 K2
                    go_wp2_with fail
                    go_roundw
                    case rel => first
                      | exact ⟨j + 1, by omega, by go_num, hown9, hb8, hrng9, hnd9⟩
                      | ((repeat apply Exists.intro); exact ⟨⟨j + 1, by omega, by go_num, hown9, hb8, hrng9, hnd9⟩, rfl⟩)
                    case measure => simp [intOf]; omega
            · obtain rfl : i = k := by omega
              obtain ⟨As, cs, rfl, hrs⟩ := own_rd hown3
              have hsl : (spreadTo (padRows ns) 90 M).length = M := spreadTo_len _ _ (by rw [HPL.out]; exact hkN)
              have hwl : (which.take i).length = i := by rw [List.length_take]; omega
              have hsh := sh_of hrs hwl (hrd2.below' hb3) hsl hrng.out
              go_wp2_with fail
              refine (gather_good _ _ i 90 As cs wr hk1 (by omega) (by omega) (by omega) (pickAts_lt _ hrng.out hN20) (pickAts_nodup _ hnd.out (fun x hx => ⟨(hrng.out x hx).1, by have := (hrng.out x hx).2; omega⟩)) (fun r hr => ?_) hsh).mono ?_
              · obtain ⟨x, hx, rfl⟩ := List.mem_map.1 hr
                obtain ⟨x0, x1⟩ := hrng.out x hx
                exact spreadTo_row _ _ _ hrows90.out _ (getD_mem _ _ _ (by omega))
              rintro e W6 ⟨v6, rfl, ⟨vs6, hown6, hrd6⟩, hb6⟩
              rw [gathered_back (padRows ns) (which.take i) 90 M i HPL.out hrows90.out hwl hnd.out hrng.out hkN (by omega)] at hrd6
              obtain ⟨Ag, cg, rfl, hrg, _⟩ := RdRows.rdm hrd6 hown6
              have hbw6 := (hbw2.trans (hb3.mono hbw2.size)).trans (hb6.mono (Nat.le_trans hbw2.size hb3.size))
              clear hown6 hrd6 hb6 hsh hrs hown3 hb3 hrd2 hram hrav hrm2 hrw2 hbw2 hrng hnd hwl hsl
              go_wp2_with fail
              go_loopw [20] (fun si wr => ∃ (q : Nat), q ≤ i ∧ si = .int .i64 q ∧ Below W6.heap.size W6 wr) (fun si _ => i - (intOf si).toNat)
              case atStart => exact ⟨0, Nat.zero_le _, rfl, Below.refl _ _⟩
              case round =>
                obtain ⟨q, hqi, rfl, hbq⟩ := hrel
                by_cases hq : q < i
                · have hqn : q < ns.length := by rw [HLN.out]; exact hq
                  have hqp : q < ((padRows ns).map (fun r : List UInt8 => r.map B)).length := by rw [List.length_map, HPL.out]; exact hq
                  obtain ⟨adg, Ar6, cr6, rfl, hadg, hcg, hrr⟩ := hrg.at_ q hqp
                  have hxm : ns.getD q NoteV.z ∈ ns := getD_mem ns q _ hqn
                  have hgx := hgood.out _ hxm
                  have hKx := HK.out _ hxm
                  have hrow : ((padRows ns).map (fun r : List UInt8 => r.map B))[q] = (ns.getD q NoteV.z).padded.map B := by
                    simp only [padRows, List.getElem_map]
                    rw [List.getD_eq_getElem?_getD, List.getElem?_eq_getElem hqn]; rfl
                  rw [hrow, List.length_map, NoteV.padded_len hgx hKx.1] at hcg hrr
                  clear hrow hqp
                  obtain ⟨adr, rfl, hadr, hc0⟩ := hrr.byte (show 0 < 90 by omega)
                  obtain ⟨adn, rfl, hadn, hcn⟩ := HNOTE.out q hq
                  generalize hx : ns.getD q NoteV.z = x at *
                  clear hx
                  have hsm := NoteV.small hgx
                  have hc0' : wr.cell? adr = some (.int .u8 (37 + (x.s.size : Int))) := by
                    have e1 : x.padded.getD 0 0 = UInt8.ofNat (37 + x.s.size) := by simp [NoteV.padded, NoteV.padTo]
                    rw [e1] at hc0
                    have e2 : B (UInt8.ofNat (37 + x.s.size)) = .int .u8 (37 + (x.s.size : Int)) := by
                      simp only [B, UInt8.toNat_ofNat']; congr 1; omega
                    rw [e2] at hc0
                    exact (hbq.cell hadr).trans hc0
                  have hcg' : wr.cell? (adg.add q) = some (.slice (some adr) 90 cr6) := (hbq.cell (by rw [addr_block]; exact hadg)).trans hcg
                  have hrr' := hrr.below' hbq
                  have hcap6 := hrr.cap
                  have HN : Hid (∀ j v, x.cells[j]? = some v → wr.cell? ((adn.add (q * 34)).add j) = some v) := fun j v hv => (hbq.cell (by rw [addr_block, addr_block]; exact Nat.lt_of_lt_of_le hadn (Nat.le_trans (by omega) hbw6.size))).trans ((hbw6.cell (by rw [addr_block, addr_block]; exact hadn)).trans (hcn j v hv))
                  clear hc0 hcg hcn hrr
                  have hqi' : (q : Int) < i := by omega
                  have RB : Hid (Rd wr 1 (some ⟨adr.block, adr.off + 1, none⟩) (37 + x.s.size) (cr6 - 1) (x.bytes.map B)) := by
                    have h := hrr'.from_ (k := 1) (m := 37 + x.s.size) (d := cr6 - 1) (by omega) (by omega) (by omega) (by omega)
                    have e : ((x.padded.map B).drop 1).take (37 + x.s.size) = x.bytes.map B := by
                      rw [← x.bytes_len hKx.1]; simp [NoteV.padded, NoteV.padTo]
                    rw [e] at h; exact h
                  have HLID6 := Lib.hid hrr'.lid
                  clear hrr'
                  generalize hz : x.s.size = z at *
                  obtain ⟨Y, hY⟩ : ∃ Y : Nat, Y = 38 + z := ⟨_, rfl⟩
                  have RB1 : Hid (Rd wr.drew 1 (some ⟨adr.block, adr.off + 1, none⟩) (Y - 1) (cr6 - 1) (x.bytes.map B)) := by
                    show Rd _ _ _ _ _ _
                    rw [show Y - 1 = 37 + z by omega]; exact RB.out.drew
                  have RB2 : Hid (∀ o, Rd (wr.alloc o).drew 1 (some ⟨adr.block, adr.off + 1, none⟩) (Y - 1) (cr6 - 1) (x.bytes.map B)) := fun o => by
                    rw [show Y - 1 = 37 + z by omega]; exact (RB.out.below' ((Below.refl _ _).alloc (Nat.le_refl _) o)).drew
                  have hwr : IntKind.i64.wrap (1 + IntKind.i64.wrap (37 + (z : Int))) = (Y : Int) := by
                    rw [IntWalk.i64_in (37 + (z : Int)) (by omega), IntWalk.i64_in _ (by omega)]; omega
                  have hYc : Y ≤ cr6 := by omega
                  have hY1 : 1 ≤ Y := by omega
                  have hY0 : 0 < Y := hY1
                  have hcr1 : ¬ cr6 = 1 := by omega
                  have hmx2 : max (Y : Int) 0 = (Y : Int) := by omega
                  have hIY : (1 : Int) ≤ (Y : Int) := by omega
                  have hIc : (Y : Int) ≤ (cr6 : Int) := by omega
                  have hI0 : (0 : Int) ≤ (Y : Int) := by omega
                  clear hY RB
                  have hlg : adg.block < wr.heap.size := Nat.lt_of_lt_of_le hadg hbq.size
                  have hlr : adr.block < wr.heap.size := Nat.lt_of_lt_of_le hadr hbq.size
                  have hln : adn.block < wr.heap.size := Nat.lt_of_lt_of_le hadn (Nat.le_trans hbw6.size hbq.size)
                  have hnsz : (noteC x.s x.K x.t).size = 34 := noteC_size x.s x.t hKx.1
                  have KA0 : Hid (∀ o, (fun w' : World => w'.cell? (adg.add q) = some (.slice (some adr) 90 cr6) ∧ w'.cell? adr = some (.int .u8 (37 + (z : Int)))) (wr.alloc o)) := fun o => ⟨(World.cell?_alloc_lt _ _ _ (by rw [addr_block]; exact hlg)).trans hcg', (World.cell?_alloc_lt _ _ _ hlr).trans hc0'⟩
                  have KA0d : Hid (∀ o, (fun w' : World => w'.cell? (adg.add q) = some (.slice (some adr) 90 cr6) ∧ w'.cell? adr = some (.int .u8 (37 + (z : Int)))) (wr.alloc o).drew) := KA0
                  have NA : Hid (∀ o j v, x.cells[j]? = some v → (wr.alloc o).drew.cell? ((adn.add (q * 34)).add j) = some v) := fun o j v hv => (World.cell?_alloc_lt wr o _ (by rw [addr_block, addr_block]; exact hln)).trans (HN.out j v hv)
                  have HLG := Lib.hid hlg
                  have HLR := Lib.hid hlr
                  have HLN2 := Lib.hid hln
                  have HBQ := Lib.hid hbq
                  have HG := Lib.hid hgx
                  clear hlg hlr hln hbq hadg hadr hadn hgx
                  go_wp2_with fail
                  go_region_held3 (fun w' => w'.cell? (adg.add q) = some (.slice (some adr) 90 cr6) ∧ w'.cell? adr = some (.int .u8 (37 + (z : Int)))) (first | exact KS.out _ | exact KA.out _ | exact KC.out | exact KA0.out _ | exact ⟨hcg', hc0'⟩ | go_keep)
                    (first
                       | (go_at_call 6
                          refine (read_note x _ _ _ _ HG.out hKx.1 RB1.out).mono ?_
                          rintro e W8 ⟨rfl, hbl8⟩
                          have hb8 : Below W6.heap.size W6 W8 := HBQ.out.drew.trans (hbl8.mono HBQ.out.size)
                          have h8 : wr.heap.size ≤ W8.heap.size := hbl8.size
                          have KC : Hid ((fun w' : World => w'.cell? (adg.add q) = some (.slice (some adr) 90 cr6) ∧ w'.cell? adr = some (.int .u8 (37 + (z : Int)))) W8) := ⟨(hbl8.cell (by rw [addr_block]; exact HLG.out)).trans hcg', (hbl8.cell HLR.out).trans hc0'⟩
                          have KA : Hid (∀ o, (fun w' : World => w'.cell? (adg.add q) = some (.slice (some adr) 90 cr6) ∧ w'.cell? adr = some (.int .u8 (37 + (z : Int)))) (W8.alloc o)) := fun o => ⟨(World.cell?_alloc_lt _ _ _ (by rw [addr_block]; exact Nat.lt_of_lt_of_le HLG.out h8)).trans KC.out.1, (World.cell?_alloc_lt _ _ _ (Nat.lt_of_lt_of_le HLR.out h8)).trans KC.out.2⟩
                          have TH : (W8.alloc (.cells #[.string { data := #[] }, .int .u8 0, .int .u8 0, .int .u8 0, .int .u8 0, .int .u8 0, .int .u8 0, .int .u8 0, .int .u8 0, .int .u8 0, .int .u8 0, .int .u8 0, .int .u8 0, .int .u8 0, .int .u8 0, .int .u8 0, .int .u8 0, .int .u8 0, .int .u8 0, .int .u8 0, .int .u8 0, .int .u8 0, .int .u8 0, .int .u8 0, .int .u8 0, .int .u8 0, .int .u8 0, .int .u8 0, .int .u8 0, .int .u8 0, .int .u8 0, .int .u8 0, .int .u8 0, .int .i64 0] 25)).there W8.heap.size 0 34 := there_new _ _ _ rfl
                          have HST := run_store_there (P := Try.prog) TH (noteC_len x.s x.t hKx.1) (noteC_one x.s x.K x.t)
                          have KS : Hid (∀ vs, (fun w' : World => w'.cell? (adg.add q) = some (.slice (some adr) 90 cr6) ∧ w'.cell? adr = some (.int .u8 (37 + (z : Int)))) ((W8.alloc (.cells #[.string { data := #[] }, .int .u8 0, .int .u8 0, .int .u8 0, .int .u8 0, .int .u8 0, .int .u8 0, .int .u8 0, .int .u8 0, .int .u8 0, .int .u8 0, .int .u8 0, .int .u8 0, .int .u8 0, .int .u8 0, .int .u8 0, .int .u8 0, .int .u8 0, .int .u8 0, .int .u8 0, .int .u8 0, .int .u8 0, .int .u8 0, .int .u8 0, .int .u8 0, .int .u8 0, .int .u8 0, .int .u8 0, .int .u8 0, .int .u8 0, .int .u8 0, .int .u8 0, .int .u8 0, .int .i64 0] 25)).setCells W8.heap.size 0 vs)) := fun vs => ⟨cell_setCells (KA.out _).1 (by rw [addr_block]; have := HLG.out; omega) _ _, cell_setCells (KA.out _).2 (by have := HLR.out; omega) _ _⟩
                          have FIN : Hid ((∀ j v, x.cells[j]? = some v → ((W8.alloc (.cells #[.string { data := #[] }, .int .u8 0, .int .u8 0, .int .u8 0, .int .u8 0, .int .u8 0, .int .u8 0, .int .u8 0, .int .u8 0, .int .u8 0, .int .u8 0, .int .u8 0, .int .u8 0, .int .u8 0, .int .u8 0, .int .u8 0, .int .u8 0, .int .u8 0, .int .u8 0, .int .u8 0, .int .u8 0, .int .u8 0, .int .u8 0, .int .u8 0, .int .u8 0, .int .u8 0, .int .u8 0, .int .u8 0, .int .u8 0, .int .u8 0, .int .u8 0, .int .u8 0, .int .u8 0, .int .i64 0] 25)).setCells W8.heap.size 0 x.cells).cell? ((⟨W8.heap.size, 0, none⟩ : Addr).add j) = some v) ∧ (∀ j v, x.cells[j]? = some v → ((W8.alloc (.cells #[.string { data := #[] }, .int .u8 0, .int .u8 0, .int .u8 0, .int .u8 0, .int .u8 0, .int .u8 0, .int .u8 0, .int .u8 0, .int .u8 0, .int .u8 0, .int .u8 0, .int .u8 0, .int .u8 0, .int .u8 0, .int .u8 0, .int .u8 0, .int .u8 0, .int .u8 0, .int .u8 0, .int .u8 0, .int .u8 0, .int .u8 0, .int .u8 0, .int .u8 0, .int .u8 0, .int .u8 0, .int .u8 0, .int .u8 0, .int .u8 0, .int .u8 0, .int .u8 0, .int .u8 0, .int .i64 0] 25)).setCells W8.heap.size 0 x.cells).cell? ((adn.add (q * 34)).add j) = some v) ∧ Below W6.heap.size W6 ((W8.alloc (.cells #[.string { data := #[] }, .int .u8 0, .int .u8 0, .int .u8 0, .int .u8 0, .int .u8 0, .int .u8 0, .int .u8 0, .int .u8 0, .int .u8 0, .int .u8 0, .int .u8 0, .int .u8 0, .int .u8 0, .int .u8 0, .int .u8 0, .int .u8 0, .int .u8 0, .int .u8 0, .int .u8 0, .int .u8 0, .int .u8 0, .int .u8 0, .int .u8 0, .int .u8 0, .int .u8 0, .int .u8 0, .int .u8 0, .int .u8 0, .int .u8 0, .int .u8 0, .int .u8 0, .int .u8 0, .int .i64 0] 25)).setCells W8.heap.size 0 x.cells)) := by
                            refine ⟨fun j v hv => ?_, fun j v hv => ?_, below_setCells hb8.size _ _ _ (hb8.alloc hb8.size _)⟩
                            · rw [Addr.add_mid]; exact World.rangeAt_setCells_same _ _ _ _ (by rw [noteC_len _ _ hKx.1]; exact TH) j v hv
                            · exact cell_setCells ((World.cell?_alloc_lt _ _ _ (by rw [addr_block, addr_block]; exact Nat.lt_of_lt_of_le HLN2.out h8)).trans ((hbl8.cell (by rw [addr_block, addr_block]; exact HLN2.out)).trans (HN.out j v hv))) (by rw [addr_block, addr_block]; have := HLN2.out; omega) _ _)
                       | (go_at_call 6
                          refine (read_note x _ _ _ _ HG.out hKx.1 (RB2.out _)).mono ?_
                          rintro e W8 ⟨rfl, hbl8⟩
                          have h8 : wr.heap.size < W8.heap.size := Nat.lt_of_lt_of_le (by simp) hbl8.size
                          have hb8 : Below W6.heap.size W6 W8 := (HBQ.out.alloc HBQ.out.size _).drew.trans (hbl8.mono (Nat.le_trans HBQ.out.size (by simp)))
                          have KC : Hid ((fun w' : World => w'.cell? (adg.add q) = some (.slice (some adr) 90 cr6) ∧ w'.cell? adr = some (.int .u8 (37 + (z : Int)))) W8) := ⟨(hbl8.cell (by rw [addr_block]; exact Nat.lt_of_lt_of_le HLG.out (by simp))).trans (KA0d.out _).1, (hbl8.cell (Nat.lt_of_lt_of_le HLR.out (by simp))).trans (KA0d.out _).2⟩
                          have TH : W8.there wr.heap.size 0 34 := there_below (show ((wr.alloc (.cells #[.string { data := #[] }, .int .u8 0, .int .u8 0, .int .u8 0, .int .u8 0, .int .u8 0, .int .u8 0, .int .u8 0, .int .u8 0, .int .u8 0, .int .u8 0, .int .u8 0, .int .u8 0, .int .u8 0, .int .u8 0, .int .u8 0, .int .u8 0, .int .u8 0, .int .u8 0, .int .u8 0, .int .u8 0, .int .u8 0, .int .u8 0, .int .u8 0, .int .u8 0, .int .u8 0, .int .u8 0, .int .u8 0, .int .u8 0, .int .u8 0, .int .u8 0, .int .u8 0, .int .u8 0, .int .i64 0] 25)).drew).there wr.heap.size 0 34 from there_new wr _ _ rfl) hbl8 (by simp)
                          have HST := run_store_there (P := Try.prog) TH (noteC_len x.s x.t hKx.1) (noteC_one x.s x.K x.t)
                          have KS : Hid (∀ vs, (fun w' : World => w'.cell? (adg.add q) = some (.slice (some adr) 90 cr6) ∧ w'.cell? adr = some (.int .u8 (37 + (z : Int)))) (W8.setCells wr.heap.size 0 vs)) := fun vs => ⟨cell_setCells KC.out.1 (by rw [addr_block]; have := HLG.out; omega) _ _, cell_setCells KC.out.2 (by have := HLR.out; omega) _ _⟩
                          have FIN : Hid ((∀ j v, x.cells[j]? = some v → (W8.setCells wr.heap.size 0 x.cells).cell? ((⟨wr.heap.size, 0, none⟩ : Addr).add j) = some v) ∧ (∀ j v, x.cells[j]? = some v → (W8.setCells wr.heap.size 0 x.cells).cell? ((adn.add (q * 34)).add j) = some v) ∧ Below W6.heap.size W6 (W8.setCells wr.heap.size 0 x.cells)) := by
                            refine ⟨fun j v hv => ?_, fun j v hv => ?_, below_setCells HBQ.out.size _ _ _ hb8⟩
                            · rw [Addr.add_mid]; exact World.rangeAt_setCells_same _ _ _ _ (by rw [noteC_len _ _ hKx.1]; exact TH) j v hv
                            · exact cell_setCells ((hbl8.cell (by rw [addr_block, addr_block]; exact Nat.lt_of_lt_of_le HLN2.out (by simp))).trans (NA.out _ j v hv)) (by rw [addr_block, addr_block]; have := HLN2.out; omega) _ _))
                  all_goals go_wp2_with fail
                  all_goals refine wp_region_quiet_lit (by kernel_rfl) (by kernel_rfl) ?_
                  all_goals repeat (go_big_quiet_step (fail))
                  all_goals go_big_quiet_want
                  all_goals refine quiet_load_at 25 _ rfl _ (by rfl) x.cells _ (by rintro _ ⟨n, rfl⟩ j v hv; exact FIN.out.1 j v hv) Try.underlying25 rfl (by rw [noteC_len _ _ hKx.1]; exact Try.infoNote) ?_
                  all_goals go_big_quiet_on
                  all_goals simp only [Act.put, List.setIfInBounds_toArray, List.set_cons_zero, List.set_cons_succ]
                  all_goals repeat (go_big_quiet_step (fail))
                  all_goals go_big_quiet_want
                  all_goals refine quiet_load_at 25 _ rfl _ (by rfl) x.cells _ (by rintro _ ⟨n, rfl⟩ j v hv; exact FIN.out.2.1 j v hv) Try.underlying25 rfl (by rw [noteC_len _ _ hKx.1]; exact Try.infoNote) ?_
                  all_goals go_big_quiet_on
                  all_goals simp only [Act.put, List.setIfInBounds_toArray, List.set_cons_zero, List.set_cons_succ]
                  all_goals go_big_quiet_want
                  all_goals refine quiet_neq_note _ _ _ rfl x.s x.K x.t hKx.1 (by rfl) (by rfl) ?_
                  all_goals go_big_quiet_on
                  all_goals simp only [Act.put, List.setIfInBounds_toArray, List.set_cons_zero, List.set_cons_succ]
                  all_goals repeat (go_big_quiet_step (fail))
                  all_goals refine wpQuiet_nil ?_
                  all_goals (intro _ hw'; obtain ⟨nq, hw''⟩ := hw'; subst hw'')
                  all_goals go_wp2_with fail
                  all_goals go_roundw
                  all_goals first
                    | exact ⟨q + 1, by omega, by go_num, below_draws FIN.out.2.2 nq⟩
                    | ((repeat apply Exists.intro); exact ⟨⟨q + 1, by omega, by go_num, below_draws FIN.out.2.2 nq⟩, rfl⟩)
                    | (simp [intOf]; omega)
                · obtain rfl : q = i := by omega
                  go_wp2
                  go_ret
                  exact ⟨rfl, hbw6.trans (hbq.mono hbw6.size)⟩
end Go.Proofs.Ytddehjgmmeoboaa
