/- The walk of the reference's Known. -/
import Derived.Test.YtddehjgmmeoboaaDoorBoth
namespace Go.Proofs.YtddehjgmmeoboaaDoor
open Go.RowKit
set_option maxRecDepth 8000

def cname (x : Con) : List UInt8 := x.s.data.toList
theorem known_hit {xs : List Con} {i : Nat} {t : List UInt8} (hi : i < xs.length) (h : ∀ j, j < i → cname (xs.getD j Con.z) ≠ t) (he : cname (xs.getD i Con.z) = t) : Bk.known cname xs t = some (xs.getD i Con.z) := by
  have e := List.take_append_drop i xs
  rw [List.drop_eq_getElem_cons hi] at e
  have eg : xs.getD i Con.z = xs[i] := by rw [List.getD_eq_getElem?_getD, List.getElem?_eq_getElem hi]; rfl
  rw [eg] at he ⊢
  have := Bk.known_mid (nm := cname) (l1 := xs.take i) (l2 := xs.drop (i + 1)) (x := xs[i]) (fun u hu => by
    obtain ⟨j, hj, rfl⟩ := List.mem_iff_getElem.1 hu
    have hj' : j < i := by rw [List.length_take] at hj; omega
    have := h j hj'
    rw [List.getD_eq_getElem?_getD, List.getElem?_eq_getElem (by omega)] at this
    rw [he, List.getElem_take]; exact this)
  rw [e, he] at this
  exact this
theorem known_miss {xs : List Con} {t : List UInt8} (h : ∀ j, j < xs.length → cname (xs.getD j Con.z) ≠ t) : Bk.known cname xs t = none :=
  Bk.known_none (fun u hu => by
    obtain ⟨j, hj, rfl⟩ := List.mem_iff_getElem.1 hu
    have := h j hj
    rw [List.getD_eq_getElem?_getD, List.getElem?_eq_getElem hj] at this
    exact this)

set_option maxHeartbeats 1000000 in
theorem known_any (xs : List Con) (n c : Nat) (A : Option Addr) (t : ByteArray) (w : World) (h : RdCons w A n xs) (hn : n ≤ 1000000000000) :
    Calls Tryd.prog 70 #[.slice A n c, .string t] w fun e w' => e = .returned (.tuple #[.agg ((Bk.known cname xs t.data.toList).getD Con.z).c.toArray, .bool (Bk.known cname xs t.data.toList).isSome]) ∧ Below w.heap.size w w' := by
  have hl := h.len
  have HL := Lib.hid hl; clear hl
  have HB0 : Hid (∀ o, Below w.heap.size w (w.alloc o)) := fun o => (Below.refl _ _).alloc (Nat.le_refl _) _
  have HZ1 : Hid (∀ o, Blk (w.alloc (.cells o 59)) w.heap.size 59 o.toList) := fun o => Blk.new' w _ _
  have FIN : Hid (∀ W2 W3 : World, W2.grownBy W3 (some w.heap.size) → Below w.heap.size w W2 → Below w.heap.size w W3) := fun W2 W3 hG hb => hb.grown hG hb.size (fun k hk => by cases hk; omega)
  go_enter Tryd.func70, Tryd.ntmps70
  go_wp2_with fail
  go_loopw [6] (fun si wr => ∃ (i : Nat), i ≤ n ∧ si = .int .i64 i ∧ Below w.heap.size w wr ∧ Blk wr w.heap.size 59 conZ ∧ Hid (∀ j, j < i → cname (xs.getD j Con.z) ≠ t.data.toList)) (fun si _ => n - (intOf si).toNat)
  case atStart => exact ⟨0, Nat.zero_le _, rfl, HB0.out _, HZ1.out _, fun j hj => by omega⟩
  case round =>
    obtain ⟨i, hi, rfl, hb, hZ, hne⟩ := hrel
    by_cases hlt : i < n
    · have hb' := hb
      obtain ⟨ad, rfl, hab, hcx⟩ := (h.below hb (Nat.le_refl _)).at_ i hlt
      obtain ⟨ad2, e2, _, hs0, _, _⟩ := (h.below hb (Nat.le_refl _)).str hlt
      injection e2 with e2; subst e2
      have kx := h.key hlt
      have hlt' : (i : Int) < n := by omega
      have hhit := known_hit (t := t.data.toList) (show i < xs.length by rw [HL.out]; exact hlt) hne.out
      have HHIT := Lib.hid hhit; clear hhit
      generalize hx : xs.getD i Con.z = x at *
      have HX := Lib.hid hx; clear hx
      have HCX := Lib.hid hcx; clear hcx
      have hx34 := Lib.hid (x.len kx)
      by_cases he : cname x = t.data.toList
      · have hf := HHIT.out he
        have HF := Lib.hid hf; clear hf
        have het : (x.s.toList == t.toList) = true := by rw [ByteArray.toList_eq, ByteArray.toList_eq]; unfold cname at he; rw [he]; simp
        have hes : x.s = t := by
          unfold cname at he
          have := congrArg List.toArray he
          simp at this
          obtain ⟨⟨a⟩⟩ := x; obtain ⟨b⟩ := t; simp at this; rw [this]
        clear he
        go_wp2_with (first
          | (show wpList _ _ _ (⟨_, Op.load 59 _, _, _, _, _⟩ :: _) _ _
             go_must (refine load_at (by rfl) 59 _ (by rfl) (ad.add (i * 34)) (by rfl) x.c _ HCX.out Tryd.underlying59 rfl (by rw [hx34.out]; exact Tryd.infoCon) ?_))
          | (show wpList _ _ _ (⟨_, Op.store 59 _ _, _, _, _, _⟩ :: _) _ _
             go_must (refine store_blk (by rfl) 59 _ _ (by rfl) w.heap.size 0 59 conZ x.c (by rfl) (by rfl) hZ (by rw [hx34.out]; exact Tryd.infoCon) x.one (by rw [hx34.out, conZ_len]; omega) ?_)
             intro W3 hB3 hG3
             rw [spl_all _ _ (by rw [hx34.out]; rfl)] at hB3))
        refine bodyPost_ret (results_cell_tmp (P := Tryd.prog) Tryd.results70 _ _ w.heap.size 59 _ _ (by rfl) hB3 Tryd.underlying59 rfl (by rw [hx34.out]; exact Tryd.infoCon)) rfl ?_
        exact ⟨by rw [HF.out]; rfl, FIN.out _ _ hG3 hb⟩
      · have het : (x.s.toList == t.toList) = false := by
          rw [ByteArray.toList_eq, ByteArray.toList_eq]
          exact beq_eq_false_iff_ne.2 he
        have HNE := Lib.hid he
        clear he HCX
        go_wp2_with fail
        exact ⟨⟨i + 1, by omega, by go_num, hb, hZ, fun j hj => by
          rcases Nat.lt_succ_iff_lt_or_eq.1 hj with h1 | h1
          · exact hne.out j h1
          · subst h1; rw [HX.out]; exact HNE.out⟩, by simp [intOf]; omega⟩
    · obtain rfl : i = n := by omega
      have hmiss := known_miss (xs := xs) (t := t.data.toList) (fun j hj => hne.out j (by rw [HL.out] at hj; exact hj))
      have HM := Lib.hid hmiss; clear hmiss
      go_wp2_with (show wpList _ _ _ (⟨_, Op.store 59 _ _, _, _, _, _⟩ :: _) _ _
                   go_must (refine store_blk (by rfl) 59 _ _ (by rfl) w.heap.size 0 59 conZ conZ (by rfl) (by rfl) hZ Tryd.infoCon (Con.one Con.z) (by rw [conZ_len]; omega) ?_)
                   intro W3 hB3 hG3
                   rw [spl_all _ _ rfl] at hB3)
      refine bodyPost_ret (results_cell_tmp (P := Tryd.prog) Tryd.results70 _ _ w.heap.size 59 _ _ (by rfl) hB3 Tryd.underlying59 rfl Tryd.infoCon) rfl ?_
      exact ⟨by rw [HM.out]; rfl, FIN.out _ _ hG3 hb⟩
end Go.Proofs.YtddehjgmmeoboaaDoor
