/- The walks of book.both and of the reference's One: two contacts of one name as one. -/
import Derived.Test.YtddehjgmmeoboaaDoorCheck
namespace Go.Proofs.YtddehjgmmeoboaaDoor
open Go.RowKit
set_option maxRecDepth 8000

/-- Two contacts of one name as one. -/
def oneCon (x y : Con) : Con :=
  if 3 ≤ x.l ∧ y.l < 3 then x else if 3 ≤ y.l ∧ x.l < 3 then y else if (x.K == y.K) = true ∧ x.l = y.l then x else ⟨x.s, zero32, if 3 ≤ x.l then 4 else 2⟩
theorem oneCon_key {x y : Con} (hx : x.K.length = 32) (hy : y.K.length = 32) : (oneCon x y).K.length = 32 := by
  unfold oneCon; split
  · exact hx
  · split
    · exact hy
    · split
      · exact hx
      · rfl
theorem Con.eqb_same {x y : Con} (hs : x.s = y.s) : x.eqb y = true ↔ (x.K == y.K) = true ∧ x.l = y.l := by
  unfold Con.eqb; rw [hs]; simp

section
variable {P : Program} {w : World} {ops : Array Oper} {rest : List Oper} {op : Oper} {a : Act} {Q : Exit → Act → World → Prop}
theorem wpList_wanted (hw : Region.wanted op (yielded ops a.tmps) = true) (h : ∀ K, (∀ a' w', wpList P ops Q rest a' w' → K a' w') → op.wp P a w K Q) : wpList P ops Q (op :: rest) a w := by
  rw [wpList, if_pos hw]; exact .inl (h _ fun _ _ h => h)
/-- LOAD of n cells from place o of a block that is known, at a step that is wanted. -/
theorem load_w (hw : Region.wanted op (yielded ops a.tmps) = true) (ty : TypeId) (x : Operand) (ho : op.op = .load ty x) (b o n : Nat) (T : TypeId) (L : List Value) (hx : a.eval x = .pointer (some ⟨b, o, none⟩)) (h : Blk w b T L) (d : TypeDesc)
    (hu : P.underlying ty = some d) (hd : d.isRow = true) (hi : (P.info? ty).map (·.size) = some n) (hn : o + n ≤ L.length) (vs : List Value) (hv : vs = (L.drop o).take n)
    (hK : wpList P ops Q rest (a.put op.dst (.agg vs.toArray)) w) : wpList P ops Q (op :: rest) a w := by
  subst hv
  refine wpList_wanted hw fun K hK' => ?_
  unfold Oper.wp execOp
  have hi' : (P.info? ty).map (·.size) = some ((L.drop o).take n).length := by rw [hi]; simp; omega
  simp only [ho, hx, Instr.loadAt, Instr.sureAddr, Sem.run_bind, Sem.run_pure, Result.andThen_ok, run_loadVar_mid w b o ty _ d (h.range o n) hu hd hi']
  exact hK' _ _ hK
end
theorem Blk.drewN {w : World} {b : Nat} {T : TypeId} {L : List Value} (h : Blk w b T L) (n : Nat) : Blk (w.drewN n) b T L := h
theorem both_end {W3 : World} {b : Nat} {z : Con} (hz : z.c.length = 34) {fn : Func} {p : Tmp} {tmps : Array Value} (hr : fn.results = #[.cell p 59]) (hp : tmps.getD p undef = .pointer (some ⟨b, 0, none⟩)) (hB : Blk W3 b 59 z.c)
    : (results fn tmps).run Tryd.prog W3 = .ok (.agg z.c.toArray) W3 :=
  results_cell_one (P := Tryd.prog) hr tmps W3 b 59 _ _ hp hB Tryd.underlying59 rfl (by rw [hz]; exact Tryd.infoCon)

set_option maxHeartbeats 1000000 in
theorem both_any (x y : Con) (w : World) (hx : x.K.length = 32) (hy : y.K.length = 32) (hs : x.s = y.s) (x1 : 1 ≤ x.l) (x4 : x.l ≤ 4) (y1 : 1 ≤ y.l) (y4 : y.l ≤ 4) :
    Calls Tryd.prog 73 #[.agg x.c.toArray, .agg y.c.toArray] w fun e w' => e = .returned (.agg (oneCon x y).c.toArray) ∧ Below w.heap.size w w' := by
  have hx34 := Lib.hid (x.len hx)
  have hy34 := Lib.hid (y.len hy)
  have HE := Lib.hid (Con.eqb_same hs)
  have HB0 : Hid (∀ o, Below w.heap.size w (((w.alloc (.cells x.c.toArray 59)).alloc (.cells y.c.toArray 59)).alloc o)) := fun o => (((Below.refl _ _).alloc (Nat.le_refl _) _).alloc (by simp) _).alloc (by simp; omega) _
  have HBx : Hid (∀ o, Blk (((w.alloc (.cells x.c.toArray 59)).alloc (.cells y.c.toArray 59)).alloc o) w.heap.size 59 x.c) := fun o => ((Blk.new w _ _).alloc _).alloc _
  have HBy : Hid (∀ o, Blk (((w.alloc (.cells x.c.toArray 59)).alloc (.cells y.c.toArray 59)).alloc o) (w.heap.size + 1) 59 y.c) := fun o => by
    have := (Blk.new (w.alloc (.cells x.c.toArray 59)) 59 y.c).alloc o
    rwa [World.size_alloc] at this
  generalize hW : ((w.alloc (.cells x.c.toArray 59)).alloc (.cells y.c.toArray 59)) = W at *
  have hsz : W.heap.size = w.heap.size + 2 := by rw [← hW]; simp
  have hltx : w.heap.size < W.heap.size := by omega
  have hlty : w.heap.size + 1 < W.heap.size := by omega
  have hxs : W.cell? ⟨w.heap.size, 0, none⟩ = some (.string x.s) := by have := (HBx.out (.cells #[] 0)).cell 0; rw [World.cell?_alloc_lt _ _ _ hltx] at this; exact this.trans x.c0
  have hx33 : W.cell? ⟨w.heap.size, 33, none⟩ = some (.int .i64 x.l) := by have := (HBx.out (.cells #[] 0)).cell 33; rw [World.cell?_alloc_lt _ _ _ hltx] at this; exact this.trans (x.c33 hx)
  have hy33 : W.cell? ⟨w.heap.size + 1, 33, none⟩ = some (.int .i64 y.l) := by have := (HBy.out (.cells #[] 0)).cell 33; rw [World.cell?_alloc_lt _ _ _ hlty] at this; exact this.trans (y.c33 hy)
  have HSZ := Lib.hid hsz; clear hsz
  have HKX := Lib.hid hx; clear hx
  have HKY := Lib.hid hy; clear hy
  clear hs
  have heq : ∀ W : World, (Op.equalIn 10000 59 (.agg x.c.toArray) (.agg y.c.toArray)).run Tryd.prog W = .ok (x.eqb y) W := fun W => con_eq x y HKX.out HKY.out W
  have fin : ∀ (z : Con) (W2 W3 : World) (hG : W2.grownBy W3 (some W.heap.size)) (hb : Below w.heap.size w W2), Below w.heap.size w W3 := fun z W2 W3 hG hb => hb.grown hG (by have := hb.size; omega) (fun k hk => by cases hk; omega)
  have FIN := Lib.hid fin; clear fin
  rcases (show (x.l ≤ 2 ∨ 3 ≤ x.l) by omega) with hx3 | hx3 <;> rcases (show (y.l ≤ 2 ∨ 3 ≤ y.l) by omega) with hy3 | hy3
  · have ex : (x.l + 1) / 2 = 1 := by omega
    have ey : (y.l + 1) / 2 = 1 := by omega
    cases he : x.eqb y with
    | true =>
      have HZ : Hid (oneCon x y = x) := by show _ = _; unfold oneCon; rw [if_neg (by omega), if_neg (by omega), if_pos (HE.out.1 he)]
      go_enter Tryd.func73, Tryd.ntmps73
      go_wp2_with fail
      go_quiet (fail)
      go_wp2_with (first
          | (show wpList _ _ _ (⟨_, Op.load 59 (.tmp 2), _, _, _, _⟩ :: _) _ _
             go_must (refine load_w (by rfl) 59 _ (by rfl) w.heap.size 0 34 59 _ (by rfl) (Blk.drewN (HBx.out _) _) _ Tryd.underlying59 rfl Tryd.infoCon (by rw [hx34.out]; omega) x.c (by rw [List.drop_zero, List.take_of_length_le (by rw [hx34.out]; omega)]) ?_))
          | (show wpList _ _ _ (⟨_, Op.load 59 (.tmp 3), _, _, _, _⟩ :: _) _ _
             go_must (refine load_w (by rfl) 59 _ (by rfl) (w.heap.size + 1) 0 34 59 _ (by rfl) (Blk.drewN (HBy.out _) _) _ Tryd.underlying59 rfl Tryd.infoCon (by rw [hy34.out]; omega) y.c (by rw [List.drop_zero, List.take_of_length_le (by rw [hy34.out]; omega)]) ?_))
          | (show wpList _ _ _ (⟨_, Op.store 59 _ _, _, _, _, _⟩ :: _) _ _
             go_must (refine store_blk (by rfl) 59 _ _ (by rfl) W.heap.size 0 59 conZ x.c (by rfl) (by rfl) (Blk.drewN (Blk.at_new _ _ _ _ _ (by rfl) (by rfl)) _) (by rw [hx34.out]; exact Tryd.infoCon) (Con.one _) (by rw [hx34.out, conZ_len]; omega) ?_)
             intro W3 hB3 hG3
             rw [spl_all _ _ (by rw [hx34.out]; rfl)] at hB3))
      exact bodyPost_ret (both_end hx34.out Tryd.results73 (by rfl) hB3) rfl ⟨by rw [HZ.out], FIN.out x _ _ hG3 (below_draws (HB0.out _) _)⟩
    | false =>
      have HZ : Hid (oneCon x y = ⟨x.s, zero32, 2⟩) := by show _ = _; unfold oneCon; rw [if_neg (by omega), if_neg (by omega), if_neg (fun h => by rw [HE.out.2 h] at he; cases he)]; rw [if_neg (by omega)]
      have hz34 : Hid ((⟨x.s, zero32, 2⟩ : Con).c.length = 34) := Con.len _ rfl
      go_enter Tryd.func73, Tryd.ntmps73
      go_wp2_with fail
      go_quiet (fail)
      go_wp2_with (first
          | (show wpList _ _ _ (⟨_, Op.load 59 (.tmp 2), _, _, _, _⟩ :: _) _ _
             go_must (refine load_w (by rfl) 59 _ (by rfl) w.heap.size 0 34 59 _ (by rfl) (Blk.drewN (HBx.out _) _) _ Tryd.underlying59 rfl Tryd.infoCon (by rw [hx34.out]; omega) x.c (by rw [List.drop_zero, List.take_of_length_le (by rw [hx34.out]; omega)]) ?_))
          | (show wpList _ _ _ (⟨_, Op.load 59 (.tmp 3), _, _, _, _⟩ :: _) _ _
             go_must (refine load_w (by rfl) 59 _ (by rfl) (w.heap.size + 1) 0 34 59 _ (by rfl) (Blk.drewN (HBy.out _) _) _ Tryd.underlying59 rfl Tryd.infoCon (by rw [hy34.out]; omega) y.c (by rw [List.drop_zero, List.take_of_length_le (by rw [hy34.out]; omega)]) ?_))
          | (show wpList _ _ _ (⟨_, Op.store 59 _ _, _, _, _, _⟩ :: _) _ _
             go_must (refine store_blk (by rfl) 59 _ _ (by rfl) W.heap.size 0 59 conZ (⟨x.s, zero32, 2⟩ : Con).c (by rfl) (by rfl) (Blk.drewN (Blk.at_new _ _ _ _ _ (by rfl) (by rfl)) _) (by rw [hz34.out]; exact Tryd.infoCon) (Con.one _) (by rw [hz34.out, conZ_len]; omega) ?_)
             intro W3 hB3 hG3
             rw [spl_all _ _ (by rw [hz34.out]; rfl)] at hB3))
      exact bodyPost_ret (both_end hz34.out Tryd.results73 (by rfl) hB3) rfl ⟨by rw [HZ.out], FIN.out (⟨x.s, zero32, 2⟩ : Con) _ _ hG3 (below_draws (HB0.out _) _)⟩
  · have ex : (x.l + 1) / 2 = 1 := by omega
    have ey : (y.l + 1) / 2 = 2 := by omega
    have he : x.eqb y = false := by
      cases h : x.eqb y
      · rfl
      · have := (HE.out.1 h).2; omega
    have HZ : Hid (oneCon x y = y) := by show _ = _; unfold oneCon; rw [if_neg (by omega), if_pos ⟨hy3, by omega⟩]
    go_enter Tryd.func73, Tryd.ntmps73
    go_wp2_with fail
    go_quiet (fail)
    go_wp2_with (first
        | (show wpList _ _ _ (⟨_, Op.load 59 (.tmp 2), _, _, _, _⟩ :: _) _ _
           go_must (refine load_w (by rfl) 59 _ (by rfl) w.heap.size 0 34 59 _ (by rfl) (Blk.drewN (HBx.out _) _) _ Tryd.underlying59 rfl Tryd.infoCon (by rw [hx34.out]; omega) x.c (by rw [List.drop_zero, List.take_of_length_le (by rw [hx34.out]; omega)]) ?_))
        | (show wpList _ _ _ (⟨_, Op.load 59 (.tmp 3), _, _, _, _⟩ :: _) _ _
           go_must (refine load_w (by rfl) 59 _ (by rfl) (w.heap.size + 1) 0 34 59 _ (by rfl) (Blk.drewN (HBy.out _) _) _ Tryd.underlying59 rfl Tryd.infoCon (by rw [hy34.out]; omega) y.c (by rw [List.drop_zero, List.take_of_length_le (by rw [hy34.out]; omega)]) ?_))
        | (show wpList _ _ _ (⟨_, Op.store 59 _ _, _, _, _, _⟩ :: _) _ _
           go_must (refine store_blk (by rfl) 59 _ _ (by rfl) W.heap.size 0 59 conZ y.c (by rfl) (by rfl) (Blk.drewN (Blk.at_new _ _ _ _ _ (by rfl) (by rfl)) _) (by rw [hy34.out]; exact Tryd.infoCon) (Con.one _) (by rw [hy34.out, conZ_len]; omega) ?_)
           intro W3 hB3 hG3
           rw [spl_all _ _ (by rw [hy34.out]; rfl)] at hB3))
    exact bodyPost_ret (both_end hy34.out Tryd.results73 (by rfl) hB3) rfl ⟨by rw [HZ.out], FIN.out y _ _ hG3 (below_draws (HB0.out _) _)⟩
  · have ex : (x.l + 1) / 2 = 2 := by omega
    have ey : (y.l + 1) / 2 = 1 := by omega
    have HZ : Hid (oneCon x y = x) := by show _ = _; unfold oneCon; rw [if_pos ⟨hx3, by omega⟩]
    go_enter Tryd.func73, Tryd.ntmps73
    go_wp2_with fail
    go_quiet (fail)
    go_wp2_with (first
        | (show wpList _ _ _ (⟨some 24, Op.load 59 (.tmp 2), _, _, _, _⟩ :: _) _ _
           go_must (refine load_w (by rfl) 59 _ (by rfl) w.heap.size 0 34 59 _ (by rfl) (Blk.drewN (HBx.out _) _) _ Tryd.underlying59 rfl Tryd.infoCon (by rw [hx34.out]; omega) x.c (by rw [List.drop_zero, List.take_of_length_le (by rw [hx34.out]; omega)]) ?_))
        | (show wpList _ _ _ (⟨some 24, Op.load 59 (.tmp 3), _, _, _, _⟩ :: _) _ _
           go_must (refine load_w (by rfl) 59 _ (by rfl) (w.heap.size + 1) 0 34 59 _ (by rfl) (Blk.drewN (HBy.out _) _) _ Tryd.underlying59 rfl Tryd.infoCon (by rw [hy34.out]; omega) y.c (by rw [List.drop_zero, List.take_of_length_le (by rw [hy34.out]; omega)]) ?_))
        | (show wpList _ _ _ (⟨_, Op.store 59 _ _, _, _, _, _⟩ :: _) _ _
           go_must (refine store_blk (by rfl) 59 _ _ (by rfl) W.heap.size 0 59 conZ x.c (by rfl) (by rfl) (Blk.drewN (Blk.at_new _ _ _ _ _ (by rfl) (by rfl)) _) (by rw [hx34.out]; exact Tryd.infoCon) (Con.one _) (by rw [hx34.out, conZ_len]; omega) ?_)
           intro W3 hB3 hG3
           rw [spl_all _ _ (by rw [hx34.out]; rfl)] at hB3))
    exact bodyPost_ret (both_end hx34.out Tryd.results73 (by rfl) hB3) rfl ⟨by rw [HZ.out], FIN.out x _ _ hG3 (below_draws (HB0.out _) _)⟩
  · have ex : (x.l + 1) / 2 = 2 := by omega
    have ey : (y.l + 1) / 2 = 2 := by omega
    cases he : x.eqb y with
    | true =>
      have HZ : Hid (oneCon x y = x) := by show _ = _; unfold oneCon; rw [if_neg (by omega), if_neg (by omega), if_pos (HE.out.1 he)]
      go_enter Tryd.func73, Tryd.ntmps73
      go_wp2_with fail
      go_quiet (fail)
      go_wp2_with (first
          | (show wpList _ _ _ (⟨_, Op.load 59 (.tmp 2), _, _, _, _⟩ :: _) _ _
             go_must (refine load_w (by rfl) 59 _ (by rfl) w.heap.size 0 34 59 _ (by rfl) (Blk.drewN (HBx.out _) _) _ Tryd.underlying59 rfl Tryd.infoCon (by rw [hx34.out]; omega) x.c (by rw [List.drop_zero, List.take_of_length_le (by rw [hx34.out]; omega)]) ?_))
          | (show wpList _ _ _ (⟨_, Op.load 59 (.tmp 3), _, _, _, _⟩ :: _) _ _
             go_must (refine load_w (by rfl) 59 _ (by rfl) (w.heap.size + 1) 0 34 59 _ (by rfl) (Blk.drewN (HBy.out _) _) _ Tryd.underlying59 rfl Tryd.infoCon (by rw [hy34.out]; omega) y.c (by rw [List.drop_zero, List.take_of_length_le (by rw [hy34.out]; omega)]) ?_))
          | (show wpList _ _ _ (⟨_, Op.store 59 _ _, _, _, _, _⟩ :: _) _ _
             go_must (refine store_blk (by rfl) 59 _ _ (by rfl) W.heap.size 0 59 conZ x.c (by rfl) (by rfl) (Blk.drewN (Blk.at_new _ _ _ _ _ (by rfl) (by rfl)) _) (by rw [hx34.out]; exact Tryd.infoCon) (Con.one _) (by rw [hx34.out, conZ_len]; omega) ?_)
             intro W3 hB3 hG3
             rw [spl_all _ _ (by rw [hx34.out]; rfl)] at hB3))
      exact bodyPost_ret (both_end hx34.out Tryd.results73 (by rfl) hB3) rfl ⟨by rw [HZ.out], FIN.out x _ _ hG3 (below_draws (HB0.out _) _)⟩
    | false =>
      have HZ : Hid (oneCon x y = ⟨x.s, zero32, 4⟩) := by show _ = _; unfold oneCon; rw [if_neg (by omega), if_neg (by omega), if_neg (fun h => by rw [HE.out.2 h] at he; cases he)]; rw [if_pos hx3]
      have hz34 : Hid ((⟨x.s, zero32, 4⟩ : Con).c.length = 34) := Con.len _ rfl
      go_enter Tryd.func73, Tryd.ntmps73
      go_wp2_with fail
      go_quiet (fail)
      go_wp2_with (first
          | (show wpList _ _ _ (⟨_, Op.load 59 (.tmp 2), _, _, _, _⟩ :: _) _ _
             go_must (refine load_w (by rfl) 59 _ (by rfl) w.heap.size 0 34 59 _ (by rfl) (Blk.drewN (HBx.out _) _) _ Tryd.underlying59 rfl Tryd.infoCon (by rw [hx34.out]; omega) x.c (by rw [List.drop_zero, List.take_of_length_le (by rw [hx34.out]; omega)]) ?_))
          | (show wpList _ _ _ (⟨_, Op.load 59 (.tmp 3), _, _, _, _⟩ :: _) _ _
             go_must (refine load_w (by rfl) 59 _ (by rfl) (w.heap.size + 1) 0 34 59 _ (by rfl) (Blk.drewN (HBy.out _) _) _ Tryd.underlying59 rfl Tryd.infoCon (by rw [hy34.out]; omega) y.c (by rw [List.drop_zero, List.take_of_length_le (by rw [hy34.out]; omega)]) ?_))
          | (show wpList _ _ _ (⟨_, Op.store 59 _ _, _, _, _, _⟩ :: _) _ _
             go_must (refine store_blk (by rfl) 59 _ _ (by rfl) W.heap.size 0 59 conZ (⟨x.s, zero32, 4⟩ : Con).c (by rfl) (by rfl) (Blk.drewN (Blk.at_new _ _ _ _ _ (by rfl) (by rfl)) _) (by rw [hz34.out]; exact Tryd.infoCon) (Con.one _) (by rw [hz34.out, conZ_len]; omega) ?_)
             intro W3 hB3 hG3
             rw [spl_all _ _ (by rw [hz34.out]; rfl)] at hB3))
      exact bodyPost_ret (both_end hz34.out Tryd.results73 (by rfl) hB3) rfl ⟨by rw [HZ.out], FIN.out (⟨x.s, zero32, 4⟩ : Con) _ _ hG3 (below_draws (HB0.out _) _)⟩

set_option maxHeartbeats 1000000 in
theorem one_any (x y : Con) (w : World) (hx : x.K.length = 32) (hy : y.K.length = 32) (x1 : 1 ≤ x.l) (x4 : x.l ≤ 4) (y1 : 1 ≤ y.l) (y4 : y.l ≤ 4) :
    Calls Tryd.prog 71 #[.agg x.c.toArray, .agg y.c.toArray] w fun e w' => e = .returned (.agg (oneCon x y).c.toArray) ∧ Below w.heap.size w w' := by
  have hx34 := Lib.hid (x.len hx)
  have hy34 := Lib.hid (y.len hy)
  have HB0 : Hid (∀ o, Below w.heap.size w (((w.alloc (.cells x.c.toArray 59)).alloc (.cells y.c.toArray 59)).alloc o)) := fun o => (((Below.refl _ _).alloc (Nat.le_refl _) _).alloc (by simp) _).alloc (by simp; omega) _
  have HBx : Hid (∀ o, Blk (((w.alloc (.cells x.c.toArray 59)).alloc (.cells y.c.toArray 59)).alloc o) w.heap.size 59 x.c) := fun o => ((Blk.new w _ _).alloc _).alloc _
  have HBy : Hid (∀ o, Blk (((w.alloc (.cells x.c.toArray 59)).alloc (.cells y.c.toArray 59)).alloc o) (w.heap.size + 1) 59 y.c) := fun o => by
    have := (Blk.new (w.alloc (.cells x.c.toArray 59)) 59 y.c).alloc o
    rwa [World.size_alloc] at this
  generalize hW : ((w.alloc (.cells x.c.toArray 59)).alloc (.cells y.c.toArray 59)) = W at *
  have hsz : W.heap.size = w.heap.size + 2 := by rw [← hW]; simp
  have hltx : w.heap.size < W.heap.size := by omega
  have hlty : w.heap.size + 1 < W.heap.size := by omega
  have hxs : W.cell? ⟨w.heap.size, 0, none⟩ = some (.string x.s) := by have := (HBx.out (.cells #[] 0)).cell 0; rw [World.cell?_alloc_lt _ _ _ hltx] at this; exact this.trans x.c0
  have hx33 : W.cell? ⟨w.heap.size, 33, none⟩ = some (.int .i64 x.l) := by have := (HBx.out (.cells #[] 0)).cell 33; rw [World.cell?_alloc_lt _ _ _ hltx] at this; exact this.trans (x.c33 hx)
  have hy33 : W.cell? ⟨w.heap.size + 1, 33, none⟩ = some (.int .i64 y.l) := by have := (HBy.out (.cells #[] 0)).cell 33; rw [World.cell?_alloc_lt _ _ _ hlty] at this; exact this.trans (y.c33 hy)
  have HSZ := Lib.hid hsz; clear hsz
  have HKX := Lib.hid hx; clear hx
  have HKY := Lib.hid hy; clear hy
  have heq : ∀ W : World, (Op.equalIn 10000 23 (.agg (x.K.map B).toArray) (.agg (y.K.map B).toArray)).run Tryd.prog W = .ok (x.K == y.K) W := fun W => run_eq_dig W HKX.out HKY.out
  have e1 : ∀ z : Con, z.K.length = 32 → z.K.map B = (z.c.drop 1).take 32 := fun z hz => by
    unfold Con.c; rw [List.drop_one, List.tail_cons, List.take_left' (by rw [List.length_map, hz])]
  have EX := Lib.hid (e1 x HKX.out)
  have EY := Lib.hid (e1 y HKY.out)
  clear e1
  have fin : ∀ (z : Con) (W2 W3 : World) (hG : W2.grownBy W3 (some W.heap.size)) (hb : Below w.heap.size w W2), Below w.heap.size w W3 := fun z W2 W3 hG hb => hb.grown hG (by have := hb.size; omega) (fun k hk => by cases hk; omega)
  have FIN := Lib.hid fin; clear fin
  rcases (show (x.l < 3 ∨ 3 ≤ x.l) by omega) with hx3 | hx3 <;> rcases (show (y.l < 3 ∨ 3 ≤ y.l) by omega) with hy3 | hy3
  · have dx : decide (3 ≤ x.l) = false := decide_eq_false (by omega)
    have dy : decide (3 ≤ y.l) = false := decide_eq_false (by omega)
    have dx' : decide (x.l < 3) = true := decide_eq_true (by omega)
    have dy' : decide (y.l < 3) = true := decide_eq_true (by omega)
    by_cases hk : (x.K == y.K) = true ∧ x.l = y.l
    · have HZ : Hid (oneCon x y = x) := by show _ = _; unfold oneCon; rw [if_neg (by omega), if_neg (by omega), if_pos hk]
      obtain ⟨hk1, hk2⟩ := hk
      have hk3 : (x.l == y.l) = true := by rw [hk2]; simp
      clear hk2 hx3 hy3
      go_enter Tryd.func71, Tryd.ntmps71
      go_wp2_with (first
          | (show wpList _ _ _ (⟨_, Op.load 59 (.tmp 2), _, _, _, _⟩ :: _) _ _
             go_must (refine load_w (by rfl) 59 _ (by rfl) w.heap.size 0 34 59 _ (by rfl) (HBx.out _) _ Tryd.underlying59 rfl Tryd.infoCon (by rw [hx34.out]; omega) x.c (by rw [List.drop_zero, List.take_of_length_le (by rw [hx34.out]; omega)]) ?_))
          | (show wpList _ _ _ (⟨_, Op.load 59 (.tmp 3), _, _, _, _⟩ :: _) _ _
             go_must (refine load_w (by rfl) 59 _ (by rfl) (w.heap.size + 1) 0 34 59 _ (by rfl) (HBy.out _) _ Tryd.underlying59 rfl Tryd.infoCon (by rw [hy34.out]; omega) y.c (by rw [List.drop_zero, List.take_of_length_le (by rw [hy34.out]; omega)]) ?_))
          | (show wpList _ _ _ (⟨_, Op.load 23 (.tmp 23), _, _, _, _⟩ :: _) _ _
             go_must (refine load_w (by rfl) 23 _ (by rfl) w.heap.size 1 32 59 _ (by rfl) (HBx.out _) _ Tryd.underlying23 rfl Tryd.infoDig (by rw [hx34.out]; omega) (x.K.map B) EX.out ?_))
          | (show wpList _ _ _ (⟨_, Op.load 23 (.tmp 25), _, _, _, _⟩ :: _) _ _
             go_must (refine load_w (by rfl) 23 _ (by rfl) (w.heap.size + 1) 1 32 59 _ (by rfl) (HBy.out _) _ Tryd.underlying23 rfl Tryd.infoDig (by rw [hy34.out]; omega) (y.K.map B) EY.out ?_))
          | (show wpList _ _ _ (⟨_, Op.store 59 _ _, _, _, _, _⟩ :: _) _ _
             go_must (refine store_blk (by rfl) 59 _ _ (by rfl) W.heap.size 0 59 conZ x.c (by rfl) (by rfl) (Blk.at_new _ _ _ _ _ (by rfl) (by rfl)) (by rw [hx34.out]; exact Tryd.infoCon) (Con.one _) (by rw [hx34.out, conZ_len]; omega) ?_)
             intro W3 hB3 hG3
             rw [spl_all _ _ (by rw [hx34.out]; rfl)] at hB3))
      exact bodyPost_ret (both_end hx34.out Tryd.results71 (by rfl) hB3) rfl ⟨by rw [HZ.out], FIN.out x _ _ hG3 (HB0.out _)⟩
    · have HZ : Hid (oneCon x y = ⟨x.s, zero32, 2⟩) := by show _ = _; unfold oneCon; rw [if_neg (by omega), if_neg (by omega), if_neg hk]; rw [if_neg (by omega)]
      have hz34 : Hid ((⟨x.s, zero32, 2⟩ : Con).c.length = 34) := Con.len _ rfl
      clear hx3 hy3
      by_cases hk1 : (x.K == y.K) = true
      · have hk3 : (x.l == y.l) = false := by
          cases h : (x.l == y.l)
          · rfl
          · exact absurd ⟨hk1, by simpa using h⟩ hk
        clear hk
        go_enter Tryd.func71, Tryd.ntmps71
        go_wp2_with (first
            | (show wpList _ _ _ (⟨_, Op.load 59 (.tmp 2), _, _, _, _⟩ :: _) _ _
               go_must (refine load_w (by rfl) 59 _ (by rfl) w.heap.size 0 34 59 _ (by rfl) (HBx.out _) _ Tryd.underlying59 rfl Tryd.infoCon (by rw [hx34.out]; omega) x.c (by rw [List.drop_zero, List.take_of_length_le (by rw [hx34.out]; omega)]) ?_))
            | (show wpList _ _ _ (⟨_, Op.load 59 (.tmp 3), _, _, _, _⟩ :: _) _ _
               go_must (refine load_w (by rfl) 59 _ (by rfl) (w.heap.size + 1) 0 34 59 _ (by rfl) (HBy.out _) _ Tryd.underlying59 rfl Tryd.infoCon (by rw [hy34.out]; omega) y.c (by rw [List.drop_zero, List.take_of_length_le (by rw [hy34.out]; omega)]) ?_))
            | (show wpList _ _ _ (⟨_, Op.load 23 (.tmp 23), _, _, _, _⟩ :: _) _ _
               go_must (refine load_w (by rfl) 23 _ (by rfl) w.heap.size 1 32 59 _ (by rfl) (HBx.out _) _ Tryd.underlying23 rfl Tryd.infoDig (by rw [hx34.out]; omega) (x.K.map B) EX.out ?_))
            | (show wpList _ _ _ (⟨_, Op.load 23 (.tmp 25), _, _, _, _⟩ :: _) _ _
               go_must (refine load_w (by rfl) 23 _ (by rfl) (w.heap.size + 1) 1 32 59 _ (by rfl) (HBy.out _) _ Tryd.underlying23 rfl Tryd.infoDig (by rw [hy34.out]; omega) (y.K.map B) EY.out ?_))
            | (show wpList _ _ _ (⟨_, Op.store 59 _ _, _, _, _, _⟩ :: _) _ _
               go_must (refine store_blk (by rfl) 59 _ _ (by rfl) W.heap.size 0 59 conZ (⟨x.s, zero32, 2⟩ : Con).c (by rfl) (by rfl) (Blk.at_new _ _ _ _ _ (by rfl) (by rfl)) (by rw [hz34.out]; exact Tryd.infoCon) (Con.one _) (by rw [hz34.out, conZ_len]; omega) ?_)
               intro W3 hB3 hG3
               rw [spl_all _ _ (by rw [hz34.out]; rfl)] at hB3))
        exact bodyPost_ret (both_end hz34.out Tryd.results71 (by rfl) hB3) rfl ⟨by rw [HZ.out], FIN.out (⟨x.s, zero32, 2⟩ : Con) _ _ hG3 (HB0.out _)⟩
      · have hk2 : (x.K == y.K) = false := by simpa using hk1
        clear hk hk1
        go_enter Tryd.func71, Tryd.ntmps71
        go_wp2_with (first
            | (show wpList _ _ _ (⟨_, Op.load 59 (.tmp 2), _, _, _, _⟩ :: _) _ _
               go_must (refine load_w (by rfl) 59 _ (by rfl) w.heap.size 0 34 59 _ (by rfl) (HBx.out _) _ Tryd.underlying59 rfl Tryd.infoCon (by rw [hx34.out]; omega) x.c (by rw [List.drop_zero, List.take_of_length_le (by rw [hx34.out]; omega)]) ?_))
            | (show wpList _ _ _ (⟨_, Op.load 59 (.tmp 3), _, _, _, _⟩ :: _) _ _
               go_must (refine load_w (by rfl) 59 _ (by rfl) (w.heap.size + 1) 0 34 59 _ (by rfl) (HBy.out _) _ Tryd.underlying59 rfl Tryd.infoCon (by rw [hy34.out]; omega) y.c (by rw [List.drop_zero, List.take_of_length_le (by rw [hy34.out]; omega)]) ?_))
            | (show wpList _ _ _ (⟨_, Op.load 23 (.tmp 23), _, _, _, _⟩ :: _) _ _
               go_must (refine load_w (by rfl) 23 _ (by rfl) w.heap.size 1 32 59 _ (by rfl) (HBx.out _) _ Tryd.underlying23 rfl Tryd.infoDig (by rw [hx34.out]; omega) (x.K.map B) EX.out ?_))
            | (show wpList _ _ _ (⟨_, Op.load 23 (.tmp 25), _, _, _, _⟩ :: _) _ _
               go_must (refine load_w (by rfl) 23 _ (by rfl) (w.heap.size + 1) 1 32 59 _ (by rfl) (HBy.out _) _ Tryd.underlying23 rfl Tryd.infoDig (by rw [hy34.out]; omega) (y.K.map B) EY.out ?_))
            | (show wpList _ _ _ (⟨_, Op.store 59 _ _, _, _, _, _⟩ :: _) _ _
               go_must (refine store_blk (by rfl) 59 _ _ (by rfl) W.heap.size 0 59 conZ (⟨x.s, zero32, 2⟩ : Con).c (by rfl) (by rfl) (Blk.at_new _ _ _ _ _ (by rfl) (by rfl)) (by rw [hz34.out]; exact Tryd.infoCon) (Con.one _) (by rw [hz34.out, conZ_len]; omega) ?_)
               intro W3 hB3 hG3
               rw [spl_all _ _ (by rw [hz34.out]; rfl)] at hB3))
        exact bodyPost_ret (both_end hz34.out Tryd.results71 (by rfl) hB3) rfl ⟨by rw [HZ.out], FIN.out (⟨x.s, zero32, 2⟩ : Con) _ _ hG3 (HB0.out _)⟩
  · have dx : decide (3 ≤ x.l) = false := decide_eq_false (by omega)
    have dy : decide (3 ≤ y.l) = true := decide_eq_true (by omega)
    have dx' : decide (x.l < 3) = true := decide_eq_true (by omega)
    have dy' : decide (y.l < 3) = false := decide_eq_false (by omega)
    have HZ : Hid (oneCon x y = y) := by show _ = _; unfold oneCon; rw [if_neg (by omega), if_pos ⟨hy3, by omega⟩]
    clear hx3 hy3
    go_enter Tryd.func71, Tryd.ntmps71
    go_wp2_with (first
        | (show wpList _ _ _ (⟨_, Op.load 59 (.tmp 2), _, _, _, _⟩ :: _) _ _
           go_must (refine load_w (by rfl) 59 _ (by rfl) w.heap.size 0 34 59 _ (by rfl) (HBx.out _) _ Tryd.underlying59 rfl Tryd.infoCon (by rw [hx34.out]; omega) x.c (by rw [List.drop_zero, List.take_of_length_le (by rw [hx34.out]; omega)]) ?_))
        | (show wpList _ _ _ (⟨_, Op.load 59 (.tmp 3), _, _, _, _⟩ :: _) _ _
           go_must (refine load_w (by rfl) 59 _ (by rfl) (w.heap.size + 1) 0 34 59 _ (by rfl) (HBy.out _) _ Tryd.underlying59 rfl Tryd.infoCon (by rw [hy34.out]; omega) y.c (by rw [List.drop_zero, List.take_of_length_le (by rw [hy34.out]; omega)]) ?_))
        | (show wpList _ _ _ (⟨_, Op.load 23 (.tmp 23), _, _, _, _⟩ :: _) _ _
           go_must (refine load_w (by rfl) 23 _ (by rfl) w.heap.size 1 32 59 _ (by rfl) (HBx.out _) _ Tryd.underlying23 rfl Tryd.infoDig (by rw [hx34.out]; omega) (x.K.map B) EX.out ?_))
        | (show wpList _ _ _ (⟨_, Op.load 23 (.tmp 25), _, _, _, _⟩ :: _) _ _
           go_must (refine load_w (by rfl) 23 _ (by rfl) (w.heap.size + 1) 1 32 59 _ (by rfl) (HBy.out _) _ Tryd.underlying23 rfl Tryd.infoDig (by rw [hy34.out]; omega) (y.K.map B) EY.out ?_))
        | (show wpList _ _ _ (⟨_, Op.store 59 _ _, _, _, _, _⟩ :: _) _ _
           go_must (refine store_blk (by rfl) 59 _ _ (by rfl) W.heap.size 0 59 conZ y.c (by rfl) (by rfl) (Blk.at_new _ _ _ _ _ (by rfl) (by rfl)) (by rw [hy34.out]; exact Tryd.infoCon) (Con.one _) (by rw [hy34.out, conZ_len]; omega) ?_)
           intro W3 hB3 hG3
           rw [spl_all _ _ (by rw [hy34.out]; rfl)] at hB3))
    exact bodyPost_ret (both_end hy34.out Tryd.results71 (by rfl) hB3) rfl ⟨by rw [HZ.out], FIN.out y _ _ hG3 (HB0.out _)⟩
  · have dx : decide (3 ≤ x.l) = true := decide_eq_true (by omega)
    have dy : decide (3 ≤ y.l) = false := decide_eq_false (by omega)
    have dx' : decide (x.l < 3) = false := decide_eq_false (by omega)
    have dy' : decide (y.l < 3) = true := decide_eq_true (by omega)
    have HZ : Hid (oneCon x y = x) := by show _ = _; unfold oneCon; rw [if_pos ⟨hx3, by omega⟩]
    clear hx3 hy3
    go_enter Tryd.func71, Tryd.ntmps71
    go_wp2_with (first
        | (show wpList _ _ _ (⟨_, Op.load 59 (.tmp 2), _, _, _, _⟩ :: _) _ _
           go_must (refine load_w (by rfl) 59 _ (by rfl) w.heap.size 0 34 59 _ (by rfl) (HBx.out _) _ Tryd.underlying59 rfl Tryd.infoCon (by rw [hx34.out]; omega) x.c (by rw [List.drop_zero, List.take_of_length_le (by rw [hx34.out]; omega)]) ?_))
        | (show wpList _ _ _ (⟨_, Op.load 59 (.tmp 3), _, _, _, _⟩ :: _) _ _
           go_must (refine load_w (by rfl) 59 _ (by rfl) (w.heap.size + 1) 0 34 59 _ (by rfl) (HBy.out _) _ Tryd.underlying59 rfl Tryd.infoCon (by rw [hy34.out]; omega) y.c (by rw [List.drop_zero, List.take_of_length_le (by rw [hy34.out]; omega)]) ?_))
        | (show wpList _ _ _ (⟨_, Op.load 23 (.tmp 23), _, _, _, _⟩ :: _) _ _
           go_must (refine load_w (by rfl) 23 _ (by rfl) w.heap.size 1 32 59 _ (by rfl) (HBx.out _) _ Tryd.underlying23 rfl Tryd.infoDig (by rw [hx34.out]; omega) (x.K.map B) EX.out ?_))
        | (show wpList _ _ _ (⟨_, Op.load 23 (.tmp 25), _, _, _, _⟩ :: _) _ _
           go_must (refine load_w (by rfl) 23 _ (by rfl) (w.heap.size + 1) 1 32 59 _ (by rfl) (HBy.out _) _ Tryd.underlying23 rfl Tryd.infoDig (by rw [hy34.out]; omega) (y.K.map B) EY.out ?_))
        | (show wpList _ _ _ (⟨_, Op.store 59 _ _, _, _, _, _⟩ :: _) _ _
           go_must (refine store_blk (by rfl) 59 _ _ (by rfl) W.heap.size 0 59 conZ x.c (by rfl) (by rfl) (Blk.at_new _ _ _ _ _ (by rfl) (by rfl)) (by rw [hx34.out]; exact Tryd.infoCon) (Con.one _) (by rw [hx34.out, conZ_len]; omega) ?_)
           intro W3 hB3 hG3
           rw [spl_all _ _ (by rw [hx34.out]; rfl)] at hB3))
    exact bodyPost_ret (both_end hx34.out Tryd.results71 (by rfl) hB3) rfl ⟨by rw [HZ.out], FIN.out x _ _ hG3 (HB0.out _)⟩
  · have dx : decide (3 ≤ x.l) = true := decide_eq_true (by omega)
    have dy : decide (3 ≤ y.l) = true := decide_eq_true (by omega)
    have dx' : decide (x.l < 3) = false := decide_eq_false (by omega)
    have dy' : decide (y.l < 3) = false := decide_eq_false (by omega)
    by_cases hk : (x.K == y.K) = true ∧ x.l = y.l
    · have HZ : Hid (oneCon x y = x) := by show _ = _; unfold oneCon; rw [if_neg (by omega), if_neg (by omega), if_pos hk]
      obtain ⟨hk1, hk2⟩ := hk
      have hk3 : (x.l == y.l) = true := by rw [hk2]; simp
      clear hk2 hx3 hy3
      go_enter Tryd.func71, Tryd.ntmps71
      go_wp2_with (first
          | (show wpList _ _ _ (⟨_, Op.load 59 (.tmp 2), _, _, _, _⟩ :: _) _ _
             go_must (refine load_w (by rfl) 59 _ (by rfl) w.heap.size 0 34 59 _ (by rfl) (HBx.out _) _ Tryd.underlying59 rfl Tryd.infoCon (by rw [hx34.out]; omega) x.c (by rw [List.drop_zero, List.take_of_length_le (by rw [hx34.out]; omega)]) ?_))
          | (show wpList _ _ _ (⟨_, Op.load 59 (.tmp 3), _, _, _, _⟩ :: _) _ _
             go_must (refine load_w (by rfl) 59 _ (by rfl) (w.heap.size + 1) 0 34 59 _ (by rfl) (HBy.out _) _ Tryd.underlying59 rfl Tryd.infoCon (by rw [hy34.out]; omega) y.c (by rw [List.drop_zero, List.take_of_length_le (by rw [hy34.out]; omega)]) ?_))
          | (show wpList _ _ _ (⟨_, Op.load 23 (.tmp 23), _, _, _, _⟩ :: _) _ _
             go_must (refine load_w (by rfl) 23 _ (by rfl) w.heap.size 1 32 59 _ (by rfl) (HBx.out _) _ Tryd.underlying23 rfl Tryd.infoDig (by rw [hx34.out]; omega) (x.K.map B) EX.out ?_))
          | (show wpList _ _ _ (⟨_, Op.load 23 (.tmp 25), _, _, _, _⟩ :: _) _ _
             go_must (refine load_w (by rfl) 23 _ (by rfl) (w.heap.size + 1) 1 32 59 _ (by rfl) (HBy.out _) _ Tryd.underlying23 rfl Tryd.infoDig (by rw [hy34.out]; omega) (y.K.map B) EY.out ?_))
          | (show wpList _ _ _ (⟨_, Op.store 59 _ _, _, _, _, _⟩ :: _) _ _
             go_must (refine store_blk (by rfl) 59 _ _ (by rfl) W.heap.size 0 59 conZ x.c (by rfl) (by rfl) (Blk.at_new _ _ _ _ _ (by rfl) (by rfl)) (by rw [hx34.out]; exact Tryd.infoCon) (Con.one _) (by rw [hx34.out, conZ_len]; omega) ?_)
             intro W3 hB3 hG3
             rw [spl_all _ _ (by rw [hx34.out]; rfl)] at hB3))
      exact bodyPost_ret (both_end hx34.out Tryd.results71 (by rfl) hB3) rfl ⟨by rw [HZ.out], FIN.out x _ _ hG3 (HB0.out _)⟩
    · have HZ : Hid (oneCon x y = ⟨x.s, zero32, 4⟩) := by show _ = _; unfold oneCon; rw [if_neg (by omega), if_neg (by omega), if_neg hk]; rw [if_pos hx3]
      have hz34 : Hid ((⟨x.s, zero32, 4⟩ : Con).c.length = 34) := Con.len _ rfl
      clear hx3 hy3
      by_cases hk1 : (x.K == y.K) = true
      · have hk3 : (x.l == y.l) = false := by
          cases h : (x.l == y.l)
          · rfl
          · exact absurd ⟨hk1, by simpa using h⟩ hk
        clear hk
        go_enter Tryd.func71, Tryd.ntmps71
        go_wp2_with (first
            | (show wpList _ _ _ (⟨_, Op.load 59 (.tmp 2), _, _, _, _⟩ :: _) _ _
               go_must (refine load_w (by rfl) 59 _ (by rfl) w.heap.size 0 34 59 _ (by rfl) (HBx.out _) _ Tryd.underlying59 rfl Tryd.infoCon (by rw [hx34.out]; omega) x.c (by rw [List.drop_zero, List.take_of_length_le (by rw [hx34.out]; omega)]) ?_))
            | (show wpList _ _ _ (⟨_, Op.load 59 (.tmp 3), _, _, _, _⟩ :: _) _ _
               go_must (refine load_w (by rfl) 59 _ (by rfl) (w.heap.size + 1) 0 34 59 _ (by rfl) (HBy.out _) _ Tryd.underlying59 rfl Tryd.infoCon (by rw [hy34.out]; omega) y.c (by rw [List.drop_zero, List.take_of_length_le (by rw [hy34.out]; omega)]) ?_))
            | (show wpList _ _ _ (⟨_, Op.load 23 (.tmp 23), _, _, _, _⟩ :: _) _ _
               go_must (refine load_w (by rfl) 23 _ (by rfl) w.heap.size 1 32 59 _ (by rfl) (HBx.out _) _ Tryd.underlying23 rfl Tryd.infoDig (by rw [hx34.out]; omega) (x.K.map B) EX.out ?_))
            | (show wpList _ _ _ (⟨_, Op.load 23 (.tmp 25), _, _, _, _⟩ :: _) _ _
               go_must (refine load_w (by rfl) 23 _ (by rfl) (w.heap.size + 1) 1 32 59 _ (by rfl) (HBy.out _) _ Tryd.underlying23 rfl Tryd.infoDig (by rw [hy34.out]; omega) (y.K.map B) EY.out ?_))
            | (show wpList _ _ _ (⟨_, Op.store 59 _ _, _, _, _, _⟩ :: _) _ _
               go_must (refine store_blk (by rfl) 59 _ _ (by rfl) W.heap.size 0 59 conZ (⟨x.s, zero32, 4⟩ : Con).c (by rfl) (by rfl) (Blk.at_new _ _ _ _ _ (by rfl) (by rfl)) (by rw [hz34.out]; exact Tryd.infoCon) (Con.one _) (by rw [hz34.out, conZ_len]; omega) ?_)
               intro W3 hB3 hG3
               rw [spl_all _ _ (by rw [hz34.out]; rfl)] at hB3))
        exact bodyPost_ret (both_end hz34.out Tryd.results71 (by rfl) hB3) rfl ⟨by rw [HZ.out], FIN.out (⟨x.s, zero32, 4⟩ : Con) _ _ hG3 (HB0.out _)⟩
      · have hk2 : (x.K == y.K) = false := by simpa using hk1
        clear hk hk1
        go_enter Tryd.func71, Tryd.ntmps71
        go_wp2_with (first
            | (show wpList _ _ _ (⟨_, Op.load 59 (.tmp 2), _, _, _, _⟩ :: _) _ _
               go_must (refine load_w (by rfl) 59 _ (by rfl) w.heap.size 0 34 59 _ (by rfl) (HBx.out _) _ Tryd.underlying59 rfl Tryd.infoCon (by rw [hx34.out]; omega) x.c (by rw [List.drop_zero, List.take_of_length_le (by rw [hx34.out]; omega)]) ?_))
            | (show wpList _ _ _ (⟨_, Op.load 59 (.tmp 3), _, _, _, _⟩ :: _) _ _
               go_must (refine load_w (by rfl) 59 _ (by rfl) (w.heap.size + 1) 0 34 59 _ (by rfl) (HBy.out _) _ Tryd.underlying59 rfl Tryd.infoCon (by rw [hy34.out]; omega) y.c (by rw [List.drop_zero, List.take_of_length_le (by rw [hy34.out]; omega)]) ?_))
            | (show wpList _ _ _ (⟨_, Op.load 23 (.tmp 23), _, _, _, _⟩ :: _) _ _
               go_must (refine load_w (by rfl) 23 _ (by rfl) w.heap.size 1 32 59 _ (by rfl) (HBx.out _) _ Tryd.underlying23 rfl Tryd.infoDig (by rw [hx34.out]; omega) (x.K.map B) EX.out ?_))
            | (show wpList _ _ _ (⟨_, Op.load 23 (.tmp 25), _, _, _, _⟩ :: _) _ _
               go_must (refine load_w (by rfl) 23 _ (by rfl) (w.heap.size + 1) 1 32 59 _ (by rfl) (HBy.out _) _ Tryd.underlying23 rfl Tryd.infoDig (by rw [hy34.out]; omega) (y.K.map B) EY.out ?_))
            | (show wpList _ _ _ (⟨_, Op.store 59 _ _, _, _, _, _⟩ :: _) _ _
               go_must (refine store_blk (by rfl) 59 _ _ (by rfl) W.heap.size 0 59 conZ (⟨x.s, zero32, 4⟩ : Con).c (by rfl) (by rfl) (Blk.at_new _ _ _ _ _ (by rfl) (by rfl)) (by rw [hz34.out]; exact Tryd.infoCon) (Con.one _) (by rw [hz34.out, conZ_len]; omega) ?_)
               intro W3 hB3 hG3
               rw [spl_all _ _ (by rw [hz34.out]; rfl)] at hB3))
        exact bodyPost_ret (both_end hz34.out Tryd.results71 (by rfl) hB3) rfl ⟨by rw [HZ.out], FIN.out (⟨x.s, zero32, 4⟩ : Con) _ _ hG3 (HB0.out _)⟩
end Go.Proofs.YtddehjgmmeoboaaDoor
