/- The walks of book.Meet and book.Trust. -/
import Derived.Test.YtddehjgmmeoboaaDoorJoin
namespace Go.Proofs.YtddehjgmmeoboaaDoor
open Go.RowKit
set_option maxRecDepth 8000

theorem run_build_con32 (s : ByteArray) (k0 k1 k2 k3 k4 k5 k6 k7 k8 k9 k10 k11 k12 k13 k14 k15 k16 k17 k18 k19 k20 k21 k22 k23 k24 k25 k26 k27 k28 k29 k30 k31 : UInt8) (l : Int) (w : World) :
    (Instr.build 59 #[(0, .string s), (1, .agg ([k0, k1, k2, k3, k4, k5, k6, k7, k8, k9, k10, k11, k12, k13, k14, k15, k16, k17, k18, k19, k20, k21, k22, k23, k24, k25, k26, k27, k28, k29, k30, k31].map B).toArray), (2, .int .i64 l)]).run Tryd.prog w = .ok (.agg (Con.c ⟨s, [k0, k1, k2, k3, k4, k5, k6, k7, k8, k9, k10, k11, k12, k13, k14, k15, k16, k17, k18, k19, k20, k21, k22, k23, k24, k25, k26, k27, k28, k29, k30, k31], l⟩).toArray) w := by kernel_rfl
theorem run_build_con (s : ByteArray) (K : List UInt8) (l : Int) (hK : K.length = 32) (w : World) :
    (Instr.build 59 #[(0, .string s), (1, .agg (K.map B).toArray), (2, .int .i64 l)]).run Tryd.prog w = .ok (.agg (Con.c ⟨s, K, l⟩).toArray) w :=
  match K, hK with
  | [k0, k1, k2, k3, k4, k5, k6, k7, k8, k9, k10, k11, k12, k13, k14, k15, k16, k17, k18, k19, k20, k21, k22, k23, k24, k25, k26, k27, k28, k29, k30, k31], _ => run_build_con32 s k0 k1 k2 k3 k4 k5 k6 k7 k8 k9 k10 k11 k12 k13 k14 k15 k16 k17 k18 k19 k20 k21 k22 k23 k24 k25 k26 k27 k28 k29 k30 k31 l w
section
variable {w : World} {ops : Array Oper} {rest : List Oper} {op : Oper} {a : Act} {Q : Exit → Act → World → Prop}
theorem build_con (hgd : op.guard = none) (x y z : Operand) (ho : op.op = .build 59 #[(0, x), (1, y), (2, z)]) (s : ByteArray) (K : List UInt8) (l : Int) (hx : a.eval x = .string s) (hy : a.eval y = .agg (K.map B).toArray) (hz : a.eval z = .int .i64 l) (hK : K.length = 32)
    (hk : wpList Tryd.prog ops Q rest (a.put op.dst (.agg (Con.c ⟨s, K, l⟩).toArray)) w) : wpList Tryd.prog ops Q (op :: rest) a w := by
  refine wpList_plain hgd fun _ h => ?_
  unfold Oper.wp execOp
  simp only [ho, hx, hy, hz, List.map_toArray, List.map_cons, List.map_nil, Sem.run_bind, run_build_con s K l hK w, Sem.run_pure, Result.andThen_ok]
  exact h _ _ hk
end

set_option maxHeartbeats 1000000 in
theorem meet_any (xs : List Con) (n c : Nat) (A : Option Addr) (s : ByteArray) (K : List UInt8) (w : World) (hx : RdCons w A n xs) (hxc : n ≤ c ∧ c ≤ maxLen ∧ (A = none → c = 0)) (hK : K.length = 32)
    (hsx : ∀ x ∈ xs, x.s.size ≤ maxLen) (hs : s.size ≤ maxLen) :
    Calls Tryd.prog 23 #[.slice A n c, .string s, .agg (K.map B).toArray] w fun e w' => ∃ v, e = .returned (.tuple #[v, errV (errOf (joinFault xs [⟨s, K, 1⟩]))]) ∧ Joined w w' v xs [⟨s, K, 1⟩] := by
  have hK' := Lib.hid hK; clear hK
  have HB := Lib.hid (Blk.new w 23 (K.map B))
  have hc34 : (Con.c ⟨s, K, 1⟩).length = 34 := Con.len _ hK'.out
  have B0 : Hid (∀ o o2, Below w.heap.size w ((w.alloc o).alloc o2)) := fun o o2 => ((Below.refl _ _).alloc (Nat.le_refl _) _).alloc (by simp) _
  have R1 : Hid (∀ Z : Array Value, Z.size = 34 → Rd ((w.alloc (.cells (K.map B).toArray 23)).alloc (.cells ((Con.c ⟨s, K, 1⟩).zipIdx.foldl (fun cs x => cs.setIfInBounds x.snd x.fst) Z) 59)) 34 (some ⟨w.heap.size + 1, 0, none⟩) 1 1 (conCells [⟨s, K, 1⟩])) := fun Z hZ => by
    have := rd_built (w.alloc (.cells (K.map B).toArray 23)) ⟨s, K, 1⟩ hK'.out Z hZ
    rwa [World.size_alloc] at this
  go_enter Tryd.func23, Tryd.ntmps23
  go_wp2_with (first
    | (show wpList _ _ _ (⟨_, Op.load 23 _, _, _, _, _⟩ :: _) _ _
       go_must (refine load_blk (by rfl) 23 _ (by rfl) w.heap.size 0 32 23 _ (by rfl) HB.out _ Tryd.underlying23 rfl Tryd.infoDig (by rw [List.length_map, hK'.out]; omega) (K.map B) (by rw [List.drop_zero, List.take_of_length_le (by rw [List.length_map, hK'.out]; omega)]) ?_))
    | (show wpList _ _ _ (⟨_, Op.build 59 _, _, _, _, _⟩ :: _) _ _
       go_must (refine build_con (by rfl) _ _ _ (by rfl) s K 1 (by rfl) (by rfl) (by rfl) hK'.out ?_)))
  refine (join_any xs [⟨s, K, 1⟩] n c 1 1 A (some ⟨w.heap.size + 1, 0, none⟩) _ (hx.below (B0.out _ _) (Nat.le_refl _)) hxc ((R1.out _ rfl).cons (fun x hx => by rw [List.mem_singleton.1 hx]; exact hK'.out)) ⟨Nat.le_refl _, by unfold maxLen; omega, fun h => by cases h⟩ hsx (fun x hx => by rw [List.mem_singleton.1 hx]; exact hs)).mono ?_
  rintro e W3 ⟨v, rfl, hown, hb3⟩
  generalize hev : errV (errOf (joinFault xs [⟨s, K, 1⟩])) = ev at *
  have HEV := Lib.hid hev; clear hev
  have BX := Lib.hid ((B0.out _ _).trans (hb3.mono (B0.out _ _).size))
  have OX := Lib.hid (own_base hown (B0.out _ _).size)
  clear hown hb3
  go_wp2_with fail
  go_ret2
  exact ⟨_, by rw [HEV.out]; rfl, OX.out, BX.out⟩

set_option maxHeartbeats 1000000 in
theorem trust_any (xs : List Con) (n c : Nat) (A : Option Addr) (s : ByteArray) (K : List UInt8) (w : World) (hx : RdCons w A n xs) (hxc : n ≤ c ∧ c ≤ maxLen ∧ (A = none → c = 0)) (hK : K.length = 32)
    (hsx : ∀ x ∈ xs, x.s.size ≤ maxLen) (hs : s.size ≤ maxLen) :
    Calls Tryd.prog 24 #[.slice A n c, .string s, .agg (K.map B).toArray] w fun e w' => ∃ v, e = .returned (.tuple #[v, errV (errOf (joinFault xs [⟨s, K, 3⟩]))]) ∧ Joined w w' v xs [⟨s, K, 3⟩] := by
  have hK' := Lib.hid hK; clear hK
  have HB := Lib.hid (Blk.new w 23 (K.map B))
  have hc34 : (Con.c ⟨s, K, 3⟩).length = 34 := Con.len _ hK'.out
  have B0 : Hid (∀ o o2, Below w.heap.size w ((w.alloc o).alloc o2)) := fun o o2 => ((Below.refl _ _).alloc (Nat.le_refl _) _).alloc (by simp) _
  have R1 : Hid (∀ Z : Array Value, Z.size = 34 → Rd ((w.alloc (.cells (K.map B).toArray 23)).alloc (.cells ((Con.c ⟨s, K, 3⟩).zipIdx.foldl (fun cs x => cs.setIfInBounds x.snd x.fst) Z) 59)) 34 (some ⟨w.heap.size + 1, 0, none⟩) 1 1 (conCells [⟨s, K, 3⟩])) := fun Z hZ => by
    have := rd_built (w.alloc (.cells (K.map B).toArray 23)) ⟨s, K, 3⟩ hK'.out Z hZ
    rwa [World.size_alloc] at this
  go_enter Tryd.func24, Tryd.ntmps24
  go_wp2_with (first
    | (show wpList _ _ _ (⟨_, Op.load 23 _, _, _, _, _⟩ :: _) _ _
       go_must (refine load_blk (by rfl) 23 _ (by rfl) w.heap.size 0 32 23 _ (by rfl) HB.out _ Tryd.underlying23 rfl Tryd.infoDig (by rw [List.length_map, hK'.out]; omega) (K.map B) (by rw [List.drop_zero, List.take_of_length_le (by rw [List.length_map, hK'.out]; omega)]) ?_))
    | (show wpList _ _ _ (⟨_, Op.build 59 _, _, _, _, _⟩ :: _) _ _
       go_must (refine build_con (by rfl) _ _ _ (by rfl) s K 3 (by rfl) (by rfl) (by rfl) hK'.out ?_)))
  refine (join_any xs [⟨s, K, 3⟩] n c 1 1 A (some ⟨w.heap.size + 1, 0, none⟩) _ (hx.below (B0.out _ _) (Nat.le_refl _)) hxc ((R1.out _ rfl).cons (fun x hx => by rw [List.mem_singleton.1 hx]; exact hK'.out)) ⟨Nat.le_refl _, by unfold maxLen; omega, fun h => by cases h⟩ hsx (fun x hx => by rw [List.mem_singleton.1 hx]; exact hs)).mono ?_
  rintro e W3 ⟨v, rfl, hown, hb3⟩
  generalize hev : errV (errOf (joinFault xs [⟨s, K, 3⟩])) = ev at *
  have HEV := Lib.hid hev; clear hev
  have BX := Lib.hid ((B0.out _ _).trans (hb3.mono (B0.out _ _).size))
  have OX := Lib.hid (own_base hown (B0.out _ _).size)
  clear hown hb3
  go_wp2_with fail
  go_ret2
  exact ⟨_, by rw [HEV.out]; rfl, OX.out, BX.out⟩
end Go.Proofs.YtddehjgmmeoboaaDoor
