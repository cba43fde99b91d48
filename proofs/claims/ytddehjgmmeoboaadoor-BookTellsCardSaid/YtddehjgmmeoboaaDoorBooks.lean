/- The walk of oathbooksame.Books: are two books the same? -/
import Derived.Test.YtddehjgmmeoboaaDoorCon
import Derived.Test.YtddehjgmmeoboaaDoorQLoad
import Derived.Test.YtddehjgmmeoboaaDoorNamed
namespace Go.Proofs.YtddehjgmmeoboaaDoor
open Go.RowKit
set_option maxRecDepth 8000

def Con.z : Con := ⟨ByteArray.empty, List.replicate 32 0, 0⟩
/-- A slice of contacts. -/
structure RdCons (w : World) (A : Option Addr) (n : Nat) (cs : List Con) : Prop where
  len : cs.length = n
  keys : ∀ x ∈ cs, x.K.length = 32
  at_ : ∀ i, i < n → ∃ ad, A = some ad ∧ ad.block < w.heap.size ∧ ∀ j v, (cs.getD i Con.z).c[j]? = some v → w.cell? ((ad.add (i * 34)).add j) = some v
theorem RdCons.key {w : World} {A : Option Addr} {n : Nat} {cs : List Con} (h : RdCons w A n cs) {i : Nat} (hi : i < n) : (cs.getD i Con.z).K.length = 32 := by
  have hl : i < cs.length := by rw [h.len]; exact hi
  rw [List.getD_eq_getElem?_getD, List.getElem?_eq_getElem hl]
  exact h.keys _ (List.getElem_mem hl)
theorem RdCons.below {w w' : World} {A : Option Addr} {n B : Nat} {cs : List Con} (h : RdCons w A n cs) (hb : Below B w w') (hB : w.heap.size ≤ B) : RdCons w' A n cs :=
  ⟨h.len, h.keys, fun i hi => by
    obtain ⟨ad, e, h1, h2⟩ := h.at_ i hi
    exact ⟨ad, e, Nat.lt_of_lt_of_le h1 hb.size, fun j v hv => (hb.cell (by rw [addr_block, addr_block]; omega)).trans (h2 j v hv)⟩⟩
theorem Tryd.conGuard : Tryd.prog.eqGuardType Tryd.prog.depth 59 = false := by kernel_rfl
theorem Tryd.infoCon : (Tryd.prog.info? 59).map (·.size) = some 34 := by kernel_rfl
theorem quiet_neq_con {C : World → Prop} {o : Oper} {a : Act} {K : Act → Prop} (x y : Operand) (t2 : TypeId) (ho : o.op = .binOp .neq 59 x y t2) (u v : Con) (hu : u.K.length = 32) (hv : v.K.length = 32)
    (hx : a.eval x = .agg u.c.toArray) (hy : a.eval y = .agg v.c.toArray) (hk : K (a.put o.dst (.bool (!u.eqb v)))) : o.quiet Tryd.prog a C K := by
  refine ⟨_, fun w _ => ?_, hk⟩
  unfold Oper.quietAt execOp
  simp only [ho, hx, hy, Sem.run_bind, run_eqGuard_agg w _ _ _ _ _ _ Tryd.conGuard, Result.andThen_ok, run_neq_struct, con_eq u v hu hv, Sem.run_pure]
  exact ⟨rfl, rfl⟩
def sameBooks (xs ys : List Con) (n : Nat) : Bool := (List.range n).all fun i => (xs.getD i Con.z).eqb (ys.getD i Con.z)
theorem sameBooks_succ (xs ys : List Con) (i : Nat) : sameBooks xs ys (i + 1) = (sameBooks xs ys i && (xs.getD i Con.z).eqb (ys.getD i Con.z)) := by
  unfold sameBooks; rw [List.range_succ, List.all_append]; simp
theorem sameBooks_no {xs ys : List Con} {i n : Nat} (hi : i < n) (h : (xs.getD i Con.z).eqb (ys.getD i Con.z) = false) : sameBooks xs ys n = false := by
  unfold sameBooks; rw [List.all_eq_false]; exact ⟨i, List.mem_range.2 hi, by rw [h]; simp⟩

set_option maxHeartbeats 1000000 in
theorem books_any (xs ys : List Con) (n m c c2 : Nat) (A A2 : Option Addr) (w : World) (hx : RdCons w A n xs) (hy : RdCons w A2 m ys) (hn : n ≤ 1000000000000) :
    Calls Tryd.prog 22 #[.slice A n c, .slice A2 m c2] w fun e w' => e = .returned (.bool (decide (n = m) && sameBooks xs ys n)) ∧ ∃ k, w' = w.drewN k := by
  by_cases hnm : n = m
  · subst hnm
    go_enter Tryd.func22, Tryd.ntmps22
    go_wp2_with fail
    go_loopw [5] (fun si wr => ∃ (i : Nat), i ≤ n ∧ si = .int .i64 i ∧ (∃ k, wr = w.drewN k) ∧ Hid (sameBooks xs ys i = true)) (fun si _ => n - (intOf si).toNat)
    case atStart => exact ⟨0, Nat.zero_le _, rfl, ⟨0, rfl⟩, rfl⟩
    case round =>
      obtain ⟨i, hi, rfl, ⟨k, rfl⟩, hsame⟩ := hrel
      by_cases hlt : i < n
      · obtain ⟨ad, rfl, _, hcx⟩ := hx.at_ i hlt
        obtain ⟨ad2, rfl, _, hcy⟩ := hy.at_ i hlt
        have kx := hx.key hlt
        have ky := hy.key hlt
        have hlt' : (i : Int) < n := by omega
        generalize hu : xs.getD i Con.z = u at *
        generalize hv : ys.getD i Con.z = v at *
        have HU := Lib.hid hu; clear hu
        have HV := Lib.hid hv; clear hv
        have hcx' : Hid (∀ j x, u.c[j]? = some x → w.cell? ((ad.add (i * 34)).add j) = some x) := hcx
        have hcy' : Hid (∀ j x, v.c[j]? = some x → w.cell? ((ad2.add (i * 34)).add j) = some x) := hcy
        clear hcx hcy
        go_wp2_with fail
        refine wp_region_quiet_lit (by kernel_rfl) (by kernel_rfl) ?_
        repeat (go_big_quiet_step (fail))
        go_big_quiet_want
        refine quiet_load_at 59 _ rfl _ (by rfl) u.c _ (by rintro _ ⟨q, rfl⟩ j v hv; exact hcx'.out j v hv) Tryd.underlying59 rfl (by rw [Con.len _ kx]; exact Tryd.infoCon) ?_
        go_big_quiet_on
        simp only [Act.put, List.setIfInBounds_toArray, List.set_cons_zero, List.set_cons_succ]
        repeat (go_big_quiet_step (fail))
        go_big_quiet_want
        refine quiet_load_at 59 _ rfl _ (by rfl) v.c _ (by rintro _ ⟨q, rfl⟩ j v hv; exact hcy'.out j v hv) Tryd.underlying59 rfl (by rw [Con.len _ ky]; exact Tryd.infoCon) ?_
        go_big_quiet_on
        simp only [Act.put, List.setIfInBounds_toArray, List.set_cons_zero, List.set_cons_succ]
        go_big_quiet_want
        refine quiet_neq_con _ _ _ rfl u v kx ky (by rfl) (by rfl) ?_
        go_big_quiet_on
        simp only [Act.put, List.setIfInBounds_toArray, List.set_cons_zero, List.set_cons_succ]
        refine wpQuiet_nil ?_
        intro _ hw'
        obtain ⟨nq, hw''⟩ := hw'
        subst hw''
        cases he : u.eqb v with
        | true =>
          have hs' : Hid (sameBooks xs ys (i + 1) = true) := by
            show _ = _
            rw [sameBooks_succ, hsame.out, HU.out, HV.out, he]; rfl
          simp only [Bool.not_true]
          go_wp2_with fail
          go_roundw
          case rel => exact ⟨i + 1, by omega, by go_num, ⟨_, rfl⟩, hs'⟩
          case measure => simp [intOf]; omega
        | false =>
          simp only [Bool.not_false]
          go_wp2_with fail
          go_ret
          exact ⟨ret_bool (by rw [sameBooks_no hlt (by rw [HU.out, HV.out]; exact he)]; simp), _, by rw [World.drewN_drewN]⟩
      · obtain rfl : i = n := by omega
        go_wp2_with fail
        go_ret
        exact ⟨ret_bool (by simp [hsame.out]), k, rfl⟩
  · go_enter Tryd.func22, Tryd.ntmps22
    go_wp2_with fail
    all_goals go_ret
    all_goals exact ⟨ret_bool (by simp [hnm]), 0, rfl⟩
end Go.Proofs.YtddehjgmmeoboaaDoor
