/- Blocks that are known whole: loads, stores and copies of many cells at once, the world behind a store told by what it holds. -/
import Derived.Test.YtddehjgmmeoboaaDoorMem
import Derived.Deep.MidRow
import Derived.Laws.Tables
import Derived.Laws.Rows
namespace Go.Proofs.YtddehjgmmeoboaaDoor
open Go.RowKit
set_option maxRecDepth 8000

/-- Block b is the cells L (of element type T), and may be written. -/
def Blk (w : World) (b : Nat) (T : TypeId) (L : List Value) : Prop := w.heap[b]? = some (.cells L.toArray T (0, 0))
/-- L with vs from place o on. -/
def spl (L : List Value) (o : Nat) (vs : List Value) : List Value := L.take o ++ vs ++ L.drop (o + vs.length)
theorem spl_len (L : List Value) (o : Nat) (vs : List Value) (h : o + vs.length ≤ L.length) : (spl L o vs).length = L.length := by
  unfold spl; simp; omega
theorem spl_all (L vs : List Value) (h : L.length = vs.length) : spl L 0 vs = vs := by
  unfold spl; simp [← h]
section
variable {w w' : World} {b : Nat} {T : TypeId} {L : List Value}
theorem Blk.lt (h : Blk w b T L) : b < w.heap.size := by
  rcases Nat.lt_or_ge b w.heap.size with h1 | h1
  · exact h1
  · unfold Blk at h; rw [Array.getElem?_eq_none h1] at h; cases h
theorem Blk.cell (h : Blk w b T L) (j : Nat) : w.cell? ⟨b, j, none⟩ = L[j]? := by
  rw [cell_of_row w b j _ T (0, 0) h]; simp
theorem Blk.frozen (h : Blk w b T L) (j : Nat) : w.frozen? ⟨b, j, none⟩ = false := by
  unfold Blk at h; simp [World.frozen?, h]
theorem Blk.new (w : World) (T : TypeId) (L : List Value) : Blk (w.alloc (.cells L.toArray T)) w.heap.size T L := heap_alloc_new w _
theorem Blk.new' (w : World) (T : TypeId) (C : Array Value) : Blk (w.alloc (.cells C T)) w.heap.size T C.toList := by
  have := heap_alloc_new w (.cells C T)
  unfold Blk; simpa using this
theorem Blk.at_new (w : World) (T : TypeId) (C : Array Value) (L : List Value) (b : Nat) (hb : b = w.heap.size) (hL : C.toList = L) : Blk (w.alloc (.cells C T)) b T L := by
  subst hb; subst hL; exact Blk.new' w T C
theorem Blk.drew (h : Blk w b T L) : Blk w.drew b T L := h
theorem Blk.alloc (h : Blk w b T L) (o : Obj) : Blk (w.alloc o) b T L := (Below.heap_alloc w o b h.lt).trans h
theorem Blk.below (h : Blk w b T L) {B : Nat} (hb : Below B w w') (hB : b < B) : Blk w' b T L := (hb.block b hB).trans h
theorem Blk.grown {row : Option Nat} (h : Blk w b T L) (hb : w.grownBy w' row) (hr : some b ≠ row) : Blk w' b T L := (hb.block b h.lt hr).trans h
theorem Blk.setCell (h : Blk w b T L) (j : Nat) (u : Value) : Blk (w.setCell ⟨b, j, none⟩ u) b T (L.set j u) := by
  have := heap_setCell_same w b j _ T u h
  unfold Blk; rw [this]; simp
theorem Blk.far (h : Blk w b T L) {p : Addr} (hp : b ≠ p.block) (u : Value) : Blk (w.setCell p u) b T L := (Below.heap_setCell w p u b hp).trans h
theorem Blk.range (h : Blk w b T L) (o n : Nat) : w.rangeAt b o ((L.drop o).take n) := fun j v hv => by
  rw [h.cell]
  rw [List.getElem?_take] at hv
  split at hv
  · rw [List.getElem?_drop] at hv; exact hv
  · cases hv
/-- A slice of the cells of a block that is known. -/
theorem Blk.rd (h : Blk w b T L) (o n c : Nat) (xs : List Value) (hnc : n ≤ c) (hc : c ≤ maxLen) (hl : xs.length = n) (hx : ∀ j, j < n → L[o + j]? = xs[j]?) : Rd w 1 (some ⟨b, o, none⟩) n c xs := by
  refine ⟨hnc, hc, (fun h => by cases h), by omega, fun _ => ⟨_, rfl, h.lt, fun j u hu => ?_⟩⟩
  have hj : j < n := by have := (List.getElem?_eq_some_iff.1 hu).1; omega
  rw [Addr.add_mid, h.cell, hx j hj]; exact hu
theorem setRow_grown (w : World) (b : Nat) (C : Array Value) : w.grownBy (w.setRow b C) (some b) :=
  ⟨rfl, rfl, rfl, by simp, fun k _ hk => setRow_other w b k C (fun e => hk (by rw [e]))⟩
theorem Blk.setRow (h : Blk w b T L) (C : List Value) : Blk (w.setRow b C.toArray) b T C := setRow_heap w b _ _ T (0, 0) h
theorem grown_setCell (w : World) (a : Addr) (u : Value) : w.grownBy (w.setCell a u) (some a.block) :=
  ⟨rfl, rfl, rfl, by simp, fun k _ hk => Below.heap_setCell w a u k (fun e => hk (by rw [e]))⟩
end
section
variable {P : Program} {w : World} {ops : Array Oper} {rest : List Oper} {op : Oper} {a : Act} {Q : Exit → Act → World → Prop}
/-- LOAD of n cells from place o of a block that is known. -/
theorem load_blk (hgd : op.guard = none) (ty : TypeId) (x : Operand) (ho : op.op = .load ty x) (b o n : Nat) (T : TypeId) (L : List Value) (hx : a.eval x = .pointer (some ⟨b, o, none⟩)) (h : Blk w b T L) (d : TypeDesc)
    (hu : P.underlying ty = some d) (hd : d.isRow = true) (hi : (P.info? ty).map (·.size) = some n) (hn : o + n ≤ L.length) (vs : List Value) (hv : vs = (L.drop o).take n)
    (hK : wpList P ops Q rest (a.put op.dst (.agg vs.toArray)) w) : wpList P ops Q (op :: rest) a w := by
  subst hv
  exact wpList_load_mid hgd ty x ho b o hx _ d (h.range o n) hu hd (by rw [hi]; simp; omega) hK
/-- STORE of many cells from place o of a block that is known. -/
theorem store_blk (hgd : op.guard = none) (ty : TypeId) (x y : Operand) (ho : op.op = .store ty x y) (b o : Nat) (T : TypeId) (L : List Value) (vs : List Value) (hx : a.eval x = .pointer (some ⟨b, o, none⟩)) (hy : a.eval y = .agg vs.toArray)
    (h : Blk w b T L) (hi : (P.info? ty).map (·.size) = some vs.length) (h1 : ∀ v ∈ vs, v.oneCell' = true) (hn : o + vs.length ≤ L.length)
    (hK : ∀ w', Blk w' b T (spl L o vs) → w.grownBy w' (some b) → wpList P ops Q rest (a.put op.dst undef) w') : wpList P ops Q (op :: rest) a w := by
  refine wpList_plain hgd fun K hK' => ?_
  have hst := run_storeCells_at P b o T vs 0 L.toArray w h (by simpa using hn) h1
  have hrun : (Instr.storeAt ty (.pointer (some ⟨b, o, none⟩)) (.agg vs.toArray)).run P w = .ok () (w.setRow b (spl L o vs).toArray) := by
    cases hq : P.info? ty with
    | none => simp [hq] at hi
    | some i =>
      have hs : vs.length = i.size := by simp [hq] at hi; omega
      simp only [Nat.add_zero] at hst
      simp [Instr.storeAt, Instr.sureAddr, storeVar, sizeOf, typeInfo, hq, Value.cells, hs, hst, spl]
  unfold Oper.wp execOp
  simp only [ho, hx, hy, Sem.run_bind, hrun, Sem.run_pure, Result.andThen_ok]
  exact hK' _ _ (hK _ (h.setRow _) (setRow_grown w b _))
/-- COPY of what a slice reads into a block that is known, from place o on. -/
theorem copy_blk (hgd : op.guard = none) (d s : Operand) (dT sT elem : TypeId) (ho : op.op = .call { callee := .builtin .copy, args := #[d, s], argTypes := #[dT, sT] })
    (hu : P.underlying dT = some (.slice elem)) (hs : (P.info? elem).map (·.size) = some 1) (b o n c : Nat) (T : TypeId) (L : List Value) (A : Option Addr) (m k : Nat) (xs : List Value)
    (hd : a.eval d = .slice (some ⟨b, o, none⟩) n c) (hx : a.eval s = .slice A m k) (h : Blk w b T L) (hr : Rd w 1 A m k xs) (hfit : o + min m n ≤ L.length) (h1 : ∀ v ∈ xs, v.oneCell' = true)
    (hK : ∀ w', Blk w' b T (spl L o (xs.take n)) → w.grownBy w' (some b) → wpList P ops Q rest (a.put op.dst (.int .i64 (min m n : Nat))) w') : wpList P ops Q (op :: rest) a w := by
  have hxl : xs.length = m := by have := hr.len; omega
  have hlen : (xs.take n).length = Nat.min m n := by rw [List.length_take, hxl]; exact Nat.min_comm _ _
  have hrun : ∃ w', (Builtin.copy_ #[dT, sT] op.type #[.slice (some ⟨b, o, none⟩) n c, .slice A m k]).run P w = .ok (goInt (xs.take n).length) w' ∧ Blk w' b T (spl L o (xs.take n)) ∧ w.grownBy w' (some b) := by
    cases A with
    | none =>
      have h0 : m = 0 := by have := hr.nil_ rfl; have := hr.cap; omega
      subst h0
      have hxs : xs = [] := List.eq_nil_of_length_eq_zero hxl
      subst hxs
      refine ⟨w, by simpa using run_copy_none (P := P) w dT sT op.type elem (some ⟨b, o, none⟩) none n c 0 k hu hs (by simp), ?_, ⟨rfl, rfl, rfl, Nat.le_refl _, fun _ _ _ => rfl⟩⟩
      have : spl L o ([].take n) = L := by simp [spl]
      rw [this]; exact h
    | some ad =>
      refine ⟨_, run_copy_row P w dT sT op.type elem b o n c ad m k L.toArray T (xs.take n) hu hs h hlen (fun j v hv => ?_) (by simp only [List.size_toArray]; rw [hlen]; exact hfit) (fun v hv => h1 v (List.mem_of_mem_take hv)), ?_, setRow_grown w b _⟩
      · have hj := (List.getElem?_eq_some_iff.1 hv).1
        have hm : 0 < m := by simp at hj; omega
        obtain ⟨ad', e, _, hc⟩ := hr.at_ hm
        injection e with e; subst e
        rw [List.getElem?_take] at hv
        split at hv
        · exact hc j v hv
        · cases hv
      · have := h.setRow (spl L o (xs.take n))
        simpa [spl] using this
  obtain ⟨w', hr', hb', hg'⟩ := hrun
  refine wpList_plain hgd fun K hK' => ?_
  unfold Oper.wp execOp
  have e : goInt (xs.take n).length = Value.int .i64 (min m n : Nat) := by rw [hlen]; rfl
  rw [e] at hr'
  simp only [ho, hd, hx, resolve, invoke, builtin, Sem.run_bind, Sem.run_pure, Result.andThen_ok, List.map_toArray, List.map_cons, List.map_nil, hr']
  exact hK' _ _ (hK w' hb' hg')
end

/-- Two results, the first of which lies in memory. -/
theorem results_cell_tmp {P : Program} {fn : Func} {p t : Tmp} {ty : TypeId} (h : fn.results = #[.cell p ty, .tmp t]) (tmps : Array Value) (w : World) (b : Nat) (T : TypeId) (L : List Value) (d : TypeDesc)
    (hp : tmps.getD p undef = .pointer (some ⟨b, 0, none⟩)) (hB : Blk w b T L) (hu : P.underlying ty = some d) (hd : d.isRow = true) (hi : (P.info? ty).map (·.size) = some L.length) :
    (results fn tmps).run P w = .ok (.tuple #[.agg L.toArray, tmps.getD t undef]) w := by
  have hp' : tmps[p]?.getD undef = .pointer (some ⟨b, 0, none⟩) := by simpa using hp
  have hl := run_loadVar_mid (P := P) w b 0 ty L d (by have := hB.range 0 L.length; simpa using this) hu hd hi
  simp [results, h, hp', asAddr, hl]
theorem results_cell_one {P : Program} {fn : Func} {p : Tmp} {ty : TypeId} (h : fn.results = #[.cell p ty]) (tmps : Array Value) (w : World) (b : Nat) (T : TypeId) (L : List Value) (d : TypeDesc)
    (hp : tmps.getD p undef = .pointer (some ⟨b, 0, none⟩)) (hB : Blk w b T L) (hu : P.underlying ty = some d) (hd : d.isRow = true) (hi : (P.info? ty).map (·.size) = some L.length) :
    (results fn tmps).run P w = .ok (.agg L.toArray) w := by
  have hp' : tmps[p]?.getD undef = .pointer (some ⟨b, 0, none⟩) := by simpa using hp
  have hl := run_loadVar_mid (P := P) w b 0 ty L d (by have := hB.range 0 L.length; simpa using this) hu hd hi
  simp [results, h, hp', asAddr, hl]
end Go.Proofs.YtddehjgmmeoboaaDoor
