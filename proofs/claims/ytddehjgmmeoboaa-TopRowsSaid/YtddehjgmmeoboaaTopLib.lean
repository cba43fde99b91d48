/- For TopRows: loads of many cells at any address; a built row of one cell, owned; notes in a slice; the padded rows. -/
import Derived.Test.YtddehjgmmeoboaaRead
import Derived.Test.YtddehjgmmeoboaaSpread
namespace Go.Proofs.Ytddehjgmmeoboaa
open Go.RowKit

section
variable {P : Program} {w : World} {ops : Array Oper} {rest : List Oper} {op : Oper} {a : Act} {Q : Exit → Act → World → Prop}
theorem run_loadVar_at (w : World) (ad : Addr) (ty : TypeId) (cs : List Value) (d : TypeDesc) (hc : ∀ j v, cs[j]? = some v → w.cell? (ad.add j) = some v)
    (hu : P.underlying ty = some d) (hd : d.isRow = true) (hi : (P.info? ty).map (·.size) = some cs.length) :
    (loadVar ty ad).run P w = .ok (.agg cs.toArray) w := by
  have hl : (loadCells ad cs.length).run P w = .ok cs.toArray w := run_loadCells_list (P := P) w ad cs hc
  cases hq : P.info? ty with
  | none => simp [hq] at hi
  | some i =>
    have hs : i.size = cs.length := by simpa [hq] using hi
    have hagg : (isAgg ty).run P w = .ok true w := by
      unfold isAgg
      rw [Sem.run_bind, run_underlying hu w]
      cases d <;> simp_all
    simp [loadVar, Sem.run_bind, hagg, sizeOf, typeInfo, hq, hs, hl]
/-- LOAD of many cells at any address. -/
theorem load_at (hgd : op.guard = none) (ty : TypeId) (x : Operand) (ho : op.op = .load ty x) (ad : Addr) (hx : a.eval x = .pointer (some ad)) (cs : List Value) (d : TypeDesc)
    (hc : ∀ j v, cs[j]? = some v → w.cell? (ad.add j) = some v) (hu : P.underlying ty = some d) (hd : d.isRow = true) (hi : (P.info? ty).map (·.size) = some cs.length)
    (hK : wpList P ops Q rest (a.put op.dst (.agg cs.toArray)) w) : wpList P ops Q (op :: rest) a w := by
  refine wpList_plain hgd fun K hK' => ?_
  unfold Oper.wp execOp
  simp only [ho, hx, Instr.loadAt, Instr.sureAddr, Sem.run_bind, Sem.run_pure, Result.andThen_ok, run_loadVar_at w ad ty cs d hc hu hd hi]
  exact hK' _ _ hK
/-- append in a plain region. -/
theorem list_app (hgd : op.guard = none) (s x : Operand) (t : TypeId)
    (ho : op.op = .call { callee := .builtin .append, args := #[s, x], argTypes := #[t, t] })
    (base : Nat) (e : TypeId) (i : TypeInfo) (z : Value) (size bytes : Nat) (ht : P.underlying t = some (.slice e)) (hi : P.info? e = some i) (hz : i.zero = some z)
    (hsize : i.size = size) (hby : i.bytes = bytes) (hzs : z.cells.size = size) (hsz : 0 < size)
    (v : Value) (n : Nat) (xs : List Value) (hs : a.eval s = v) (hown : w.ownsRow base e size v n xs)
    (A : Option Addr) (m c : Nat) (news : List Value) (hx : a.eval x = .slice A m c) (hr : Rd w size A m c news) (h1 : ∀ u ∈ news, u.oneCell' = true)
    (h63 : n + m ≤ maxLen) (hbytes : (n + m) * bytes ≤ 140737488355328) (hbase : base ≤ w.heap.size)
    (h : ∀ v' w', w'.ownsRow base e size v' (n + m) (xs ++ news) → Below base w w' → w.grownBy w' v.ownBlock → (v'.ownBlock = v.ownBlock ∨ v'.ownBlock = some w.heap.size) → wpList P ops Q rest (a.put op.dst v') w') : wpList P ops Q (op :: rest) a w :=
  wpList_plain hgd fun _ hK => wp_app s x t ho base e i z size bytes ht hi hz hsize hby hzs hsz v n xs hs hown A m c news hx hr h1 h63 hbytes hbase fun v' w' h2 h3 h4 h5 => hK _ _ (h v' w' h2 h3 h4 h5)
end
theorem own_cell1 (w : World) (x : Value) (T : TypeId) : (w.alloc (.cells #[x] T)).ownsRow w.heap.size T 1 (.slice (some ⟨w.heap.size, 0, none⟩) 1 1) 1 [x] :=
  ⟨rfl, .inr ⟨w.heap.size, 1, #[x], rfl, Nat.le_refl _, heap_alloc_new w _, Nat.le_refl _, by unfold maxLen; omega, rfl, rfl⟩⟩
theorem rdm1 {W : World} {A : Option Addr} {n c : Nat} {x : List Value} (T : TypeId) (h : Rd W 1 A n c x) : RdM (W.alloc (.cells #[.slice A n c] T)) (some ⟨W.heap.size, 0, none⟩) 1 1 [x] := by
  have l1 : x.length = n := by have := h.len; omega
  refine ⟨Nat.le_refl _, by unfold maxLen; omega, rfl, fun i hi => ?_⟩
  have hi0 : i = 0 := by simp at hi; omega
  subst hi0
  exact ⟨_, A, c, rfl, by simp, by simp [Addr.add, l1], by simpa [l1] using h.below' ((Below.refl _ _).alloc (Nat.le_refl _) _)⟩

theorem Rd.int {is : List Int} {A : Option Addr} {n c : Nat} {w : World} (h : Rd w 1 A n c (is.map fun x => .int .i64 x)) {k : Nat} (hk : k < n) : ∃ ad, A = some ad ∧ ad.block < w.heap.size ∧ w.cell? (ad.add k) = some (.int .i64 (is.getD k 0)) := by
  have hl : k < (is.map fun x => (.int .i64 x : Value)).length := by have := h.len; omega
  obtain ⟨ad, e, hb, hc⟩ := h.cell hl
  have hl2 : k < is.length := by simpa using hl
  exact ⟨ad, e, hb, by rw [hc, List.getElem_map, List.getD_eq_getElem?_getD, List.getElem?_eq_getElem hl2]; rfl⟩
theorem Try.infoShare : (Try.prog.info? 42).map (fun i => (i.zero, i.size, i.bytes)) = some (some (.agg #[.int .u8 0, .slice none 0 0]), 2, 32) := by kernel_rfl
/-- The cells of shares: places, and their rows. -/
def shareCells (vs : List Value) (ws : List Int) : List Value := ws.flatMap fun x => [B (UInt8.ofNat x.toNat), vs.getD x.toNat undef]
theorem shareCells_snoc (vs : List Value) (ws : List Int) (x : Int) : shareCells vs (ws ++ [x]) = shareCells vs ws ++ [B (UInt8.ofNat x.toNat), vs.getD x.toNat undef] := by
  unfold shareCells; simp
theorem shareCells_len (vs : List Value) (ws : List Int) : (shareCells vs ws).length = ws.length * 2 := by
  induction ws with
  | nil => rfl
  | cons x ws ih => unfold shareCells at *; rw [List.flatMap_cons, List.length_append, ih]; simp; omega
theorem shareCells_at (vs : List Value) (ws : List Int) (k : Nat) (hk : k < ws.length) : (shareCells vs ws)[k * 2]? = some (B (UInt8.ofNat (ws.getD k 0).toNat)) ∧ (shareCells vs ws)[k * 2 + 1]? = some (vs.getD (ws.getD k 0).toNat undef) := by
  induction ws generalizing k with
  | nil => simp at hk
  | cons x ws ih =>
    have e : shareCells vs (x :: ws) = B (UInt8.ofNat x.toNat) :: vs.getD x.toNat undef :: shareCells vs ws := rfl
    rw [e]
    cases k with
    | zero => simp
    | succ k =>
      have := ih k (by simpa using hk)
      rw [show (k + 1) * 2 = k * 2 + 1 + 1 by omega]
      simpa using this
theorem rd_cell2 (w : World) (x y : Value) (T : TypeId) : Rd (w.alloc (.cells #[x, y] T)) 2 (some ⟨w.heap.size, 0, none⟩) 1 1 [x, y] := by
  refine ⟨Nat.le_refl _, by unfold maxLen; omega, (fun h => by cases h), rfl, fun _ => ⟨_, rfl, by simp, fun j u hu => ?_⟩⟩
  have hn := heap_alloc_new w (.cells #[x, y] T)
  rw [Addr.add_mid, cell_of_row _ _ _ _ T (0, 0) hn]
  simpa using hu
/-- What a slice lacks to n. -/
def restOf (n : Nat) : Value → Nat
  | .slice _ k _ => n - k
  | _ => 0
/-- A note: its name, its key, its turn. -/
structure NoteV where
  s : ByteArray
  K : List UInt8
  t : Int
abbrev NoteV.cells (x : NoteV) : List Value := (noteC x.s x.K x.t).toList
def NoteV.z : NoteV := ⟨ByteArray.empty, List.replicate 32 0, 0⟩
/-- Can it be written? -/
def NoteV.Good (x : NoteV) : Prop := named x.s.data.toList = true ∧ 0 ≤ x.t ∧ x.t < 4294967296
def NoteV.bytes (x : NoteV) : List UInt8 := noteB x.s.data.toList x.K x.t.toNat
/-- What is put ahead, and the zeros behind. -/
def NoteV.padTo (x : NoteV) (k : Nat) : List UInt8 := UInt8.ofNat (37 + x.s.size) :: x.bytes ++ List.replicate k 0
def NoteV.padded (x : NoteV) : List UInt8 := x.padTo (52 - x.s.size)
theorem NoteV.bytes_len (x : NoteV) (hK : x.K.length = 32) : x.bytes.length = 37 + x.s.size := by
  unfold NoteV.bytes; rw [noteB_len _ _ hK]; simp
theorem NoteV.padTo_len (x : NoteV) (k : Nat) (hK : x.K.length = 32) : (x.padTo k).length = 38 + x.s.size + k := by
  unfold NoteV.padTo; simp [x.bytes_len hK]; omega
theorem NoteV.padTo_succ (x : NoteV) (k : Nat) : x.padTo (k + 1) = x.padTo k ++ [0] := by
  unfold NoteV.padTo; rw [List.replicate_succ']; simp
theorem NoteV.small {x : NoteV} (h : x.Good) : x.s.size ≤ 30 := by
  have h := h.1
  unfold named at h; simp at h; simpa using h.1.2
theorem NoteV.padded_len {x : NoteV} (h : x.Good) (hK : x.K.length = 32) : x.padded.length = 90 := by
  unfold NoteV.padded; rw [x.padTo_len _ hK]; have := x.small h; omega
theorem read_note (x : NoteV) (A : Option Addr) (n c : Nat) (w : World) (hg : x.Good) (hK : x.K.length = 32) (hr : Rd w 1 A n c (x.bytes.map B)) :
    Calls Try.prog 6 #[.slice A n c] w fun e w' => e = .returned (.tuple #[.agg (noteC x.s x.K x.t), .nilIface]) ∧ Below w.heap.size w w' := by
  have h := read_good x.s.data.toList x.K x.t.toNat A n c w hg.1 hK (by have := hg.2; omega) hr
  have e1 : (⟨x.s.data.toList.toArray⟩ : ByteArray) = x.s := by simp
  have e2 : ((x.t.toNat : Nat) : Int) = x.t := by have := hg.2.1; omega
  rw [e1, e2] at h
  exact h
/-- A slice of notes. -/
structure RdNotes (w : World) (A : Option Addr) (n c : Nat) (ns : List NoteV) : Prop where
  len : ns.length = n
  keys : ∀ x ∈ ns, x.K.length = 32 ∧ x.t ≤ 9223372036854775807
  at_ : ∀ i, i < n → ∃ ad, A = some ad ∧ ad.block < w.heap.size ∧ ∀ j v, (ns.getD i NoteV.z).cells[j]? = some v → w.cell? ((ad.add (i * 34)).add j) = some v
end Go.Proofs.Ytddehjgmmeoboaa
