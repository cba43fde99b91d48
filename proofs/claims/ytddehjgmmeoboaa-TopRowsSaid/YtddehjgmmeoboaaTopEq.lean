/- For TopRows: a note is itself; loads and the comparison in a region that only reads. -/
import Derived.Test.YtddehjgmmeoboaaTopLib
import Derived.Stop.BytesEq
import Derived.Deep.QuietTactic
namespace Go.Proofs.Ytddehjgmmeoboaa
open Go.RowKit

section
variable {P : Program} {C : World → Prop} {o : Oper} {a : Act} {K : Act → Prop}
theorem quiet_load_at (ty : TypeId) (x : Operand) (ho : o.op = .load ty x) (ad : Addr) (hx : a.eval x = .pointer (some ad)) (cs : List Value) (d : TypeDesc)
    (hS : ∀ w, C w → ∀ j v, cs[j]? = some v → w.cell? (ad.add j) = some v) (hu : P.underlying ty = some d) (hd : d.isRow = true) (hi : (P.info? ty).map (·.size) = some cs.length)
    (hk : K (a.put o.dst (.agg cs.toArray))) : o.quiet P a C K := by
  refine ⟨_, fun w hw => ?_, hk⟩
  unfold Oper.quietAt execOp
  simp only [ho, hx, Instr.loadAt, Instr.sureAddr, Sem.run_bind, Sem.run_pure, Result.andThen_ok, run_loadVar_at w ad ty cs d (hS w hw) hu hd hi]
  exact ⟨rfl, rfl⟩
end
theorem Try.noteHu : Try.prog.underlying 25 = some (.struct (Try.prog.fieldsOf 25)) := by
  unfold Program.fieldsOf; rw [Try.underlying25]
theorem Try.noteStood : Try.prog.stoodInHeld 25 = false := by kernel_rfl
theorem note_p0 (s : ByteArray) (K : List UInt8) (t : Int) (w : World) : (part 9 (noteC s K t) 0).run Try.prog w = .ok (.string s) w := by
  simp [part, isAgg, run_underlying Try.underlying9, noteC]
theorem note_ex (s : ByteArray) (K : List UInt8) (t : Int) (hK : K.length = 32) : (noteC s K t).extract 1 (1 + 32) = (K.map Extern.Stop.cell).toArray := by
  unfold noteC
  simp [hK]
  exact fun a _ => rfl
theorem note_p2 (s : ByteArray) (K : List UInt8) (t : Int) (hK : K.length = 32) (w : World) : (part 3 (noteC s K t) 33).run Try.prog w = .ok (.int .i64 t) w := by
  simp [part, isAgg, run_underlying Try.underlying3, noteC, hK]
theorem Try.digSize : ∃ i, Try.prog.info? 23 = some i ∧ i.size = 32 := by
  have h : (Try.prog.info? 23).map (·.size) = some 32 := by kernel_rfl
  generalize Try.prog.info? 23 = q at h
  cases q with
  | none => cases h
  | some i => exact ⟨i, rfl, by simpa using h⟩
theorem run_size {P : Program} {T : TypeId} {i : TypeInfo} {n : Nat} (hi : P.info? T = some i) (hs : i.size = n) (w : World) : (sizeOf T).run P w = .ok n w := by
  simp [sizeOf, typeInfo, hi, hs]
theorem run_part_agg {P : Program} {T : TypeId} {n : Nat} {d : TypeDesc} (hu : P.underlying T = some d) (hd : d.isRow = true) (w : World) (hz : (sizeOf T).run P w = .ok n w) (cs : Array Value) (off : Nat) : (part T cs off).run P w = .ok (.agg (cs.extract off (off + n))) w := by
  have hagg : (isAgg T).run P w = .ok true w := by
    unfold isAgg
    rw [Sem.run_bind, run_underlying hu w]
    cases d <;> simp_all
  unfold part
  rw [Sem.run_bind, hagg]
  simp [hz]
theorem note_p1 (s : ByteArray) (K : List UInt8) (t : Int) (hK : K.length = 32) (w : World) : (part 23 (noteC s K t) 1).run Try.prog w = .ok (.agg (K.map Extern.Stop.cell).toArray) w := by
  obtain ⟨i, hi, hs⟩ := Try.digSize
  rw [run_part_agg Try.underlying23 rfl w (run_size hi hs w), note_ex s K t hK]
theorem Try.u8Size (w : World) : (sizeOf 5).run Try.prog w = .ok 1 w := by
  have h : (Try.prog.info? 5).map (·.size) = some 1 := Try.sizeU8
  generalize hq : Try.prog.info? 5 = q at h
  cases q with
  | none => cases h
  | some i => exact run_size hq (by simpa using h) w
theorem eqFields_step (P : Program) (d : Nat) (xs ys : Array Value) (f : Field) (fs : List Field) (hf : f.name ≠ "_") (a b : Value) (w : World) (ha : (part f.type xs f.offset).run P w = .ok a w) (hb : (part f.type ys f.offset).run P w = .ok b w)
    (he : (Op.equalIn d f.type a b).run P w = .ok true w) (r : Result Bool) (h : (Op.eqFields d xs ys fs).run P w = r) : (Op.eqFields d xs ys (f :: fs)).run P w = r := by
  rw [Op.eqFields, if_pos hf]
  simp only [Sem.run_bind, ha, hb, he, Result.andThen_ok, Bool.not_true, Bool.false_eq_true, if_false]
  exact h
theorem note_self' (d : Nat) (s : ByteArray) (K : List UInt8) (t : Int) (hK : K.length = 32) (w : World) :
    (Op.equalIn (d + 3) 25 (.agg (noteC s K t)) (.agg (noteC s K t))).run Try.prog w = .ok true w := by
  rw [run_equalIn_struct w (d + 2) 25 _ _ Try.noteHu Try.noteStood]
  have hu := Try.underlying25
  unfold Program.fieldsOf
  rw [hu]
  refine eqFields_step _ _ _ _ _ _ (by decide) _ _ w (note_p0 s K t w) (note_p0 s K t w) ?_ _ ?_
  · rw [run_equalIn_string (P := Try.prog) w (d + 1) 9 s s Try.underlying9]; simp
  refine eqFields_step _ _ _ _ _ _ (by decide) _ _ w (note_p1 s K t hK w) (note_p1 s K t hK w) ?_ _ ?_
  · rw [run_equalIn_bytes (P := Try.prog) w d 23 5 32 Try.underlying23 Try.underlying5 Try.u8Size K K hK hK]; simp
  refine eqFields_step _ _ _ _ _ _ (by decide) _ _ w (note_p2 s K t hK w) (note_p2 s K t hK w) ?_ _ ?_
  · rw [run_equalIn_int (P := Try.prog) w (d + 1) 3 .i64 .i64 t t Try.underlying3]; simp
  rfl
theorem note_self (s : ByteArray) (K : List UInt8) (t : Int) (hK : K.length = 32) (w : World) :
    (Op.equalIn 10000 25 (.agg (noteC s K t)) (.agg (noteC s K t))).run Try.prog w = .ok true w := note_self' 9997 s K t hK w
theorem Try.noteGuard : Try.prog.eqGuardType Try.prog.depth 25 = false := by kernel_rfl
theorem quiet_neq_note {C : World → Prop} {o : Oper} {a : Act} {K : Act → Prop} (x y : Operand) (t2 : TypeId) (ho : o.op = .binOp .neq 25 x y t2) (s : ByteArray) (L : List UInt8) (t : Int) (hL : L.length = 32)
    (hx : a.eval x = .agg (noteC s L t)) (hy : a.eval y = .agg (noteC s L t)) (hk : K (a.put o.dst (.bool false))) : o.quiet Try.prog a C K := by
  refine ⟨_, fun w _ => ?_, hk⟩
  unfold Oper.quietAt execOp
  simp only [ho, hx, hy, Sem.run_bind, run_eqGuard_agg w _ _ _ _ _ _ Try.noteGuard, Result.andThen_ok, run_neq_struct, note_self s L t hL, Sem.run_pure]
  exact ⟨rfl, rfl⟩
/-- Cells that were made and may be written. -/
theorem there_new (w : World) (T : TypeId) (C : Array Value) {n : Nat} (hn : C.size = n) : (w.alloc (.cells C T)).there w.heap.size 0 n := fun j hj => by
  have hb := Blk.new' w T C
  rw [Nat.zero_add]
  exact ⟨by rw [hb.cell, List.getElem?_eq_getElem (by simpa [hn] using hj)]; rfl, hb.frozen j⟩
theorem there_below {w w' : World} {b o n B : Nat} (h : w.there b o n) (hb : Below B w w') (hB : b < B) : w'.there b o n := fun j hj => by
  obtain ⟨h1, h2⟩ := h j hj
  obtain ⟨u, hu⟩ := Option.isSome_iff_exists.1 h1
  exact ⟨by rw [(hb.cell (p := ⟨b, o + j, none⟩) hB).trans hu]; rfl, (hb.frozen (p := ⟨b, o + j, none⟩) hB).trans h2⟩
theorem below_setCells {w : World} {B : Nat} {b : Nat} (hb : B ≤ b) : ∀ (vs : List Value) (o : Nat) (w' : World), Below B w w' → Below B w (w'.setCells b o vs)
  | [], _, _, h => h
  | v :: vs, o, _, h => below_setCells hb vs (o + 1) _ (h.setCell hb v)
theorem cell_setCells {w : World} {b : Nat} {a : Addr} {u : Value} (h : w.cell? a = some u) (hne : a.block ≠ b) (o : Nat) (vs : List Value) : (w.setCells b o vs).cell? a = some u :=
  (World.cell?_setCells_out b vs o w a (fun e _ => absurd e hne)).trans h
theorem run_store_there {P : Program} {w : World} {b n : Nat} {cs : List Value} (ht : w.there b 0 n) (hn : cs.length = n) (h1 : ∀ v ∈ cs, v.oneCell' = true) : (storeCells ⟨b, 0, none⟩ cs 0).run P w = .ok () (w.setCells b 0 cs) := by
  have := run_storeCells_cells (P := P) b 0 cs 0 w (fun j hj => by simpa using (ht j (by omega)).1) (fun j hj => by simpa using (ht j (by omega)).2) h1
  simpa using this
theorem below_draws {B : Nat} {w w' : World} (h : Below B w w') (n : Nat) : Below B w (w'.drewN n) := ⟨h.os, h.tape, h.output, h.size, h.block⟩
end Go.Proofs.Ytddehjgmmeoboaa
