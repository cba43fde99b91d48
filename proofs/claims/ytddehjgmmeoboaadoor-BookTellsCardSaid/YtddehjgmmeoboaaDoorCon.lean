/- Contacts as cells, and when two are equal. -/
import Derived.Test.YtddehjgmmeoboaaDoorBlk
import Derived.Stop.BytesEq
namespace Go.Proofs.YtddehjgmmeoboaaDoor
open Go.RowKit
set_option maxRecDepth 8000

/-- A contact: its name, its key, its level. -/
structure Con where
  s : ByteArray
  K : List UInt8
  l : Int
def Con.c (x : Con) : List Value := .string x.s :: (x.K.map B ++ [.int .i64 x.l])
theorem Con.len (x : Con) (h : x.K.length = 32) : x.c.length = 34 := by simp [Con.c, h]
theorem Con.one (x : Con) : ∀ v ∈ x.c, v.oneCell' = true := by
  intro v hv
  simp only [Con.c, List.mem_cons, List.mem_append, List.mem_map] at hv
  rcases hv with rfl | ⟨b, _, rfl⟩ | rfl | h
  · rfl
  · rfl
  · rfl
  · cases h
theorem run_size {P : Program} {T : TypeId} {i : TypeInfo} {n : Nat} (hi : P.info? T = some i) (hs : i.size = n) (w : World) : (sizeOf T).run P w = .ok n w := by
  simp [sizeOf, typeInfo, hi, hs]
theorem run_part_agg {P : Program} {T : TypeId} {n : Nat} {d : TypeDesc} (hu : P.underlying T = some d) (hd : d.isRow = true) (w : World) (hz : (sizeOf T).run P w = .ok n w) (cs : Array Value) (off : Nat) : (part T cs off).run P w = .ok (.agg (cs.extract off (off + n))) w := by
  have hagg : (isAgg T).run P w = .ok true w := by
    unfold isAgg
    rw [Sem.run_bind, run_underlying hu w]
    cases d <;> simp_all
  unfold part
  rw [Sem.run_bind, hagg]
  simp [hz]
theorem con_p0 (x : Con) (w : World) : (part 9 x.c.toArray 0).run Tryd.prog w = .ok (.string x.s) w := by
  simp [part, isAgg, run_underlying Tryd.underlying9, Con.c]
theorem con_ex (x : Con) (hK : x.K.length = 32) : x.c.toArray.extract 1 (1 + 32) = (x.K.map Extern.Stop.cell).toArray := by
  unfold Con.c
  simp [hK]
  exact fun a _ => rfl
theorem con_p2 (x : Con) (hK : x.K.length = 32) (w : World) : (part 3 x.c.toArray 33).run Tryd.prog w = .ok (.int .i64 x.l) w := by
  simp [part, isAgg, run_underlying Tryd.underlying3, Con.c, hK]
theorem Tryd.digSize : ∃ i, Tryd.prog.info? 23 = some i ∧ i.size = 32 := by
  have h : (Tryd.prog.info? 23).map (·.size) = some 32 := by kernel_rfl
  generalize Tryd.prog.info? 23 = q at h
  cases q with
  | none => cases h
  | some i => exact ⟨i, rfl, by simpa using h⟩
theorem con_p1 (x : Con) (hK : x.K.length = 32) (w : World) : (part 23 x.c.toArray 1).run Tryd.prog w = .ok (.agg (x.K.map Extern.Stop.cell).toArray) w := by
  obtain ⟨i, hi, hs⟩ := Tryd.digSize
  rw [run_part_agg Tryd.underlying23 rfl w (run_size hi hs w), con_ex x hK]
theorem Tryd.u8Size (w : World) : (sizeOf 5).run Tryd.prog w = .ok 1 w := by
  have h : (Tryd.prog.info? 5).map (·.size) = some 1 := by kernel_rfl
  generalize hq : Tryd.prog.info? 5 = q at h
  cases q with
  | none => cases h
  | some i => exact run_size hq (by simpa using h) w
theorem eqFields_more (P : Program) (d : Nat) (xs ys : Array Value) (f : Field) (fs : List Field) (hf : f.name ≠ "_") (a b : Value) (w : World) (ha : (part f.type xs f.offset).run P w = .ok a w) (hb : (part f.type ys f.offset).run P w = .ok b w)
    (r r2 : Bool) (he : (Op.equalIn d f.type a b).run P w = .ok r w) (h : (Op.eqFields d xs ys fs).run P w = .ok r2 w) : (Op.eqFields d xs ys (f :: fs)).run P w = .ok (r && r2) w := by
  rw [Op.eqFields, if_pos hf]
  simp only [Sem.run_bind, ha, hb, he, Result.andThen_ok]
  cases r
  · simp
  · simpa using h
theorem Tryd.conHu : Tryd.prog.underlying 59 = some (.struct (Tryd.prog.fieldsOf 59)) := by
  unfold Program.fieldsOf; rw [Tryd.underlying59]
theorem Tryd.conStood : Tryd.prog.stoodInHeld 59 = false := by kernel_rfl
def Con.eqb (x y : Con) : Bool := (x.s.toList == y.s.toList) && ((x.K == y.K) && (x.l == y.l))
theorem con_eq' (d : Nat) (x y : Con) (hx : x.K.length = 32) (hy : y.K.length = 32) (w : World) :
    (Op.equalIn (d + 3) 59 (.agg x.c.toArray) (.agg y.c.toArray)).run Tryd.prog w = .ok (x.eqb y) w := by
  rw [run_equalIn_struct w (d + 2) 59 _ _ Tryd.conHu Tryd.conStood]
  have hu := Tryd.underlying59
  unfold Program.fieldsOf
  rw [hu]
  refine eqFields_more _ _ _ _ _ _ (by decide) _ _ w (con_p0 x w) (con_p0 y w) _ _ (run_equalIn_string (P := Tryd.prog) w (d + 1) 9 x.s y.s Tryd.underlying9) ?_
  refine eqFields_more _ _ _ _ _ _ (by decide) _ _ w (con_p1 x hx w) (con_p1 y hy w) _ _ (run_equalIn_bytes (P := Tryd.prog) w d 23 5 32 Tryd.underlying23 Tryd.underlying5 Tryd.u8Size x.K y.K hx hy) ?_
  rw [← Bool.and_true (x.l == y.l)]
  refine eqFields_more _ _ _ _ _ _ (by decide) _ _ w (con_p2 x hx w) (con_p2 y hy w) _ _ (run_equalIn_int (P := Tryd.prog) w (d + 1) 3 .i64 .i64 x.l y.l Tryd.underlying3) rfl
theorem con_eq (x y : Con) (hx : x.K.length = 32) (hy : y.K.length = 32) (w : World) :
    (Op.equalIn 10000 59 (.agg x.c.toArray) (.agg y.c.toArray)).run Tryd.prog w = .ok (x.eqb y) w := con_eq' 9997 x y hx hy w
end Go.Proofs.YtddehjgmmeoboaaDoor
