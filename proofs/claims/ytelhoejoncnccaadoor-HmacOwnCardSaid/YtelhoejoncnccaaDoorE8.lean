/- More arguments opened: numbers' ranges; a key, a sector's number, its data, a tag. -/
import Derived.Test.YtelhoejoncnccaaDoorE0
namespace Go.Proofs.YtelhoejoncnccaaDoor
open Go Go.ChangeShapes Go.WideShapes Go.ChangeAt Go.RowKit Go.Deep Go.Joins
theorem i64_range {z : Int} (h : (Lit.int .i64 z).wf = true) : -9223372036854775808 ≤ z ∧ z ≤ 9223372036854775807 := by
  have := range_i64 (zs := [z]) (fun n hn => by rw [List.mem_singleton.1 hn]; exact h) 0
  simpa using this
theorem u8_range {z : Int} (h : (Lit.int .u8 z).wf = true) : 0 ≤ z ∧ z ≤ 255 := by
  have := range_u8 (zs := [z]) (fun n hn => by rw [List.mem_singleton.1 hn]; exact h) 0
  simpa using this
set_option maxRecDepth 100000 in
theorem open_tagged {H : Type} {enc : TypeId × Value → H} {W : World} {base : Nat} {v : Value} {d : DataW H} {ps : List MemPlace} {ts : List TypeId} {ds : List (DataW H)} (hval : Value.okWide Tryd.prog W .any base 57 v) (h : DataW.Trod enc Tryd.prog W 0 (fun _ => true) true 57 v d ps)
    (hsz : (DataW.weightsEach Tryd.prog (57 :: ts) (d :: ds)).all (· ≤ reachBytes) = true) :
    ∃ A n c key z B m e data C p q tag, v = .agg #[.slice A n c, .int .i64 z, .slice B m e, .slice C p q] ∧ n ≤ c ∧ c ≤ 140737488351232 ∧ RdB W A n key ∧ m ≤ e ∧ e ≤ 140737488351232 ∧ RdB W B m data ∧ p ≤ q ∧ q ≤ 140737488351232 ∧ RdB W C p tag := by
  obtain ⟨v0, v1, v2, v3, y0, y1, y2, y3, n, rfl, rfl, rfl, h0, h1, h2, h3⟩ := open_agg4 Tryd.underlying57 (by kernel_rfl) (by kernel_rfl) hval h
  have hw := List.all_eq_true.1 hsz
  obtain ⟨A, n0, c, key, rfl, e1, e2, e3⟩ := open_bytes_at h0 (fun elems spare hd => by
    have := hw _ (DataW.weights_mem_each (j := 0) (t := 57) rfl rfl ((elems.length + spare.length) * Tryd.prog.bytesOf 5) (by simp [DataW.weights, DataW.weightsEach, Tryd.underlying57, Tryd.underlying22, hd]))
    simpa using this)
  obtain ⟨B, m, e, data, rfl, f1, f2, f3⟩ := open_bytes_at h2 (fun elems spare hd => by
    have := hw _ (DataW.weights_mem_each (j := 0) (t := 57) rfl rfl ((elems.length + spare.length) * Tryd.prog.bytesOf 5) (by simp [DataW.weights, DataW.weightsEach, Tryd.underlying57, Tryd.underlying22, hd]))
    simpa using this)
  obtain ⟨C, p, q, tag, rfl, g1, g2, g3⟩ := open_bytes_at h3 (fun elems spare hd => by
    have := hw _ (DataW.weights_mem_each (j := 0) (t := 57) rfl rfl ((elems.length + spare.length) * Tryd.prog.bytesOf 5) (by simp [DataW.weights, DataW.weightsEach, Tryd.underlying57, Tryd.underlying22, hd]))
    simpa using this)
  obtain ⟨z, hz, _, _⟩ := DataW.trod_int Tryd.underlying3 h1
  obtain rfl := List.singleton_inj.1 hz
  exact ⟨A, n0, c, key, z, B, m, e, data, C, p, q, tag, rfl, e1, e2, e3, f1, f2, f3, g1, g2, g3⟩
end Go.Proofs.YtelhoejoncnccaaDoor
