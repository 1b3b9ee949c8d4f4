/- Digests compared; the law of no hash. -/
import Derived.Test.YtelhoejoncnccaaDoorC5
import Derived.Stop.BytesEq
namespace Go.Proofs.YtelhoejoncnccaaDoor
open Go Go.RowKit
theorem map_cell (D : List By) : (D.map UInt8.ofBitVec).map Extern.Stop.cell = D.map bV := by
  rw [List.map_map]
  rfl
theorem byte_beq (a b : List By) : (a.map UInt8.ofBitVec == b.map UInt8.ofBitVec) = (a == b) := by
  rw [Bool.eq_iff_iff, beq_iff_eq, beq_iff_eq]
  exact List.map_inj_right (fun x y e => by cases x; cases y; injection e)
section
variable (w : World) (a b : List By)
theorem eql_DA (ha : a.length = 32) (hb : b.length = 32) : (binOp .eql 23 (DA a) (DA b)).run Tryd.prog w = .ok (.bool (a == b)) w := by
  have := run_eql_bytes (P := Tryd.prog) w 23 5 32 Tryd.underlying23 Tryd.underlying5 (fun w => by kernel_rfl) (a.map UInt8.ofBitVec) (b.map UInt8.ofBitVec) (by simpa using ha) (by simpa using hb)
  rw [map_cell, map_cell, byte_beq] at this
  exact this
theorem neq_DA (ha : a.length = 32) (hb : b.length = 32) : (binOp .neq 23 (DA a) (DA b)).run Tryd.prog w = .ok (.bool (!(a == b))) w := by
  have := run_equalIn_bytes (P := Tryd.prog) w 9998 23 5 32 Tryd.underlying23 Tryd.underlying5 (fun w => by kernel_rfl) (a.map UInt8.ofBitVec) (b.map UInt8.ofBitVec) (by simpa using ha) (by simpa using hb)
  rw [map_cell, map_cell, byte_beq] at this
  rw [DA, DA, run_neq_struct, this]
  rfl
theorem eqGuard_DA (op : BinOp) (x y : Operand) : (eqGuard op 23 x y (DA a) (DA b)).run Tryd.prog w = .ok () w := run_eqGuard_agg w op 23 x y _ _ (by kernel_rfl)
theorem eql_sha : (binOp .eql 23 (DA (sha a)) (DA (sha b))).run Tryd.prog w = .ok (.bool (sha a == sha b)) w := eql_DA w _ _ (sha_len a) (sha_len b)
theorem neq_sha : (binOp .neq 23 (DA (sha a)) (DA (sha b))).run Tryd.prog w = .ok (.bool (!(sha a == sha b))) w := neq_DA w _ _ (sha_len a) (sha_len b)
end
theorem DA32 : DA Z32 = Value.agg #[.int .u8 0, .int .u8 0, .int .u8 0, .int .u8 0, .int .u8 0, .int .u8 0, .int .u8 0, .int .u8 0, .int .u8 0, .int .u8 0, .int .u8 0, .int .u8 0, .int .u8 0, .int .u8 0, .int .u8 0, .int .u8 0, .int .u8 0, .int .u8 0, .int .u8 0, .int .u8 0, .int .u8 0, .int .u8 0, .int .u8 0, .int .u8 0, .int .u8 0, .int .u8 0, .int .u8 0, .int .u8 0, .int .u8 0, .int .u8 0, .int .u8 0, .int .u8 0] := rfl
set_option maxRecDepth 100000 in
set_option maxHeartbeats 400000 in
theorem shaNil_any (v : Value) (w : World) (hG : GK w) : Calls Tryd.prog 5 #[v] w fun e w' => e = .returned (.bool true) ∧ Fr none_ w w' := by
  have hG' := Lib.hid hG
  clear hG
  have hz1 := fun (w : World) (op : BinOp) (x y : Operand) => eqGuard_DA w Z32 Z32 op x y
  have hz2 := fun w : World => (eql_DA w Z32 Z32 rfl rfl).trans (by simp : _ = Result.ok (.bool true) w)
  simp only [DA32] at hz1 hz2
  go_enter Tryd.func5, Tryd.ntmps5
  go_wp2_with (first
    | (go_at_call 24; refine (sum_nil _).mono ?_; rw [DA32]; rintro e w2 ⟨rfl, hf2⟩)
    | (go_at_call 20; refine (alive_any _ hG'.out).mono ?_; rintro e w1 ⟨rfl, hf1⟩)
    | (go_at_call 23; refine (write_nil _ _).mono ?_; rintro e w0 ⟨rfl, rfl⟩))
  go_ret
  exact ⟨rfl, hf1.trans hf2 (fun _ _ => id)⟩
end Go.Proofs.YtelhoejoncnccaaDoor
