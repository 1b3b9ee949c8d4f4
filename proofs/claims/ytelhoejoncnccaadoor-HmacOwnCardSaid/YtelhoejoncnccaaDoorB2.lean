/- The leaf functions: rotations, by contract. -/
import Derived.Test.YtelhoejoncnccaaDoorProg
import Derived.WalkKit
import Derived.WalkSpells
import Derived.WalkLawsBesides
import Derived.Handy
import Derived.Test.YtelhoejoncnccaaDoorB1
namespace Go.Proofs.YtelhoejoncnccaaDoor
open Go Go.RowKit

theorem ret_eq {a b : Value} (h : a = b) : Ending.returned a = Ending.returned b := by rw [h]

set_option maxHeartbeats 400000 in
theorem turn_any (x : Wd) (n : Int) (w : World) (h0 : 1 ≤ n) (h1 : n ≤ 31) :
    Calls Tryd.prog 52 #[.int .u32 (uI x), .int .u32 n] w fun e w' => e = .returned (.int .u32 (uI (rotr x n.toNat))) ∧ w' = w := by
  have hg := uI_ge x
  have hl := uI_lt x
  go_enter Tryd.func52, Tryd.ntmps52
  go_wp2
  go_ret
  refine ⟨ret_eq ?_, rfl⟩
  show Value.int .u32 (bits .or .u32 (uI x / 2 ^ n.toNat) (uI x * 2 ^ (32 - n).toNat % 4294967296)) = _
  rw [uI_shr, uI_shl, u32_or]
  simp only [rotr]
  rw [show (32 - n).toNat = 32 - n.toNat by omega]

theorem and31 (n : Int) (h0 : -31 ≤ n) (h1 : n ≤ -1) : bits .and .u64 (IntKind.u64.wrap n) 31 = n + 32 := by
  obtain ⟨m, rfl⟩ : ∃ m : Nat, n = (m : Int) - 32 := ⟨(n + 32).toNat, by omega⟩
  have : m = 1 ∨ m = 2 ∨ m = 3 ∨ m = 4 ∨ m = 5 ∨ m = 6 ∨ m = 7 ∨ m = 8 ∨ m = 9 ∨ m = 10 ∨ m = 11 ∨ m = 12 ∨ m = 13 ∨ m = 14 ∨ m = 15 ∨ m = 16 ∨ m = 17 ∨ m = 18 ∨ m = 19 ∨ m = 20 ∨ m = 21 ∨ m = 22 ∨ m = 23 ∨ m = 24 ∨ m = 25 ∨ m = 26 ∨ m = 27 ∨ m = 28 ∨ m = 29 ∨ m = 30 ∨ m = 31 := by omega
  rcases this with rfl | rfl | rfl | rfl | rfl | rfl | rfl | rfl | rfl | rfl | rfl | rfl | rfl | rfl | rfl | rfl | rfl | rfl | rfl | rfl | rfl | rfl | rfl | rfl | rfl | rfl | rfl | rfl | rfl | rfl | rfl <;> decide +kernel

set_option maxHeartbeats 400000 in
theorem rotl_any (x : Wd) (n : Int) (w : World) (h0 : -31 ≤ n) (h1 : n ≤ -1) :
    Calls Tryd.prog 84 #[.int .u32 (uI x), .int .i64 n] w fun e w' => e = .returned (.int .u32 (uI (rotr x (-n).toNat))) ∧ w' = w := by
  have hg := uI_ge x
  have hl := uI_lt x
  have ha := and31 n h0 h1
  go_enter Tryd.func84, Tryd.ntmps84
  go_wp2
  go_ret
  refine ⟨ret_eq ?_, rfl⟩
  show Value.int .u32 (bits .or .u32 (uI x * 2 ^ (n + 32).toNat % 4294967296) (uI x / 2 ^ (32 - (n + 32)).toNat)) = _
  rw [uI_shr, uI_shl, u32_or]
  simp only [rotr]
  rw [show (32 - (n + 32)).toNat = (-n).toNat by omega, show (n + 32).toNat = 32 - (-n).toNat by omega, BitVec.or_comm]

set_option maxHeartbeats 400000 in
theorem right_any (x : Wd) (n : Int) (w : World) (h0 : 1 ≤ n) (h1 : n ≤ 31) :
    Calls Tryd.prog 83 #[.int .u32 (uI x), .int .i64 n] w fun e w' => e = .returned (.int .u32 (uI (rotr x n.toNat))) ∧ w' = w := by
  go_enter Tryd.func83, Tryd.ntmps83
  go_wp2_with (go_at_call 84; refine (rotl_any x _ _ (by omega) (by omega)).mono ?_; rintro e w' ⟨rfl, rfl⟩)
  go_ret
  exact ⟨rfl, rfl⟩
end Go.Proofs.YtelhoejoncnccaaDoor
