/- The reference's digits, by contract. -/
import Derived.Test.YtelhoejoncnccaaDoorB2
import Derived.Test.YtelhoejoncnccaaDoorB6
namespace Go.Proofs.YtelhoejoncnccaaDoor
open Go Go.RowKit
/-- A digit. -/
def digW (c : UInt8) : Wd := if 97 ≤ c.toNat then ((BitVec.ofNat 8 c.toNat) - 97).setWidth 32 + 10 else ((BitVec.ofNat 8 c.toNat) - 48).setWidth 32
def numOf : Wd → List UInt8 → Wd
  | x, [] => x
  | x, c :: r => numOf (16 * x + digW c) r
def numAt (s : ByteArray) (i : Nat) : Wd := numOf 0 ((s.data.toList.drop (8 * i)).take 8)
theorem numOf_snoc (x : Wd) (l : List UInt8) (c : UInt8) : numOf x (l ++ [c]) = 16 * numOf x l + digW c := by
  induction l generalizing x with
  | nil => rfl
  | cons a r ih => exact ih _

theorem uI_16 (X : Wd) : uI (16 * X) = 16 * uI X % 4294967296 := by
  unfold uI; rw [BitVec.toNat_mul]; simp
theorem num_hi (X : Wd) (c : UInt8) (h : 97 ≤ (c.toNat : Int)) : (16 * uI X % 4294967296 + (((c.toNat : Int) - 97) % 256 + 10)) % 4294967296 = uI (16 * X + digW c) := by
  have hc := c.toNat_lt
  rw [uI_add, uI_16]
  unfold digW
  rw [if_pos (by omega), uI_add]
  have : uI ((BitVec.ofNat 8 c.toNat - 97).setWidth 32) = (c.toNat : Int) - 97 := by
    unfold uI
    rw [BitVec.toNat_setWidth, BitVec.toNat_sub, BitVec.toNat_ofNat]
    simp
    omega
  rw [this, show uI 10 = 10 from rfl]
  omega
theorem num_lo (X : Wd) (c : UInt8) (h : ¬ 97 ≤ (c.toNat : Int)) : (16 * uI X % 4294967296 + (((c.toNat : Int) - 48) % 256)) % 4294967296 = uI (16 * X + digW c) := by
  have hc := c.toNat_lt
  rw [uI_add, uI_16]
  unfold digW
  rw [if_neg (by omega)]
  have : uI ((BitVec.ofNat 8 c.toNat - 48).setWidth 32) = ((c.toNat : Int) - 48) % 256 := by
    unfold uI
    rw [BitVec.toNat_setWidth, BitVec.toNat_sub, BitVec.toNat_ofNat]
    simp
    omega
  rw [this]
theorem take_more (s : ByteArray) (i j : Nat) (h : 8 * i + j < s.size) : (s.data.toList.drop (8 * i)).take (j + 1) = (s.data.toList.drop (8 * i)).take j ++ [s[8 * i + j]] := by
  have hl : s.data.toList.length = s.size := rfl
  rw [List.take_succ_eq_append_getElem (by rw [List.length_drop, hl]; omega)]
  congr 2
  rw [List.getElem_drop]
  rfl
attribute [local go_sem] wrap_u32_bI wrap_uI wrap_bI u32_add u32_xor u32_and u32_or

set_option maxRecDepth 100000 in
set_option maxHeartbeats 1000000 in
theorem number_any (s : ByteArray) (i : Nat) (w : World) (hi : 8 * i + 8 ≤ s.size) (hs : s.size ≤ 1000000) :
    Calls Tryd.prog 49 #[.string s, .int .i64 i] w fun e w' => e = .returned (.int .u32 (uI (numAt s i))) ∧ w' = w := by
  go_enter Tryd.func49, Tryd.ntmps49
  go_wp2
  go_loop [5, 6, 7] (fun x k _ => ∃ j : Nat, j ≤ 8 ∧ k = .int .i64 (8 * i + j) ∧ x = .int .u32 (uI (numOf 0 ((s.data.toList.drop (8 * i)).take j)))) (fun _ k _ => 8 * i + 8 - (intOf k).toNat)
  case atStart => exact ⟨0, by omega, by go_num, rfl⟩
  case round =>
    obtain ⟨j, hj, rfl, rfl⟩ := hrel
    by_cases hlt : j < 8
    · go_wp2
      all_goals
        go_round
        case measure => simp [intOf]; omega
        case rel =>
          refine ⟨j + 1, by omega, by go_num, ?_⟩
          rw [take_more s i j (by omega), numOf_snoc]
          first
            | exact congrArg _ (num_hi _ _ (by assumption))
            | exact congrArg _ (num_lo _ _ (by omega))
    · obtain rfl : j = 8 := by omega
      go_wp2
      go_ret
      exact ⟨rfl, rfl⟩
end Go.Proofs.YtelhoejoncnccaaDoor
