/- Blocks of a message, plain: taken in piece by piece, padded. -/
import Derived.Test.YtelhoejoncnccaaDoorB0
namespace Go.Proofs.YtelhoejoncnccaaDoor
open Go

theorem blks_append (s : St) (p q : List By) (n : Nat) (h : 64 * n ≤ p.length) : blks s (p ++ q) n = blks s p n := by
  induction n generalizing s p with
  | zero => rfl
  | succ n ih =>
    simp only [blks]
    rw [List.take_append_of_le_length (by omega), List.drop_append_of_le_length (by omega), ih _ _ (by simp; omega)]
theorem blks_add (s : St) (p : List By) (a b : Nat) : blks s p (a + b) = blks (blks s p a) (p.drop (64 * a)) b := by
  induction a generalizing s p with
  | zero => simp [blks]
  | succ a ih =>
    rw [show a + 1 + b = (a + b) + 1 by omega]
    simp only [blks]
    rw [ih, List.drop_drop, show 64 + 64 * a = 64 * (a + 1) by omega]
theorem blks_succ (s : St) (p : List By) (a : Nat) : blks s p (a + 1) = blk (blks s p a) ((p.drop (64 * a)).take 64) := by
  rw [blks_add]; rfl
/-- What has been taken in, what is left over. -/
def fed (s : St) (p : List By) : St := blks s p (p.length / 64)
def left_ (p : List By) : List By := p.drop (64 * (p.length / 64))
theorem left_length (p : List By) : (left_ p).length = p.length % 64 := by simp [left_]; omega
theorem left_lt (p : List By) : (left_ p).length < 64 := by rw [left_length]; omega
theorem fed_append (s : St) (p b : List By) : fed s (p ++ b) = fed (fed s p) (left_ p ++ b) := by
  have hl := left_length p
  unfold fed
  have e : (p ++ b).length / 64 = p.length / 64 + (left_ p ++ b).length / 64 := by
    rw [List.length_append, List.length_append, hl]; omega
  rw [e, blks_add, blks_append _ _ _ _ (by omega), List.drop_append_of_le_length (by omega)]
  rfl
theorem left_append (p b : List By) : left_ (p ++ b) = left_ (left_ p ++ b) := by
  have hl := left_length p
  have e : (p ++ b).length / 64 = p.length / 64 + (left_ p ++ b).length / 64 := by
    rw [List.length_append, List.length_append, hl]; omega
  conv => lhs; unfold left_
  conv => rhs; unfold left_
  rw [e, Nat.mul_add, ← List.drop_drop, List.drop_append_of_le_length (by omega)]
  rfl
theorem left_small (p : List By) (h : p.length < 64) : left_ p = p := by
  unfold left_; rw [show p.length / 64 = 0 by omega]; rfl
theorem fed_small (s : St) (p : List By) (h : p.length < 64) : fed s p = s := by
  unfold fed; rw [show p.length / 64 = 0 by omega]; rfl
theorem fed_block (s : St) (r b : List By) (h : r.length = 64) : fed s (r ++ b) = fed (blk s r) b := by
  unfold fed
  rw [show (r ++ b).length / 64 = b.length / 64 + 1 by rw [List.length_append]; omega]
  simp only [blks]
  rw [List.take_append_of_le_length (by omega), List.take_of_length_le (by omega), List.drop_append_of_le_length (by omega), List.drop_of_length_le (by omega)]
  rfl
theorem left_block (r b : List By) (h : r.length = 64) : left_ (r ++ b) = left_ b := by
  unfold left_
  have e : 64 * ((r ++ b).length / 64) = r.length + 64 * (b.length / 64) := by rw [List.length_append]; omega
  rw [e, ← List.drop_drop, List.drop_left]
theorem fed_step (s : St) (p : List By) (h : 64 ≤ p.length) : fed (blk s (p.take 64)) (p.drop 64) = fed s p := by
  conv => rhs; rw [← List.take_append_drop 64 p, fed_block _ _ _ (by simp; omega)]
theorem left_step (p : List By) (h : 64 ≤ p.length) : left_ (p.drop 64) = left_ p := by
  conv => rhs; rw [← List.take_append_drop 64 p, left_block _ _ (by simp; omega)]
theorem take_getD (p : List By) {j : Nat} (h : j < 64) : (p.take 64).getD j 0 = p.getD j 0 := by
  rw [List.getD_eq_getElem?_getD, List.getD_eq_getElem?_getD, List.getElem?_take, if_pos h]
/-- The padding of a message is that of what is left over, and its length in bits. -/
theorem pad_length (n : Nat) : (padOf n).length = 9 + zeros n := by simp [padOf, be8]; omega
theorem run_padded (b : List By) : run st0 (padded b) = fed (fed st0 b) (left_ b ++ padOf b.length) := by
  rw [← fed_append]; rfl
theorem left_padded (b : List By) : left_ (left_ b ++ padOf b.length) = [] := by
  have h : (left_ b ++ padOf b.length).length % 64 = 0 := by
    rw [List.length_append, left_length, pad_length]; unfold zeros; omega
  have := left_length (left_ b ++ padOf b.length)
  rw [h] at this
  exact List.eq_nil_of_length_eq_zero this
theorem sha_eq (b : List By) : sha b = digest (fed (fed st0 b) (left_ b ++ padOf b.length)) := by
  unfold sha; rw [run_padded]
theorem sha_length (b : List By) : (sha b).length = 32 := rfl
end Go.Proofs.YtelhoejoncnccaaDoor
