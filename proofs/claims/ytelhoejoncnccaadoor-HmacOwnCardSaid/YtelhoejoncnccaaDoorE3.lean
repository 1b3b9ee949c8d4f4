/- Numbers as eight bytes: both packages' Put, and Bytes. -/
import Derived.Test.YtelhoejoncnccaaDoorE1
namespace Go.Proofs.YtelhoejoncnccaaDoor
open Go Go.RowKit
/-- An owned row of bytes that the call has made. -/
def Gives (w : World) (v : Value) (bs : List By) (w' : World) : Prop := ∃ A c, v = .slice A bs.length c ∧ OwB w' v bs ∧ Fr none_ w w' ∧ ∀ k, inBlk v k → w.heap.size ≤ k
def z8 : List By := List.replicate 8 0
theorem make8 (w : World) : (Instr.makeSlice 22 (.int .i64 8) (.int .i64 8)).run Tryd.prog w = .ok (.slice (some ⟨w.heap.size, 0, none⟩) 8 8) (w.alloc (.cells (z8.map bV).toArray 5)) := by kernel_rfl
theorem be8_at (n : Nat) {i : Nat} (h : i < 8) : (be8 n)[i]? = some (BitVec.ofNat 8 (n / 2 ^ (56 - 8 * i))) := by
  unfold be8
  rw [List.getElem?_map, List.getElem?_range h]
  rfl
set_option maxRecDepth 100000 in
set_option maxHeartbeats 2000000 in
theorem oput8_any (n : Nat) (w : World) (_hn : n < 18446744073709551616) :
    Calls Tryd.prog 76 #[.int .u64 n, .int .i64 8] w fun e w' => ∃ v, e = .returned (.tuple #[v, .int .i64 0]) ∧ Gives w v (be8 n) w' := by
  have hmk := make8


  go_enter Tryd.func76, Tryd.ntmps76
  go_wp2
  go_loopw [29] (fun v wr => ∃ (i : Nat) (l : List By), v = .int .i64 i ∧ i ≤ 8 ∧ l.length = 8 ∧ (∀ q, q < i → l[q]? = (be8 n)[q]?) ∧ Fr none_ w wr ∧ Blk wr w.heap.size 5 (l.map bV)) (fun v _ => 8 - (intOf v).toNat)
  case atStart => exact ⟨0, z8, rfl, by omega, rfl, fun q hq => by omega, (Fr.refl _ _).alloc _, Blk.new w 5 (z8.map bV)⟩
  case round =>
    obtain ⟨i, l, rfl, hi, hl, hlq, hfr, hB⟩ := hrel
    have hl' := Lib.hid hl
    have hlq' := Lib.hid hlq
    clear hl hlq hmk
    by_cases hlt : i < 8
    · have ck : (wr.cell? ⟨w.heap.size, i, none⟩).isSome := by rw [hB.cell]; simp [hl'.out]; omega
      obtain ⟨v, ck⟩ := Option.isSome_iff_exists.1 ck
      have fk := hB.free i
      go_wp2
      go_roundw
      case measure => simp [intOf]; omega
      case rel =>
        rw [byte_of]
        refine ⟨i + 1, l.set i (BitVec.ofNat 8 (n / 2 ^ (8 * (7 - i)))), by go_num, by omega, by simpa using hl'.out, fun q hq => ?_, hfr.setCell (p := ⟨w.heap.size, i, none⟩) (fun h => absurd h (by simp)) _, ?_⟩
        · rw [List.getElem?_set]
          split
          · rename_i e
            subst e
            rw [if_pos (by rw [hl'.out]; exact hlt), be8_at n hlt, show 56 - 8 * i = 8 * (7 - i) by omega]
          · exact hlq'.out q (by omega)
        · rw [List.map_set]
          exact hB.store i _
    · obtain rfl : i = 8 := by omega
      obtain rfl : l = be8 n := all_known hl'.out (be8_length n) hlq'.out
      clear hlt hlq' hl'
      go_wp2
      go_ret2
      have hlb := be8_length n
      refine ⟨_, rfl, some ⟨w.heap.size, 0, none⟩, 8, by rw [hlb]; rfl, ?_, hfr, own_new⟩
      have := OwB.mk (bs := be8 n) (cap := 8) hB (by rw [hlb]; exact Nat.le_refl _) (by decide) (by rw [List.length_map]; exact hlb) (by rw [List.take_of_length_le (by rw [List.length_map]; exact Nat.le_refl _)])
      rwa [hlb] at this
theorem div_step (n j : Nat) : n / 2 ^ (8 * j) / 256 = n / 2 ^ (8 * (j + 1)) := by
  rw [Nat.div_div_eq_div_mul, show 2 ^ (8 * (j + 1)) = 2 ^ (8 * j) * 256 by rw [show 8 * (j + 1) = 8 * j + 8 by omega, Nat.pow_add]]
theorem div_done (n : Nat) (h : n < 18446744073709551616) : n / 2 ^ (8 * 8) = 0 := Nat.div_eq_of_lt (by simpa using h)
theorem byte_of' (n : Nat) : ((n : Int) % 256) = bI (BitVec.ofNat 8 n) := by
  have := byte_of n 0
  simpa using this
set_option maxRecDepth 100000 in
set_option maxHeartbeats 2000000 in
theorem rput8_any (n : Nat) (w : World) (hn : n < 18446744073709551616) :
    Calls Tryd.prog 75 #[.int .u64 n, .int .i64 8] w fun e w' => ∃ v, e = .returned (.tuple #[v, .int .i64 0]) ∧ Gives w v (be8 n) w' := by
  have hmk := make8
  go_enter Tryd.func75, Tryd.ntmps75
  go_wp2
  go_loopw [0, 7] (fun x v wr => ∃ (j : Nat) (l : List By), x = .int .u64 ((n / 2 ^ (8 * j) : Nat) : Int) ∧ v = .int .i64 (7 - j) ∧ j ≤ 8 ∧ l.length = 8 ∧ (∀ q, 8 - j ≤ q → l[q]? = (be8 n)[q]?) ∧ Fr none_ w wr ∧ Blk wr w.heap.size 5 (l.map bV)) (fun _ v _ => (intOf v + 1).toNat)
  case atStart => exact ⟨0, z8, by simp, rfl, by omega, rfl, fun q hq => by rw [List.getElem?_eq_none hq, List.getElem?_eq_none (by rw [be8_length]; exact hq)], (Fr.refl _ _).alloc _, Blk.new w 5 (z8.map bV)⟩
  case round =>
    obtain ⟨j, l, rfl, rfl, hj, hl, hlq, hfr, hB⟩ := hrel
    have hl' := Lib.hid hl
    have hlq' := Lib.hid hlq
    clear hl hlq hmk
    obtain ⟨y, hy⟩ : ∃ y, y = n / 2 ^ (8 * j) := ⟨_, rfl⟩
    have hyn : y < 18446744073709551616 := by rw [hy]; exact Nat.lt_of_le_of_lt (Nat.div_le_self _ _) hn
    rw [← hy]
    have hy' := Lib.hid hy
    clear hy
    by_cases hlt : j < 8
    · have ck : (wr.cell? ⟨w.heap.size, 7 - j, none⟩).isSome := by rw [hB.cell]; simp [hl'.out]; omega
      obtain ⟨v, ck⟩ := Option.isSome_iff_exists.1 ck
      have fk := hB.free (7 - j)
      have q1 : (0 : Int) ≤ 7 - (j : Int) := by omega
      have q2 : (7 - (j : Int)) < 8 := by omega
      have q3 : (7 - (j : Int)).toNat = 7 - j := by omega
      go_wp2
      go_roundw
      case measure => simp [intOf]; omega
      case rel =>
        rw [byte_of']
        refine ⟨j + 1, l.set (7 - j) (BitVec.ofNat 8 y), ?_, ?_, by omega, by simpa using hl'.out, fun q hq => ?_, hfr.setCell (p := ⟨w.heap.size, 7 - j, none⟩) (fun h => absurd h (by simp)) _, ?_⟩
        · rw [← div_step, ← hy'.out]; rfl
        · rw [show (7 - ((j + 1 : Nat) : Int)) = 7 - (j : Int) - 1 by omega]
        · rw [List.getElem?_set]
          split
          · rename_i e
            subst e
            rw [if_pos (by rw [hl'.out]; omega), be8_at n (by omega), show 56 - 8 * (7 - j) = 8 * j by omega, ← hy'.out]
          · exact hlq'.out q (by omega)
        · rw [List.map_set]
          exact hB.store (7 - j) _
    · obtain rfl : j = 8 := by omega
      obtain rfl : l = be8 n := all_known hl'.out (be8_length n) (fun q _ => hlq'.out q (by omega))
      obtain rfl : y = 0 := by rw [hy'.out]; exact div_done n hn
      clear hlt hlq' hl' hy' hyn
      go_wp2
      go_ret2
      have hlb := be8_length n
      refine ⟨_, rfl, some ⟨w.heap.size, 0, none⟩, 8, by rw [hlb]; rfl, ?_, hfr, own_new⟩
      have := OwB.mk (bs := be8 n) (cap := 8) hB (by rw [hlb]; exact Nat.le_refl _) (by decide) (by rw [List.length_map]; exact hlb) (by rw [List.take_of_length_le (by rw [List.length_map]; exact Nat.le_refl _)])
      rwa [hlb] at this
set_option maxRecDepth 100000 in
theorem bytes8_any (n : Nat) (w : World) (hn : n < 18446744073709551616) :
    Calls Tryd.prog 36 #[.int .u64 n, .int .i64 8] w fun e w' => ∃ v, e = .returned v ∧ Gives w v (be8 n) w' := by
  go_enter Tryd.func36, Tryd.ntmps36
  go_wp2_with (go_at_call 75; refine (rput8_any n _ hn).mono ?_; rintro e w1 ⟨v, rfl, hg⟩; obtain ⟨A, c, hv, h1, h2, h3⟩ := hg; subst hv)
  go_ret
  exact ⟨_, rfl, A, c, rfl, h1, h2, h3⟩
end Go.Proofs.YtelhoejoncnccaaDoor
