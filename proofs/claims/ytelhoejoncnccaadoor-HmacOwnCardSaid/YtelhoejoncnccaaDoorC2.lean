/- The reference's padding, by contract. -/
import Derived.Test.YtelhoejoncnccaaDoorB9
namespace Go.Proofs.YtelhoejoncnccaaDoor
open Go Go.RowKit
theorem OwB.empty (w : World) : OwB (w.alloc (.cells #[] 5)) (.slice (some ⟨w.heap.size, 0, none⟩) 0 0) [] := OwB.mk (bs := []) (Blk.new w 5 []) (Nat.le_refl _) (by decide) rfl rfl
theorem own_new {w : World} {n c : Nat} : ∀ k, inBlk (.slice (some ⟨w.heap.size, 0, none⟩) n c) k → w.heap.size ≤ k := fun k h => by
  have h : some w.heap.size = some k := h
  cases h; exact Nat.le_refl _

set_option maxRecDepth 100000 in
set_option maxHeartbeats 1000000 in
theorem padded_any (A : Option Addr) (n c : Nat) (bs : List By) (w : World) (hbs : RdB w A n bs) (hn : n ≤ 140737488355000) :
    Calls Tryd.prog 50 #[.slice A n c] w fun e w' => ∃ A' c', e = .returned (.slice A' (padded bs).length c') ∧ OwB w' (.slice A' (padded bs).length c') (padded bs) ∧ Fr none_ w w' ∧ (∀ k, inBlk (.slice A' (padded bs).length c') k → w.heap.size ≤ k) := by
  obtain ⟨i5, hi5, hz5, hs5, hb5⟩ := info_parts (P := Tryd.prog) (e := 5) (z := .int .u8 0) (size := 1) (bytes := 1) (by kernel_rfl)
  have hbl := hbs.1
  have hbl' := Lib.hid hbl
  clear hbl
  go_enter Tryd.func50, Tryd.ntmps50
  go_wp2_with (first
    | (at_builtin; refine wpList_append_bytes _ rfl (.tmp 6) (.tmp 7) 22 rfl i5 Tryd.underlying22 hi5 hz5 hs5 hb5 (.slice (some ⟨w.heap.size, 0, none⟩) 0 0) rfl [] (OwB.empty w) A n c bs rfl (hbs.alloc _) (by simp; omega) ?_; intro v1 w1 ho1 hf1 hk1; obtain ⟨A1, c1, rfl, _, _⟩ := ho1.slice)
    | (at_builtin; refine wpList_append_bytes _ rfl (.tmp 8) (.tmp 9) 22 rfl i5 Tryd.underlying22 hi5 hz5 hs5 hb5 _ rfl ([] ++ bs) (ho1.alloc _) _ _ _ [128] rfl (RdB.lit w1 128 5) (by simp [hbl'.out]; omega) ?_; intro v2 w2 ho2 hf2 hk2; obtain ⟨A2, c2, rfl, _, _⟩ := ho2.slice))
  have hF1 : Fr none_ w w1 := Fr.far ((Fr.refl none_ w).alloc _) hf1 own_new
  have hK1 := own_far hk1 own_new (by simp)
  have hF2 : Fr none_ w w2 := Fr.far (hF1.alloc _) hf2 hK1
  have hK2 := own_far hk2 hK1 (by have := hF1.size; simp; omega)
  have hz : zeros n = (119 - n % 64) % 64 := rfl
  have hzl : zeros n ≤ (119 - n % 64) % 64 := by omega
  have hzg : (119 - n % 64) % 64 ≤ zeros n := by omega
  have hbl2 : bs.length ≤ n := by rw [hbl'.out]; exact Nat.le_refl _
  have hbl3 : n ≤ bs.length := by rw [hbl'.out]; exact Nat.le_refl _
  simp only [List.nil_append] at ho2 hK2
  clear hz hf1 hf2 hk1 hk2 hK1 ho1
  go_loopw [3] (fun v wr => ∃ (k : Nat) (A : Option Addr) (c : Nat), k ≤ zeros n ∧ v = .slice A (bs.length + 1 + k) c ∧ Fr none_ w wr ∧ OwB wr v (bs ++ [128] ++ List.replicate k 0) ∧ (∀ k, inBlk v k → w.heap.size ≤ k)) (fun v _ => zeros n + bs.length + 1 - lenV v)
  case atStart => exact ⟨0, A2, c2, Nat.zero_le _, rfl, hF2, by simpa using ho2, by simpa using hK2⟩
  case round =>
    clear hF2 ho2 hK2 hF1
    obtain ⟨k, A, c, hk, rfl, hfr, hor, hkr⟩ := hrel
    have hkr' := Lib.hid hkr
    clear hkr
    have hL : (bs ++ [128] ++ List.replicate k (0 : By)).length = bs.length + 1 + k := by simp; omega
    have hL' := Lib.hid hL
    clear hL
    by_cases hlt : k < zeros n
    · have hne : (((bs.length : Int) + 1 + (k : Int)) % 64 != 56) = true := by
        rw [bne_iff_ne]; omega
      go_wp2_with (at_builtin; refine wpList_append_bytes _ rfl (.tmp 15) (.tmp 16) 22 rfl i5 Tryd.underlying22 hi5 hz5 hs5 hb5 _ rfl (bs ++ [128] ++ List.replicate k 0) (hor.alloc _) _ _ _ [0] rfl (RdB.lit wr 0 5) (by rw [hL'.out]; omega) ?_; intro v3 w3 ho3 hf3 hk3)
      go_roundw
      case measure =>
        obtain ⟨A3, c3, rfl, _, _⟩ := ho3.slice
        simp only [lenV, List.length_append, hL'.out, List.length_singleton]
        omega
      case rel =>
        have he3 : bs ++ [128] ++ List.replicate k (0 : By) ++ [0] = bs ++ [128] ++ List.replicate (k + 1) 0 := by
          rw [List.append_assoc _ (List.replicate k (0 : By)), ← List.replicate_succ']
        have hl3 : (bs ++ [128] ++ List.replicate (k + 1) (0 : By)).length = bs.length + 1 + (k + 1) := by
          rw [← he3, List.length_append, hL'.out]; rfl
        have ho4 : OwB w3 v3 (bs ++ [128] ++ List.replicate (k + 1) 0) := by rw [← he3]; exact ho3
        obtain ⟨A3, c3, hv3, _, _⟩ := ho4.slice
        rw [hl3] at hv3
        exact ⟨k + 1, A3, c3, by omega, hv3, Fr.far (hfr.alloc _) hf3 hkr'.out, ho4, own_far hk3 hkr'.out (by have := hfr.size; simp; omega)⟩
    · have hne : (((bs.length : Int) + 1 + (k : Int)) % 64 != 56) = false := by
        rw [bne_eq_false_iff_eq]; omega
      have hkz : k = zeros n := by omega
      have hkz' := Lib.hid hkz
      clear hkz
      go_wp2
      clear hne
      obtain ⟨pre, hpr⟩ : ∃ pre : List By, pre = bs ++ [128] ++ List.replicate k (0 : By) := ⟨_, rfl⟩
      obtain ⟨L0, hL0⟩ : ∃ L0, L0 = bs.length + 1 + k := ⟨_, rfl⟩
      have hpre : pre.length = L0 := by rw [hpr, hL'.out, hL0]
      rw [← hpr] at hor
      have hpr' := Lib.hid hpr
      have hpre' := Lib.hid hpre
      have hL0' := Lib.hid hL0
      have hL0b : L0 < n + 100 := by omega
      clear hL0 hpr hpre
      go_loopw [5, 3] (fun i v wr => ∃ (j : Nat) (A : Option Addr) (c : Nat), j ≤ 8 ∧ i = .int .i64 (56 - 8 * j) ∧ v = .slice A (L0 + j) c ∧ Fr none_ w wr ∧ OwB wr v (pre ++ (be8 (8 * n)).take j) ∧ (∀ k, inBlk v k → w.heap.size ≤ k)) (fun i _ _ => (intOf i + 8).toNat)
      case atStart => exact ⟨0, A, c, Nat.zero_le _, rfl, by rw [hL0'.out]; rfl, hfr, by simpa using hor, hkr'.out⟩
      case round =>
        clear hfr hor hkr'
        obtain ⟨j, A, c, hj, rfl, rfl, hfr, hor, hkr⟩ := hrel
        have hkr' := Lib.hid hkr
        clear hkr
        have hLj : (pre ++ (be8 (8 * n)).take j).length = L0 + j := by
          rw [List.length_append, hpre'.out, List.length_take, be8_length]; omega
        have hLj' := Lib.hid hLj
        clear hLj
        by_cases hlt : j < 8
        · go_wp2_with (at_builtin; refine wpList_append_bytes _ rfl (.tmp 26) (.tmp 32) 22 rfl i5 Tryd.underlying22 hi5 hz5 hs5 hb5 _ rfl (pre ++ (be8 (8 * n)).take j) (hor.alloc _) _ _ _ [BitVec.ofNat 8 (8 * n / 2 ^ (56 - 8 * j))] rfl ?hlit (by rw [hLj'.out]; omega) ?_)
          case hlit =>
            have := RdB.lit wr (BitVec.ofNat 8 (8 * n / 2 ^ (56 - 8 * j))) 5
            unfold bV at this
            rw [← byte_of] at this
            simpa using this
          intro v3 w3 ho3 hf3 hk3
          go_wp2
          go_roundw
          case measure => simp [intOf]; omega
          case rel =>
            have ho4 : OwB w3 v3 (pre ++ (be8 (8 * n)).take (j + 1)) := by
              rw [be8_take _ hlt]
              simpa [List.append_assoc] using ho3
            obtain ⟨A3, c3, hv3, _, _⟩ := ho4.slice
            have hl3 : (pre ++ (be8 (8 * n)).take (j + 1)).length = L0 + (j + 1) := by
              rw [List.length_append, hpre'.out, List.length_take, be8_length]; omega
            rw [hl3] at hv3
            have hf4 := Fr.far (hfr.alloc _) hf3 hkr'.out
            have hk4 : ∀ k, inBlk v3 k → w.heap.size ≤ k := fun k hk => (hk3 k hk).elim (hkr'.out k) (fun h => by have := hfr.size; first | omega | (simp at h; omega))
            exact ⟨j + 1, A3, c3, by omega, by go_num, hv3, hf4, ho4, hk4⟩
        · obtain rfl : j = 8 := by omega
          have hall : pre ++ (be8 (8 * n)).take 8 = padded bs := by
            rw [List.take_of_length_le (by rw [be8_length]; exact Nat.le_refl _), hpr'.out, hkz'.out]
            simp [padded, padOf, hbl'.out]
          rw [hall] at hor hLj'
          go_wp2
          go_ret
          have hlp : (padded bs).length = L0 + 8 := hLj'.out
          rw [hlp]
          exact ⟨A, c, rfl, hor, hfr, hkr'.out⟩
end Go.Proofs.YtelhoejoncnccaaDoor
