/- The law of keys of other lengths: the walk. -/
import Derived.Test.YtelhoejoncnccaaDoorF1
import Derived.Test.YtelhoejoncnccaaDoorG0
namespace Go.Proofs.YtelhoejoncnccaaDoor
open Go Go.RowKit
theorem hmac_congr {k k' b : List By} (h : hkey k = hkey k') : hmacS k b = hmacS k' b := by unfold hmacS; rw [h]
theorem hkey_sha {k : List By} (h : 64 < k.length) : hkey (sha k) = hkey k := by
  unfold hkey
  rw [if_pos h, if_neg (by rw [sha_len]; decide)]
theorem hkey_noughts {k : List By} {j : Nat} (h : k.length + j ≤ 64) : hkey (k ++ List.replicate j 0) = hkey k := by
  unfold hkey
  rw [if_neg (by rw [List.length_append, List.length_replicate]; omega), if_neg (by omega)]
  unfold pad64
  rw [List.append_assoc, List.replicate_append_replicate, List.length_append, List.length_replicate]
  congr 2
  omega
theorem rem_cast {q n : Nat} (h : n ≤ 64) : (q : Int) % (65 - (n : Int)) = ((q % (65 - n) : Nat) : Int) := by
  rw [Int.natCast_emod, show ((65 - n : Nat) : Int) = 65 - (n : Int) by omega]
set_option maxRecDepth 100000 in
set_option maxHeartbeats 2000000 in
theorem hmacKeys_any (A : Option Addr) (n c : Nat) (key : List By) (B : Option Addr) (m d : Nat) (bs : List By) (more : Int) (w : World) (hG : GK w) (hk : RdB w A n key) (hnc : n ≤ c) (hn : n ≤ 140737488351232) (hb : RdB w B m bs) (hmd : m ≤ d) (hm : m ≤ 140737488351232)
    (hlo : -9223372036854775808 ≤ more) (hhi : more ≤ 9223372036854775807) :
    Calls Tryd.prog 9 #[.slice A n c, .slice B m d, .int .i64 more] w fun e w' => e = .returned (.bool true) ∧ Fr none_ w w' := by
  obtain ⟨i5, hi5, hz5, hs5, hb5⟩ := info_parts (P := Tryd.prog) (e := 5) (z := .int .u8 0) (size := 1) (bytes := 1) (by kernel_rfl)
  have hkl := Lib.hid hk.1
  have hG' := Lib.hid hG
  have hk' := Lib.hid hk
  have hb' := Lib.hid hb
  clear hG hk hb
  obtain ⟨D, hD, lD⟩ : ∃ D, D = hmacS key bs ∧ D.length = 32 := ⟨_, rfl, hmacS_len _ _⟩
  have hD' := Lib.hid hD
  have hu23 := Tryd.underlying23
  have hi23 : (Tryd.prog.info? 23).map (·.size) = some (D.map bV).length := by rw [List.length_map, lD]; kernel_rfl
  have hl23 : (D.map bV).length = 32 := by rw [List.length_map, lD]
  have ho23 : ∀ v ∈ D.map bV, v.oneCell' = true := bV_one D
  have hz1 := @egW D
  have hz2 := eqW lD
  clear hD
  by_cases h64 : 64 < n
  · obtain ⟨E, hE, lE⟩ : ∃ E, E = sha key ∧ E.length = 32 := ⟨_, rfl, rfl⟩
    have hDE : D = hmacS E bs := by rw [hD'.out, hE]; exact (hmac_congr (hkey_sha (by rw [hkl.out]; exact h64))).symm
    have hE' := Lib.hid hE
    have hDE' := Lib.hid hDE
    clear hE hDE
    go_enter Tryd.func9, Tryd.ntmps9
    go_wp2_with (first
      | (refine wpList_store_row rfl 23 (.tmp 8) (.tmp 17) rfl w2.heap.size (E.map bV).toArray rfl rfl 23 Z32A ha2.out (row_info lE) (row_old lE) (DA_all E) ?_; refine wpList_gen (fun V => Fr none_ W V ∧ Blk V w2.heap.size 23 (E.map bV)) ⟨made_row_fr hf2, made_row⟩ ?_; rintro V ⟨hfV, hC⟩)
      | (go_at_call 18; refine (shasum_is E A n c key _ hE'.out (hG'.out.fr hfW id) (hk'.out.fr hfW (fun _ _ _ => id)) hnc (by omega)).mono ?_; rw [DA]; rintro e w2 ⟨rfl, hf2⟩; have ha2 := Lib.hid (alloc32' w2))
      | (refine wpList_store_row rfl 23 (.tmp 7) (.tmp 12) rfl w1.heap.size (D.map bV).toArray rfl rfl 23 Z32A ha1.out (row_info lD) (row_old lD) (DA_all D) ?_; refine wpList_gen (fun W => Fr none_ w W ∧ Blk W w1.heap.size 23 (D.map bV)) ⟨made_row_fr hf1, made_row⟩ ?_; rintro W ⟨hfW, hB⟩)
      | (go_at_call 33; refine (hmac_is D A n c key B m d bs _ hD'.out hG'.out hk'.out hnc (by omega) hb'.out hmd (by omega)).mono ?_; rw [DA]; rintro e w1 ⟨rfl, hf1⟩; have ha1 := Lib.hid (alloc32' w1)))
    have hS : V.drew.rangeAt w1.heap.size 0 (D.map bV) := (hB.fr hfV id).range
    have hFV := Lib.hid (hfW.trans hfV (fun _ _ => id))
    have hrE : RdB V (some ⟨w2.heap.size, 0, none⟩) 32 E := by have := RdB.blk hC; rwa [lE] at this
    have hrE' := Lib.hid hrE
    have hS' := Lib.hid hS
    clear hS hrE hC hB hfV hfW ha1 ha2 hf1 hf2
    go_region_held3 (fun X => X.rangeAt w1.heap.size 0 (D.map bV)) (first | exact hS'.out | exact range_fr hS'.out hfX | exact range_fr (range_fr hS'.out hfX) hfY)
      (first
        | (go_at_call 33; refine (hmac_is D (some ⟨w2.heap.size, 0, none⟩) 32 32 E B m d bs _ hDE'.out (hG'.out.fr (hFV.out.drew.trans hfX (fun _ _ => id)) id) (hrE'.out.fr ((Fr.refl none_ V).drew.trans hfX (fun _ _ => id)) (fun _ _ _ => id)) (by decide) (by decide) (hb'.out.fr (hFV.out.drew.trans hfX (fun _ _ => id)) (fun _ _ _ => id)) hmd (by omega)).mono ?_; rw [DA]; rintro e Y ⟨rfl, hfY⟩)
        | (go_at_call 34; refine (alive3_any _ (hG'.out.fr hFV.out.drew id)).mono ?_; rintro e X ⟨rfl, hfX⟩))
    go_wp2
    go_ret
    exact ⟨rfl, (hFV.out.drew.trans hfX (fun _ _ => id)).trans hfY (fun _ _ => id)⟩
  · have hn64 : n ≤ 64 := by omega
    obtain ⟨q, hq, hqm⟩ : ∃ q : Nat, q ≤ 9223372036854775807 ∧ (more = q ∨ more = -(q : Int) - 1) := by
      by_cases h : 0 ≤ more
      · exact ⟨more.toNat, by omega, .inl (by omega)⟩
      · exact ⟨(-more - 1).toNat, by omega, .inr (by omega)⟩
    clear hlo hhi h64
    have hj : q % (65 - n) < 65 - n := Nat.mod_lt _ (by omega)
    obtain ⟨j, hjd⟩ : ∃ j, j = q % (65 - n) := ⟨_, rfl⟩
    rw [← hjd] at hj
    have hjz : (q : Int) % (65 - (n : Int)) = (j : Int) := by rw [hjd]; exact rem_cast hn64
    have hDL : D = hmacS (key ++ List.replicate j 0) bs := by rw [hD'.out]; exact (hmac_congr (hkey_noughts (by rw [hkl.out]; omega))).symm
    have hjz' := Lib.hid hjz
    have hDL' := Lib.hid hDL
    clear hjz hDL hjd
    rcases hqm with rfl | rfl
    all_goals
      go_enter Tryd.func9, Tryd.ntmps9
      go_wp2_with (first
        | (refine wpList_store_row rfl 23 (.tmp 7) (.tmp 12) rfl w1.heap.size (D.map bV).toArray rfl rfl 23 Z32A ha1.out (row_info lD) (row_old lD) (DA_all D) ?_; refine wpList_gen (fun W => Fr none_ w W ∧ Blk W w1.heap.size 23 (D.map bV)) ⟨made_row_fr hf1, made_row⟩ ?_; rintro W ⟨hfW, hB⟩)
        | (go_at_call 33; refine (hmac_is D A n c key B m d bs _ hD'.out hG'.out hk'.out hnc (by omega) hb'.out hmd (by omega)).mono ?_; rw [DA]; rintro e w1 ⟨rfl, hf1⟩; have ha1 := Lib.hid (alloc32' w1)))
      have r0 : (0 : Int) ≤ 65 - (n : Int) := by omega
      have r1 : ¬ (65 - (n : Int)) = 0 := by omega
      have r2 : IntKind.i64.wrap (65 - (n : Int)) = 65 - (n : Int) := by rw [IntKind.wrap_i64]; omega
      have r3 : (q : Int).tmod (65 - (n : Int)) = (j : Int) := by rw [Int.tmod_eq_emod_of_nonneg (by omega)]; exact hjz'.out
      have r4 : IntKind.i64.wrap (j : Int) = (j : Int) := by rw [IntKind.wrap_i64]; omega
      have hmt : OwB (W.drew.alloc (.cells #[] 5)) (.slice (some ⟨W.heap.size, 0, none⟩) 0 0) [] := OwB.empty W.drew
      have hmt' := Lib.hid hmt
      have hB' := Lib.hid hB
      clear hmt hB ha1 hf1
      go_region_law (first
        | (refine step_append_noughts rfl (.tmp 33) (.tmp 38) rfl _ rfl key ho3 _ j rfl rfl (by rw [hkl.out]; omega) ?_; intro A4 c4 w4 ho4 hf4 hk4)
        | (refine step_append_bytes rfl (.tmp 31) (.tmp 32) 22 rfl i5 Tryd.underlying22 hi5 hz5 hs5 hb5 (.slice (some ⟨W.heap.size, 0, none⟩) 0 0) rfl [] hmt'.out A n c key rfl ((hk'.out.fr hfW.drew (fun _ _ _ => id)).alloc _) (by simp; omega) ?_; intro A3 c3 w3 ho3 hf3 hk3; simp only [List.nil_append, List.length_nil, Nat.zero_add] at ho3 hk3))
      have hf3' : Fr none_ W w3 := Fr.far ((Fr.refl none_ W).drew.alloc _) hf3 own_new
      have hk3' : ∀ k, inBlk (.slice A3 n c3) k → W.heap.size ≤ k := fun k h => by
        rcases hk3 k h with h | h
        · exact own_new k h
        · have h : W.drew.heap.size + 1 ≤ k := by simpa using h
          exact Nat.le_trans (Nat.le_succ _) h
      have hf4t : Fr (inBlk (.slice A3 n c3)) w3 w4 := hf4
      have hf4' := Fr.far hf3' hf4t hk3'
      have hFV := Lib.hid (hfW.trans hf4' (fun _ _ => id))
      have hS' := Lib.hid (hB'.out.fr hf4' id).drew.range
      obtain ⟨A5, c5, hv5, hc5, _⟩ := ho4.slice
      have hl5 : (key ++ List.replicate j (0 : By)).length = key.length + j := by rw [List.length_append, List.length_replicate]
      rw [hl5] at hv5 hc5
      obtain rfl : c4 = c5 := by injection hv5
      have hrL := (ho4.rd rfl).1
      have hkl2 : key.length ≤ n := Nat.le_of_eq hkl.out
      have hrL' := Lib.hid hrL
      clear hv5 hl5 hrL hf3 hk3 ho3 hf4 hf4t hk4 ho4 hf4' hk3' hf3' hB' hmt' hfW r0 r1 r2 r3 r4
      go_wp2
      go_region_held3 (fun X => X.rangeAt w1.heap.size 0 (D.map bV)) (first | exact hS'.out | exact range_fr hS'.out hfX | exact range_fr (range_fr hS'.out hfX) hfY)
        (first
          | (go_at_call 33; refine (hmac_is D A4 _ c4 (key ++ List.replicate j 0) B m d bs _ hDL'.out (hG'.out.fr (hFV.out.drew.trans hfX (fun _ _ => id)) id) (hrL'.out.fr ((Fr.refl none_ w4).drew.trans hfX (fun _ _ => id)) (fun _ _ _ => id)) hc5 (by omega) (hb'.out.fr (hFV.out.drew.trans hfX (fun _ _ => id)) (fun _ _ _ => id)) hmd (by omega)).mono ?_; rw [DA]; rintro e Y ⟨rfl, hfY⟩)
          | (go_at_call 34; refine (alive3_any _ (hG'.out.fr hFV.out.drew id)).mono ?_; rintro e X ⟨rfl, hfX⟩))
      go_wp2
      go_ret
      exact ⟨rfl, (hFV.out.drew.trans hfX (fun _ _ => id)).trans hfY (fun _ _ => id)⟩
end Go.Proofs.YtelhoejoncnccaaDoor
