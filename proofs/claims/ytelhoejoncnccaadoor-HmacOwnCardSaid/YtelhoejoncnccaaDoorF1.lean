/- The law of HMAC's sums: the walk. -/
import Derived.Test.YtelhoejoncnccaaDoorE6
import Derived.Test.YtelhoejoncnccaaDoorC7
namespace Go.Proofs.YtelhoejoncnccaaDoor
open Go Go.RowKit
theorem refhmac_is (D : List By) (A : Option Addr) (n c : Nat) (key : List By) (B : Option Addr) (m d : Nat) (bs : List By) (w : World) (hD : D = hmacS key bs) (hk : RdB w A n key) (hn : n ≤ 140737488355000) (hb : RdB w B m bs) (hm : m ≤ 140737488354000) :
    Calls Tryd.prog 35 #[.slice A n c, .slice B m d] w fun e w' => e = .returned (DA D) ∧ Fr none_ w w' := by
  rw [hD]
  exact refhmac_any A n c key B m d bs w hk hn hb hm
/-- What the law's last statement reads. -/
def S8 (g : Nat) (D : List By) (a b : Addr) (X : World) : Prop := X.rangeAt g 0 (D.map bV) ∧ X.cell? a = some (.int .u8 77) ∧ X.cell? b = some (.int .u8 77)
theorem S8.step {g : Nat} {D : List By} {a b : Addr} {X Y : World} (h : S8 g D a b X) (hf : Fr none_ X Y) : S8 g D a b Y :=
  ⟨range_fr h.1 hf, (hf.cell (block_lt_of_cell h.2.1) id).trans h.2.1, (hf.cell (block_lt_of_cell h.2.2) id).trans h.2.2⟩
theorem eqW {D : List By} (lD : D.length = 32) (w : World) : (binOp .eql 23 (.agg (D.map bV).toArray) (.agg (D.map bV).toArray)).run Tryd.prog w = .ok (.bool true) w := by
  have := eql_DA w D D lD lD
  rw [beq_self_eq_true] at this
  exact this
theorem neW {D : List By} (lD : D.length = 32) (w : World) : (binOp .neq 23 (.agg (D.map bV).toArray) (.agg (D.map bV).toArray)).run Tryd.prog w = .ok (.bool false) w := by
  have := neq_DA w D D lD lD
  rw [beq_self_eq_true] at this
  exact this
theorem egW {D : List By} (w : World) (op : BinOp) (x y : Operand) : (eqGuard op 23 x y (.agg (D.map bV).toArray) (.agg (D.map bV).toArray)).run Tryd.prog w = .ok () w := eqGuard_DA w D D op x y
set_option maxRecDepth 100000 in
set_option maxHeartbeats 2000000 in
theorem hmacSums_any (A : Option Addr) (n c : Nat) (key : List By) (B : Option Addr) (m d : Nat) (bs : List By) (w : World) (hG : GK w) (hk : RdB w A n key) (hn : n ≤ 140737488351232) (hb : RdB w B m bs) (hm : m ≤ 140737488351232) :
    Calls Tryd.prog 8 #[.slice A n c, .slice B m d] w fun e w' => e = .returned (.bool true) ∧ Fr none_ w w' := by
  obtain ⟨i5, hi5, hz5, hs5, hb5⟩ := info_parts (P := Tryd.prog) (e := 5) (z := .int .u8 0) (size := 1) (bytes := 1) (by kernel_rfl)
  have hkl := Lib.hid hk.1
  have hbl := Lib.hid hb.1
  have hG' := Lib.hid hG
  have hk' := Lib.hid hk
  have hb' := Lib.hid hb
  clear hG hk hb
  obtain ⟨D, hD, lD⟩ : ∃ D, D = hmacS key bs ∧ D.length = 32 := ⟨_, rfl, hmacS_len _ _⟩
  have hD' := Lib.hid hD
  clear hD
  go_enter Tryd.func8, Tryd.ntmps8
  go_wp2_with (first
    | (refine wpList_store_row rfl 23 (.tmp 7) (.tmp 28) rfl w5.heap.size (D.map bV).toArray rfl rfl 23 Z32A ha5.out (row_info lD) (row_old lD) (DA_all D) ?_; refine wpList_gen (fun W => Fr none_ w4 W ∧ Blk W w5.heap.size 23 (D.map bV)) ⟨made_row_fr hf5, made_row⟩ ?_; rintro W ⟨hfW, hB⟩)
    | (go_at_call 33; refine (hmac_is D _ n _ key _ m _ bs _ hD'.out hG4.out (hF2'.out.2.1.fr hF4'.out.1 (fun _ _ _ => id)) (by omega) (by omega) hF4'.out.2.1 (by omega) (by omega)).mono ?_; rintro e w5 ⟨rfl, hf5⟩; have ha5 := Lib.hid (alloc32' w5))
    | (at_builtin; refine wpList_append_bytes _ rfl (.tmp 20) (.tmp 21) 22 rfl i5 Tryd.underlying22 hi5 hz5 hs5 hb5 _ rfl ([] ++ bs) (ho3.alloc _) _ _ _ [77] rfl (RdB.lit w3 77 5) (by simp [hbl.out]; omega) ?_; intro v4 w4 ho4 hf4 hk4; obtain ⟨A4, c4, rfl, hc4, hm4⟩ := ho4.slice; have hc5 : m + 1 ≤ c4 := (by have := hc4; simp [hbl.out] at this; omega); have hm5 : c4 ≤ 9223372036854775807 := hm4; have hnc4 : m ≤ c4 := (by omega); have hF4 := own_front hf3 hk3 ho4 hf4 hk4 hbl.out; obtain ⟨g4, o4, hA4, h774⟩ := hF4.2.2.2; subst hA4; have h774' := Lib.hid h774; clear h774; have hF4' := Lib.hid hF4; have hF4t := Lib.hid (hF2'.out.1.trans hF4.1 (fun _ _ => id)); have hG4 := Lib.hid (hG'.out.fr hF4t.out id))
    | (at_builtin; refine wpList_append_bytes _ rfl (.tmp 18) (.tmp 19) 22 rfl i5 Tryd.underlying22 hi5 hz5 hs5 hb5 (.slice (some ⟨w2.heap.size, 0, none⟩) 0 0) rfl [] (OwB.empty w2) B m d bs rfl ((hb'.out.fr hF2'.out.1 (fun _ _ _ => id)).alloc _) (by simp; omega) ?_; intro v3 w3 ho3 hf3 hk3; obtain ⟨A3, c3, rfl, _, _⟩ := ho3.slice)
    | (at_builtin; refine wpList_append_bytes _ rfl (.tmp 12) (.tmp 13) 22 rfl i5 Tryd.underlying22 hi5 hz5 hs5 hb5 _ rfl ([] ++ key) (ho1.alloc _) _ _ _ [77] rfl (RdB.lit w1 77 5) (by simp [hkl.out]; omega) ?_; intro v2 w2 ho2 hf2 hk2; obtain ⟨A2, c2, rfl, hc2, hm2⟩ := ho2.slice; have hc3 : n + 1 ≤ c2 := (by have := hc2; simp [hkl.out] at this; omega); have hm3 : c2 ≤ 9223372036854775807 := hm2; have hnc : n ≤ c2 := (by omega); have hF2 := own_front hf1 hk1 ho2 hf2 hk2 hkl.out; obtain ⟨g, o, hA, h77⟩ := hF2.2.2.2; subst hA; have h77' := Lib.hid h77; clear h77; have hF2' := Lib.hid hF2)
    | (at_builtin; refine wpList_append_bytes _ rfl (.tmp 10) (.tmp 11) 22 rfl i5 Tryd.underlying22 hi5 hz5 hs5 hb5 (.slice (some ⟨w.heap.size, 0, none⟩) 0 0) rfl [] (OwB.empty w) A n c key rfl (hk'.out.alloc _) (by simp; omega) ?_; intro v1 w1 ho1 hf1 hk1; obtain ⟨A1, c1, rfl, _, _⟩ := ho1.slice))
  refine (same_any _ _ _ _ _ _ key key _ ((hF2'.out.2.1.fr (hF4'.out.1.trans hfW (fun _ _ => id)) (fun _ _ _ => id))) (hk'.out.fr (hF4t.out.trans hfW (fun _ _ => id)) (fun _ _ _ => id))).mono ?_
  rw [beq_self_eq_true]
  rintro e w6 ⟨rfl, rfl⟩
  go_wp2_with fail
  refine (same_any _ _ _ _ _ _ bs bs _ ((hF4'.out.2.1.fr hfW (fun _ _ _ => id))) (hb'.out.fr (hF4t.out.trans hfW (fun _ _ => id)) (fun _ _ _ => id))).mono ?_
  rw [beq_self_eq_true]
  rintro e w7 ⟨rfl, rfl⟩
  go_wp2_with fail
  have hgl : g < w2.heap.size := block_lt_of_cell h77'.out
  have hg4 : g4 < w4.heap.size := block_lt_of_cell h774'.out
  have hf2W : Fr none_ w2 w7 := hF4'.out.1.trans hfW (fun _ _ => id)
  have hS : S8 w5.heap.size D ⟨g, o + n, none⟩ ⟨g4, o4 + m, none⟩ w7.drew := ⟨hB.range, (hf2W.cell (p := ⟨g, o + n, none⟩) hgl id).trans h77'.out, (hfW.cell (p := ⟨g4, o4 + m, none⟩) hg4 id).trans h774'.out⟩
  have hFW := Lib.hid (hF4t.out.trans hfW (fun _ _ => id))
  have hS' := Lib.hid hS
  clear hS hf2W hgl hg4
  have q1 : (0 : Int) ≤ (n : Int) + 1 := by omega
  have q2 : (n : Int) + 1 ≤ (c2 : Int) := by omega
  have q3 : (0 : Int) ≤ (n : Int) := by omega
  have q4 : (n : Int) < (n : Int) + 1 := by omega
  have q5 : ((n : Int) + 1).toNat = n + 1 := by omega
  have q6 : IntKind.i64.wrap ((n : Int) + 1) = (n : Int) + 1 := by rw [IntKind.wrap_i64]; omega
  have r1 : (0 : Int) ≤ (m : Int) + 1 := by omega
  have r2 : (m : Int) + 1 ≤ (c4 : Int) := by omega
  have r3 : (0 : Int) ≤ (m : Int) := by omega
  have r4 : (m : Int) < (m : Int) + 1 := by omega
  have r5 : ((m : Int) + 1).toNat = m + 1 := by omega
  have r6 : IntKind.i64.wrap ((m : Int) + 1) = (m : Int) + 1 := by rw [IntKind.wrap_i64]; omega
  have hu23 := Tryd.underlying23
  have hi23 : (Tryd.prog.info? 23).map (·.size) = some (D.map bV).length := by rw [List.length_map, lD]; kernel_rfl
  have hl23 : (D.map bV).length = 32 := by rw [List.length_map, lD]
  have ho23 : ∀ v ∈ D.map bV, v.oneCell' = true := bV_one D
  have hz1 := @egW D
  have hz2 := eqW lD
  go_region_held3 (fun X => X.rangeAt w5.heap.size 0 (D.map bV) ∧ X.cell? ⟨g, o + n, none⟩ = some (.int .u8 77) ∧ X.cell? ⟨g4, o4 + m, none⟩ = some (.int .u8 77)) (first | exact hS'.out | exact hS'.out.step hfX | exact (hS'.out.step hfX).step hfY)
    (first
      | (go_at_call 35; refine (refhmac_is D _ _ _ key _ _ _ bs _ hD'.out (hk'.out.fr (hFW.out.drew.trans hfX (fun _ _ => id)) (fun _ _ _ => id)) (by omega) (hb'.out.fr (hFW.out.drew.trans hfX (fun _ _ => id)) (fun _ _ _ => id)) (by omega)).mono ?_; rw [DA]; rintro e Y ⟨rfl, hfY⟩)
      | (go_at_call 34; refine (alive3_any _ (hG'.out.fr hFW.out.drew id)).mono ?_; rintro e X ⟨rfl, hfX⟩))
  go_wp2
  go_ret
  exact ⟨rfl, (hFW.out.drew.trans hfX (fun _ _ => id)).trans hfY (fun _ _ => id)⟩
end Go.Proofs.YtelhoejoncnccaaDoor
