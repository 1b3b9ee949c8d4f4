/- The law of sums. -/
import Derived.Test.YtelhoejoncnccaaDoorC6
import Derived.Deep.RegionHeld3
import Derived.Deep.MidRow
namespace Go.Proofs.YtelhoejoncnccaaDoor
open Go Go.RowKit
theorem own_front {w w1 w2 : World} {A1 A2 : Option Addr} {n c1 c2 : Nat} {bs : List By} {o o' : Obj} (hf1 : Fr (inBlk (.slice (some ⟨w.heap.size, 0, none⟩) 0 0)) (w.alloc o) w1)
    (hk1 : ∀ k, inBlk (.slice A1 ([] ++ bs).length c1) k → inBlk (.slice (some ⟨w.heap.size, 0, none⟩) 0 0) k ∨ (w.alloc o).heap.size ≤ k)
    (ho2 : OwB w2 (.slice A2 ([] ++ bs ++ [77]).length c2) ([] ++ bs ++ [77])) (hf2 : Fr (inBlk (.slice A1 ([] ++ bs).length c1)) (w1.alloc o') w2)
    (hk2 : ∀ k, inBlk (.slice A2 ([] ++ bs ++ [77]).length c2) k → inBlk (.slice A1 ([] ++ bs).length c1) k ∨ (w1.alloc o').heap.size ≤ k) (hl : bs.length = n) :
    Fr none_ w w2 ∧ RdB w2 A2 n bs ∧ (∀ k, inBlk (.slice A2 ([] ++ bs ++ [77]).length c2) k → w.heap.size ≤ k) ∧ ∃ g o, A2 = some ⟨g, o, none⟩ ∧ w2.cell? ⟨g, o + n, none⟩ = some (.int .u8 77) := by
  have hF1 : Fr none_ w w1 := Fr.far ((Fr.refl none_ w).alloc _) hf1 own_new
  have hK1 := own_far hk1 own_new (by simp)
  have hF2 : Fr none_ w w2 := Fr.far (hF1.alloc _) hf2 hK1
  have hK2 := own_far hk2 hK1 (by have := hF1.size; simp; omega)
  have hr := (ho2.rd rfl).1
  refine ⟨hF2, ?_, hK2, ?_⟩
  · have := hr.front (k := n) (by simp; omega)
    simpa [hl] using this
  · obtain ⟨g, o, e, hc⟩ := hr.2 (by simp)
    refine ⟨g, o, e, ?_⟩
    rw [hc n (by simp; omega)]
    simp [List.getD_eq_getElem?_getD, ← hl]
    rfl
theorem Blk.range {w : World} {g : Nat} {t : TypeId} {cs : List Value} (h : Blk w g t cs) : w.rangeAt g 0 cs := fun j v hv => by rw [Nat.zero_add]; exact h.cellAt hv
theorem range_fr {w w' : World} {g : Nat} {cs : List Value} (h : w.rangeAt g 0 cs) (hf : Fr none_ w w') : w'.rangeAt g 0 cs := fun j v hv =>
  (hf.cell (p := ⟨g, 0 + j, none⟩) (block_lt_of_cell (h j v hv)) id).trans (h j v hv)
theorem S_step {w4 X Y : World} {b : Nat} {c : List Value} {p : Addr} {v : Value} (h : Fr none_ w4 X ∧ X.rangeAt b 0 c ∧ X.cell? p = some v) (hf : Fr none_ X Y) : Fr none_ w4 Y ∧ Y.rangeAt b 0 c ∧ Y.cell? p = some v :=
  ⟨h.1.trans hf (fun _ _ => id), range_fr h.2.1 hf, (hf.cell (block_lt_of_cell h.2.2) id).trans h.2.2⟩
set_option maxRecDepth 100000 in
set_option maxHeartbeats 1000000 in
theorem shaSums_any (A : Option Addr) (n c : Nat) (bs : List By) (w : World) (hG : GK w) (hbs : RdB w A n bs) (hn : n ≤ 140737488355000) :
    Calls Tryd.prog 3 #[.slice A n c] w fun e w' => e = .returned (.bool true) ∧ Fr none_ w w' := by
  obtain ⟨i5, hi5, hz5, hs5, hb5⟩ := info_parts (P := Tryd.prog) (e := 5) (z := .int .u8 0) (size := 1) (bytes := 1) (by kernel_rfl)
  have hbl := Lib.hid hbs.1
  have hG' := Lib.hid hG
  have hbs' := Lib.hid hbs
  clear hG hbs
  obtain ⟨D, hD, lD⟩ : ∃ D, D = sha bs ∧ D.length = 32 := ⟨_, rfl, rfl⟩
  have hD' := Lib.hid hD
  clear hD
  go_enter Tryd.func3, Tryd.ntmps3
  go_wp2_with (first
    | (go_at_call 19; refine (same_any _ _ _ _ _ _ bs bs W (hF2'.out.2.1.fr hfW (fun _ _ _ => id)) (hbs'.out.fr (hF2'.out.1.trans hfW (fun _ _ => id)) (fun _ _ _ => id))).mono ?_; rw [beq_self_eq_true]; rintro e w4 ⟨rfl, rfl⟩)
    | (refine wpList_store_row rfl 23 (.tmp 4) (.tmp 15) rfl w3.heap.size (D.map bV).toArray rfl rfl 23 Z32A ha3.out (row_info lD) (row_old lD) (DA_all D) ?_; refine wpList_gen (fun W => Fr none_ w2 W ∧ Blk W w3.heap.size 23 (D.map bV)) ⟨made_row_fr hf3, made_row⟩ ?_; rintro W ⟨hfW, hB⟩)
    | (go_at_call 18; refine (shasum_is D _ _ _ bs _ hD'.out hG2.out hF2'.out.2.1 (by omega) (by omega)).mono ?_; rintro e w3 ⟨rfl, hf3⟩; have ha3 := Lib.hid (alloc32' w3))
    | (at_builtin; refine wpList_append_bytes _ rfl (.tmp 8) (.tmp 9) 22 rfl i5 Tryd.underlying22 hi5 hz5 hs5 hb5 _ rfl ([] ++ bs) (ho1.alloc _) _ _ _ [77] rfl (RdB.lit w1 77 5) (by simp [hbl.out]; omega) ?_; intro v2 w2 ho2 hf2 hk2; obtain ⟨A2, c2, rfl, hc2, hm2⟩ := ho2.slice; have hrd := ho2.rd rfl; have hc3 : n + 1 ≤ c2 := (by have := hc2; simp [hbl.out] at this; omega); have hm3 : c2 ≤ 9223372036854775807 := hm2; have hnc : n ≤ c2 := (by omega); have hF2 := own_front hf1 hk1 ho2 hf2 hk2 hbl.out; obtain ⟨g, o, hA, h77⟩ := hF2.2.2.2; subst hA; have h77' := Lib.hid h77; clear h77; have hG2 := Lib.hid (hG'.out.fr hF2.1 id); have hF2' := Lib.hid hF2)
    | (at_builtin; refine wpList_append_bytes _ rfl (.tmp 6) (.tmp 7) 22 rfl i5 Tryd.underlying22 hi5 hz5 hs5 hb5 (.slice (some ⟨w.heap.size, 0, none⟩) 0 0) rfl [] (OwB.empty w) A n c bs rfl (hbs'.out.alloc _) (by simp; omega) ?_; intro v1 w1 ho1 hf1 hk1; obtain ⟨A1, c1, rfl, _, _⟩ := ho1.slice))
  have hgl : g < w4.heap.size := Nat.lt_of_lt_of_le (block_lt_of_cell h77'.out) hfW.size
  have hS : Fr none_ w4 w4.drew ∧ w4.drew.rangeAt w3.heap.size 0 (D.map bV) ∧ w4.drew.cell? ⟨g, o + n, none⟩ = some (.int .u8 77) := ⟨(Fr.refl _ _).drew, hB.range, (hfW.cell (p := ⟨g, o + n, none⟩) (block_lt_of_cell h77'.out) id).trans h77'.out⟩
  have hGW := Lib.hid (hG2.out.fr hfW id)
  have q1 : (0 : Int) ≤ (n : Int) + 1 := by omega
  have q2 : (n : Int) + 1 ≤ (c2 : Int) := by omega
  have q3 : (0 : Int) ≤ (n : Int) := by omega
  have q4 : (n : Int) < (n : Int) + 1 := by omega
  have q5 : ((n : Int) + 1).toNat = n + 1 := by omega
  have q6 : IntKind.i64.wrap ((n : Int) + 1) = (n : Int) + 1 := by rw [IntKind.wrap_i64]; omega
  have hu23 := Tryd.underlying23
  have hi23 : (Tryd.prog.info? 23).map (·.size) = some (D.map bV).length := by rw [List.length_map, lD]; kernel_rfl
  have hl23 : (D.map bV).length = 32 := by rw [List.length_map, lD]
  have ho23 : ∀ v ∈ D.map bV, v.oneCell' = true := fun v hv => by
    obtain ⟨b, _, rfl⟩ := List.mem_map.1 hv
    rfl
  have hz1 := fun (w : World) (op : BinOp) (x y : Operand) => eqGuard_DA w D D op x y
  have hz2 := fun w : World => (eql_DA w D D lD lD).trans (by rw [beq_self_eq_true] : _ = Result.ok (.bool true) w)
  simp only [DA] at hz1 hz2
  go_region_held3 (fun X => Fr none_ w4 X ∧ X.rangeAt w3.heap.size 0 (D.map bV) ∧ X.cell? ⟨g, o + n, none⟩ = some (.int .u8 77)) (first | exact hS | exact S_step hS hfX | exact S_step (S_step hS hfX) hfY)
    (first
      | (go_at_call 21; refine (refsum_any _ _ _ bs _ (hbs'.out.fr ((hF2'.out.1.trans hfW (fun _ _ => id)).drew.trans hfX (fun _ _ => id)) (fun _ _ _ => id)) (by omega)).mono ?_; rw [← hD'.out, DA]; rintro e Y ⟨rfl, hfY⟩)
      | (go_at_call 20; refine (alive_any _ (by exact hGW.out)).mono ?_; rintro e X ⟨rfl, hfX⟩))
  go_wp2
  go_ret
  exact ⟨rfl, ((hF2'.out.1.trans hfW (fun _ _ => id)).drew.trans hfX (fun _ _ => id)).trans hfY (fun _ _ => id)⟩
end Go.Proofs.YtelhoejoncnccaaDoor
