/- Same, alive. -/
import Derived.Test.YtelhoejoncnccaaDoorC4
import Derived.Laws.IdiomStrings
import Derived.Lib.SlBytesConst
namespace Go.Proofs.YtelhoejoncnccaaDoor
open Go Go.RowKit
/-- Bytes as a string. -/
def strOf (bs : List By) : ByteArray := ⟨(bs.map UInt8.ofBitVec).toArray⟩
theorem run_string {A : Option Addr} {n c : Nat} {bs : List By} {w : World} (h : RdB w A n bs) : (convert 22 9 (.slice A n c)).run Tryd.prog w = .ok (.string (strOf bs)) w := by
  have hl : (bs.map UInt8.ofBitVec).length = n := by rw [List.length_map]; exact h.1
  rcases Nat.eq_zero_or_pos n with h0 | h0
  · subst h0
    have hb : bs = [] := List.eq_nil_of_length_eq_zero h.1
    subst hb
    cases A with
    | none =>
      rw [run_convert_bytes_string w 22 9 5 none 0 c Tryd.underlying22 Tryd.underlying5 Tryd.underlying9]
      rfl
    | some a => exact run_convert_bytes_back w 22 9 5 a c [] Tryd.underlying22 Tryd.underlying5 Tryd.underlying9 (fun j hj => absurd hj (by simp))
  · obtain ⟨b, o, rfl, hc⟩ := h.2 h0
    have := run_convert_bytes_back (P := Tryd.prog) w 22 9 5 ⟨b, o, none⟩ c (bs.map UInt8.ofBitVec) Tryd.underlying22 Tryd.underlying5 Tryd.underlying9 (fun j hj => by
      rw [List.length_map] at hj
      rw [Addr.add_lit, hc j (by have := h.1; omega)]
      simp [bI, List.getD_eq_getElem?_getD, hj])
    rw [hl] at this
    exact this
theorem strOf_beq (a b : List By) : ((strOf a).toList == (strOf b).toList) = (a == b) := by
  rw [Bool.eq_iff_iff, beq_iff_eq, beq_iff_eq]
  simp only [strOf, ByteArray.toList_mk]
  constructor
  · intro h
    exact List.map_inj_right (fun x y e => by cases x; cases y; injection e) |>.1 h
  · rintro rfl; rfl
attribute [local go_sem] strOf_beq
set_option maxRecDepth 100000 in
set_option maxHeartbeats 1000000 in
theorem same_any (A B : Option Addr) (n m c d : Nat) (xs bs : List By) (w : World) (ha : RdB w A n xs) (hb : RdB w B m bs) :
    Calls Tryd.prog 19 #[.slice A n c, .slice B m d] w fun e w' => e = .returned (.bool (xs == bs)) ∧ w' = w := by
  have h1 := run_string (c := c) ha
  have h2 := run_string (c := d) hb
  clear ha hb
  go_enter Tryd.func19, Tryd.ntmps19
  go_wp2
  go_ret
  exact ⟨rfl, rfl⟩
def Z32A : Array Value := (Z32.map bV).toArray
theorem RdB.blk {w : World} {g : Nat} {t : TypeId} {bs : List By} (h : Blk w g t (bs.map bV)) : RdB w (some ⟨g, 0, none⟩) bs.length bs :=
  ⟨rfl, fun _ => ⟨_, _, rfl, fun j hj => by
    rw [Nat.zero_add, h.cell, List.getElem?_map, List.getElem?_eq_getElem hj, List.getD_eq_getElem?_getD, List.getElem?_eq_getElem hj]; rfl⟩⟩
theorem RdB.mark (w : World) (bs : List By) (t : TypeId) (fr : Nat × Nat) : RdB (w.alloc (.cells (bs.map bV).toArray t fr)) (some ⟨w.heap.size, 0, none⟩) bs.length bs :=
  ⟨rfl, fun _ => ⟨_, _, rfl, fun j hj => by
    rw [Nat.zero_add, World.cell?_alloc_mark, List.getElem?_toArray, List.getElem?_map, List.getElem?_eq_getElem hj, List.getD_eq_getElem?_getD, List.getElem?_eq_getElem hj]; rfl⟩⟩
theorem abc_rd (w : World) : RdB (w.alloc (.cells #[.int .u8 97, .int .u8 98, .int .u8 99] 5 (3, 4))) (some ⟨w.heap.size, 0, none⟩) 3 [97, 98, 99] := RdB.mark w [97, 98, 99] 5 (3, 4)
theorem mapat {l : List By} {i : Nat} {b : By} (h : l[i]? = some b) : (l.map bV)[i]? = some (bV b) := by rw [List.getElem?_map, h]; rfl
theorem row_info {D : List By} (h : D.length = 32) : (Tryd.prog.info? 23).map (·.size) = some (D.map bV).toArray.size := by
  rw [show (D.map bV).toArray.size = 32 by simp [h]]; kernel_rfl
theorem row_old {D : List By} (h : D.length = 32) : Z32A.size = (D.map bV).toArray.size := by
  rw [show (D.map bV).toArray.size = 32 by simp [h]]; rfl
theorem alloc32' (w : World) : (w.alloc (.cells Z32A 23)).heap[w.heap.size]? = some (.cells Z32A 23 (0, 0)) := heap_alloc_new w _
/-- A digest lies in a block of its own. -/
theorem made_row {w : World} {l : List By} : Blk ((w.alloc (.cells Z32A 23)).setRow w.heap.size (l.map bV).toArray) w.heap.size 23 (l.map bV) := setRow_heap _ _ _ _ _ _ (alloc32' w)
theorem made_row_fr {w0 w : World} {l : List By} (h : Fr none_ w0 w) : Fr none_ w0 ((w.alloc (.cells Z32A 23)).setRow w.heap.size (l.map bV).toArray) :=
  (h.alloc _).trans (S' := only w.heap.size) ⟨rfl, rfl, rfl, by simp, fun k _ hn => setRow_other _ _ _ _ hn⟩ (fun b hb e => absurd h.size (by unfold only at e; omega))
theorem wpList_gen {P : Program} {ops : Array Oper} {Q : Exit → Act → World → Prop} {l : List Oper} {a : Act} {w : World} (R : World → Prop) (h : R w) (k : ∀ W, R W → wpList P ops Q l a W) : wpList P ops Q l a w := k w h
theorem shasum_is (D : List By) (A : Option Addr) (n c : Nat) (bs : List By) (w : World) (hD : D = sha bs) (hG : GK w) (hbs : RdB w A n bs) (hnc : n ≤ c) (hn : n ≤ 140737488355000) :
    Calls Tryd.prog 18 #[.slice A n c] w fun e w' => e = .returned (DA D) ∧ Fr none_ w w' := by
  rw [hD]
  exact shasum_any A n c bs w hG hbs hnc hn
theorem sha_len (bs : List By) : (sha bs).length = 32 := rfl
theorem DA_all (l : List By) : ((l.map bV).toArray).all (·.oneCell') = true := DA_one l
set_option maxRecDepth 100000 in
set_option maxHeartbeats 400000 in
theorem alive_any (w : World) (hG : GK w) : Calls Tryd.prog 20 #[] w fun e w' => e = .returned (.bool true) ∧ Fr none_ w w' := by
  have hG' := Lib.hid hG
  clear hG
  obtain ⟨D0, hD0, l0, v0, v1⟩ : ∃ D0, D0 = sha [] ∧ D0.length = 32 ∧ (D0.map bV)[0]? = some (.int .u8 227) ∧ (D0.map bV)[1]? = some (.int .u8 176) := ⟨_, rfl, rfl, mapat (b := 227) (by decide +kernel), mapat (b := 176) (by decide +kernel)⟩
  obtain ⟨D1, hD1, l1, v2, v3⟩ : ∃ D0, D0 = sha [97, 98, 99] ∧ D0.length = 32 ∧ (D0.map bV)[0]? = some (.int .u8 186) ∧ (D0.map bV)[31]? = some (.int .u8 173) := ⟨_, rfl, rfl, mapat (b := 186) (by decide +kernel), mapat (b := 173) (by decide +kernel)⟩
  have hD0' := Lib.hid hD0
  have hD1' := Lib.hid hD1
  clear hD0 hD1
  have kc := fun (w : World) (C : Array Value) (n c : Nat) => Lib.run_convert_bytes_const (P := Tryd.prog) w 22 5 C n c Tryd.underlying22 Tryd.underlying5
  go_enter Tryd.func20, Tryd.ntmps20
  go_wp2_with (first
    | (refine wpList_store_row rfl 23 (.tmp 2) (.tmp 6) rfl w2.heap.size (D1.map bV).toArray rfl rfl 23 Z32A ha2.out (row_info l1) (row_old l1) (DA_all D1) ?_; refine wpList_gen (fun X => Fr none_ W X ∧ Blk X w2.heap.size 23 (D1.map bV)) ⟨((Fr.refl _ _).alloc _).trans (made_row_fr hf2) (fun _ _ => id), made_row⟩ ?_; rintro X ⟨hfX, hB2⟩; have c0 := (hB1.fr hfX id).cellAt v0; have c1 := (hB1.fr hfX id).cellAt v1; have c2 := hB2.cellAt v2; have c3 := hB2.cellAt v3)
    | (go_at_call 18; refine (shasum_is D1 _ 3 3 [97, 98, 99] _ hD1'.out (hG'.out.fr (hfW.alloc _) id) (abc_rd W) (by decide) (by decide)).mono ?_; rintro e w2 ⟨rfl, hf2⟩; have ha2 := Lib.hid (alloc32' w2))
    | (refine wpList_store_row rfl 23 (.tmp 1) (.tmp 3) rfl w1.heap.size (D0.map bV).toArray rfl rfl 23 Z32A ha1.out (row_info l0) (row_old l0) (DA_all D0) ?_; refine wpList_gen (fun W => Fr none_ w W ∧ Blk W w1.heap.size 23 (D0.map bV)) ⟨made_row_fr hf1, made_row⟩ ?_; rintro W ⟨hfW, hB1⟩)
    | (go_at_call 18; refine (shasum_is D0 none 0 0 [] _ hD0'.out hG'.out RdB.nil (by decide) (by decide)).mono ?_; rintro e w1 ⟨rfl, hf1⟩; have ha1 := Lib.hid (alloc32' w1)))
  go_ret
  exact ⟨rfl, hfW.trans hfX (fun _ _ => id)⟩
end Go.Proofs.YtelhoejoncnccaaDoor
