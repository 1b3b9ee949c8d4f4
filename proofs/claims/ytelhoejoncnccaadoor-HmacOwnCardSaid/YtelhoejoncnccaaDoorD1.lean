/- A hash under way, by all that it has taken in; rows of slices of bytes; stores into an owned row. -/
import Derived.Test.YtelhoejoncnccaaDoorC7
import Derived.ProofKit
import Derived.Deep.Matrix
import Derived.OpenShut
namespace Go.Proofs.YtelhoejoncnccaaDoor
open Go Go.RowKit Go.ChangeShapes Go.WideShapes Go.Deep
/-- The hash at hb has taken in all. -/
def Going (w : World) (hb : Nat) (rv : Value) (all : List By) : Prop := Hash w hb (fed st0 all) rv (left_ all) all.length
section
variable {S : Nat → Prop} {w w' : World} {hb : Nat} {rv : Value} {all : List By}
theorem Going.fr (h : Going w hb rv all) (hf : Fr S w w') (h1 : ¬ S hb) (h2 : ∀ k, inBlk rv k → ¬ S k) : Going w' hb rv all := ⟨h.blk.fr hf h1, h.own.fr hf h2⟩
theorem Going.new (w : World) : Going (w.alloc (.cells (heads st0 (.slice none 0 0) (.int .u64 0)).toArray 86)) w.heap.size (.slice none 0 0) [] := ⟨Blk.new w 86 _, OwB.nil _⟩
theorem Going.lt (h : Going w hb rv all) : hb < w.heap.size := h.blk.lt
theorem write_go (A : Option Addr) (n c : Nat) (bs : List By) (w : World) (h : Going w hb rv all) (hG : GK w) (hbs : RdB w A n bs) (hnc : n ≤ c) (hc : n ≤ 140737488355000)
    (hoff : 0 < n → ∀ b o, A = some ⟨b, o, none⟩ → b ≠ hb ∧ ¬ inBlk rv b) (hz : ¬ touch hb rv 0) (hN : all.length + n < 2305843009213693952) :
    Calls Tryd.prog 23 #[.pointer (some ⟨hb, 0, none⟩), .slice A n c] w fun e w' => e = .returned (.tuple #[]) ∧ ∃ rv', Fr (touch hb rv) w w' ∧ Going w' hb rv' (all ++ bs) ∧ (∀ k, inBlk rv' k → inBlk rv k ∨ w.heap.size ≤ k) := by
  refine (write_any hb A n c bs (left_ all) w _ rv all.length h (left_lt _) hG hbs hnc hc hoff hz hN).mono ?_
  rintro e w' ⟨he, rv', h1, h2, h3⟩
  refine ⟨he, rv', h1, ?_, h3⟩
  unfold Going
  rw [fed_append, left_append, List.length_append, hbs.1]
  exact h2
theorem sum_go (w : World) (h : Going w hb rv all) (hN : all.length < 2305843009213693952) (hG : GK w) :
    Calls Tryd.prog 24 #[.pointer (some ⟨hb, 0, none⟩)] w fun e w' => e = .returned (DA (sha all)) ∧ Fr none_ w w' := by
  refine (sum_any hb w _ rv (left_ all) all.length h (left_length _) hN hG).mono ?_
  rintro e w' ⟨he, hf⟩
  refine ⟨?_, hf⟩
  rw [he, DA, sha_eq]
/-- A byte stored. -/
theorem OwB.store {g n c : Nat} {bs : List By} (h : OwB w (.slice (some ⟨g, 0, none⟩) n c) bs) (j : Nat) (x : By) : OwB (w.setCell ⟨g, j, none⟩ (bV x)) (.slice (some ⟨g, 0, none⟩) n c) (bs.set j x) := by
  rcases h.form with ⟨e, _⟩ | ⟨g', cap, cur, e, hB, h1, h2, h3, h4⟩
  · cases e
  · cases e
    have h5 := OwB.mk (bs := bs.set j x) (hB.store j (bV x)) (by simpa using h1) h2 (by simpa using h3) (by
      rw [List.length_set, List.take_set, h4, ← List.map_set])
    rw [List.length_set] at h5
    exact h5
theorem OwB.head {n c : Nat} {A : Option Addr} {bs : List By} (h : OwB w (.slice A n c) bs) (h0 : 0 < bs.length) : ∃ g, A = some ⟨g, 0, none⟩ ∧ (∀ j, w.frozen? ⟨g, j, none⟩ = false) := by
  rcases h.form with ⟨e, rfl⟩ | ⟨g', cap, cur, e, hB, h1, h2, h3, h4⟩
  · simp at h0
  · cases e
    exact ⟨g', rfl, fun j => hB.free j⟩
/-- A slice of slices of bytes, as it reads. -/
def RdR (w : World) (A : Option Addr) (n : Nat) (rows : List (List By)) : Prop :=
  rows.length = n ∧ (0 < n → ∃ b o, A = some ⟨b, o, none⟩ ∧ ∀ j, j < n → ∃ A' m c, w.cell? ⟨b, o + j, none⟩ = some (.slice A' m c) ∧ m ≤ c ∧ c ≤ maxLen ∧ RdB w A' m (rows.getD j []))
theorem RdR.nil {A : Option Addr} : RdR w A 0 [] := ⟨rfl, fun h => by omega⟩
end
theorem cells5 : Tryd.prog.cellsOf 5 = 1 := by kernel_rfl
theorem cells22 : Tryd.prog.cellsOf 22 = 1 := by kernel_rfl
/-- Bytes out of numbers that read. -/
theorem rd_of_cells {w : World} {a : Addr} {len : Nat} {zs : List Int} (hl : len ≤ zs.length) (hc : ∀ j, j < zs.length → w.cell? (a.add j) = some (.int .u8 (zs.getD j 0))) (hw : ∀ n ∈ zs, (Lit.int .u8 n).wf = true) :
    RdB w (some a) len ((zs.take len).map (BitVec.ofInt 8)) := by
  refine ⟨by simp; omega, fun h0 => ?_⟩
  obtain ⟨ab, ao, spot⟩ := a
  have hspot : spot = none := by simpa [Addr.add] using World.cell?_spot (hc 0 (by omega))
  subst hspot
  refine ⟨ab, ao, rfl, fun j hj => ?_⟩
  have hcj := hc j (by omega)
  rw [Addr.add_lit] at hcj
  rw [hcj]
  have hb := range_u8 hw j
  have e1 : ((zs.take len).map (BitVec.ofInt 8)).getD j 0 = BitVec.ofInt 8 (zs.getD j 0) := by
    rw [List.getD_eq_getElem?_getD, List.getElem?_map, List.getElem?_take, if_pos hj, List.getD_eq_getElem?_getD, List.getElem?_eq_getElem (by omega)]
    rfl
  rw [e1, List.getD_eq_getElem?_getD]
  congr 2
  unfold bI
  rw [BitVec.toNat_ofInt]
  omega
set_option maxRecDepth 100000 in
theorem open_rows {H : Type} {enc : TypeId × Value → H} {W : World} {base : Nat} {v : Value} {d : DataW H} {ps : List MemPlace} (hval : Value.okWide Tryd.prog W .any base 28 v) (h : DataW.Trod enc Tryd.prog W 0 (fun _ => true) true 28 v d ps) :
    ∃ A n c rows, v = .slice A n c ∧ n ≤ c ∧ c ≤ maxLen ∧ RdR W A n rows := by
  obtain ⟨a1, len, cap, rfl⟩ := okWide_slice Tryd.underlying28 hval
  obtain ⟨fuel, hf⟩ := h
  rcases open_int_rows Tryd.underlying28 Tryd.underlying22 Tryd.underlying5 cells22 cells5 hf with ⟨hcs, hx⟩ | ⟨a, len', cap', A, L, C, Z, hcs, _, hl, hm, _, hr⟩
  · simp [Value.cells] at hcs
    obtain ⟨rfl, rfl, rfl⟩ := hcs
    exact ⟨none, 0, 0, [], rfl, Nat.le_refl _, Nat.zero_le _, RdR.nil⟩
  · simp [Value.cells] at hcs
    obtain ⟨rfl, rfl, rfl⟩ := hcs
    refine ⟨some a, len, cap, (List.range len).map (fun r => ((Z r).take (L r)).map (BitVec.ofInt 8)), rfl, hl, hm, by simp, fun h0 => ?_⟩
    obtain ⟨ab, ao, spot⟩ := a
    have hspot : spot = none := by simpa [Addr.add] using World.cell?_spot (hr 0 (by omega)).1
    subst hspot
    refine ⟨ab, ao, rfl, fun j hj => ?_⟩
    obtain ⟨h1, h2, h3, h4, h5, h6, h7⟩ := hr j (by omega)
    rw [Addr.add_lit] at h1
    refine ⟨A j, L j, C j, h1, h2, h3, ?_⟩
    have e : ((List.range len).map (fun r => ((Z r).take (L r)).map (BitVec.ofInt 8))).getD j [] = ((Z j).take (L j)).map (BitVec.ofInt 8) := by
      rw [List.getD_eq_getElem?_getD, List.getElem?_map, List.getElem?_range hj]; rfl
    rw [e]
    cases hA : A j with
    | none =>
      have := h6 hA
      have hL : L j = 0 := by omega
      rw [hL]
      exact RdB.nil
    | some a' =>
      obtain ⟨_, h8⟩ := h7 a' hA
      exact rd_of_cells (by omega) (fun c hc => h8 c (by omega)) h5
end Go.Proofs.YtelhoejoncnccaaDoor
