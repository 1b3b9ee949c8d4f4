/- Arguments opened: bytes, bools, the fields of a struct; their bounds. -/
import Derived.Test.YtelhoejoncnccaaDoorC8
import Derived.Test.YtelhoejoncnccaaDoorD1
import Derived.SizedLaws
import Derived.Deep.Grids
import Derived.Lib.SmallJoins
namespace Go.Proofs.YtelhoejoncnccaaDoor
open Go Go.ChangeShapes Go.WideShapes Go.ChangeAt Go.RowKit Go.Deep
theorem bytes5 : Tryd.prog.bytesOf 5 = 1 := by kernel_rfl
theorem cells4 : Tryd.prog.cellsOf 4 = 1 := by kernel_rfl
/-- A slice of bytes, out of its cells' reading. -/
theorem open_bytes_at {H : Type} {enc : TypeId × Value → H} {W : World} {v : Value} {y : DataW H × List MemPlace} {n : Nat} (h : DataW.trod enc Tryd.prog W 0 (fun _ => true) true n 22 [v] = some y)
    (hsz : ∀ elems spare, y.1 = .slice elems spare → (elems.length + spare.length) * Tryd.prog.bytesOf 5 ≤ reachBytes) :
    ∃ A n c bs, v = .slice A n c ∧ n ≤ c ∧ c ≤ 140737488351232 ∧ RdB W A n bs := by
  rcases open_ints Tryd.underlying22 Tryd.underlying5 cells5 h with ⟨hcs, hx⟩ | ⟨a, len, cap, zs, hcs, _, hl, hm, hz, hx, hcell, hwz⟩
  · obtain rfl := List.singleton_inj.1 hcs
    exact ⟨none, 0, 0, [], rfl, Nat.le_refl _, Nat.zero_le _, RdB.nil⟩
  · obtain rfl := List.singleton_inj.1 hcs
    simp only [if_true] at hz
    have hd : y.1 = .slice (lits .u8 (zs.take len)) (lits .u8 (zs.drop len)) := congrArg Prod.fst hx
    have hs := hsz _ _ hd
    rw [bytes5] at hs
    have hcap : cap ≤ 140737488351232 := by
      simp [lits] at hs
      have : reachBytes = 140737488351232 := rfl
      omega
    exact ⟨some a, len, cap, (zs.take len).map (BitVec.ofInt 8), rfl, hl, hcap, rd_of_cells (by omega) (fun j hj => hcell j (by omega)) hwz⟩
set_option maxRecDepth 100000 in
theorem open_bytes {H : Type} {enc : TypeId × Value → H} {W : World} {base : Nat} {v : Value} {d : DataW H} {ps : List MemPlace} (hval : Value.okWide Tryd.prog W .any base 22 v) (h : DataW.Trod enc Tryd.prog W 0 (fun _ => true) true 22 v d ps)
    (hsz : ∀ elems spare, d = .slice elems spare → (elems.length + spare.length) * Tryd.prog.bytesOf 5 ≤ reachBytes) :
    ∃ A n c bs, v = .slice A n c ∧ n ≤ c ∧ c ≤ 140737488351232 ∧ RdB W A n bs := by
  obtain ⟨a1, len, cap, rfl⟩ := okWide_slice Tryd.underlying22 hval
  obtain ⟨fuel, hf⟩ := h
  exact open_bytes_at (v := .slice a1 len cap) hf hsz
set_option maxRecDepth 100000 in
theorem open_asks {H : Type} {enc : TypeId × Value → H} {W : World} {base : Nat} {v : Value} {d : DataW H} {ps : List MemPlace} (hval : Value.okWide Tryd.prog W .any base 34 v) (h : DataW.Trod enc Tryd.prog W 0 (fun _ => true) true 34 v d ps) :
    ∃ (A : Option Addr) (n c : Nat) (B : Nat → Bool), v = .slice A n c ∧ (0 < n → ∃ b o, A = some ⟨b, o, none⟩ ∧ ∀ j, j < n → W.cell? ⟨b, o + j, none⟩ = some (.bool (B j))) := by
  obtain ⟨a1, len, cap, rfl⟩ := okWide_slice Tryd.underlying34 hval
  obtain ⟨fuel, hf⟩ := h
  rcases open_bools Tryd.underlying34 Tryd.underlying4 cells4 hf with ⟨hcs, hx⟩ | ⟨a, len', cap', B, hcs, _, hl, hm, hx, hcell⟩
  · simp [Value.cells] at hcs
    obtain ⟨rfl, rfl, rfl⟩ := hcs
    exact ⟨none, 0, 0, fun _ => false, rfl, fun h => by omega⟩
  · simp [Value.cells] at hcs
    obtain ⟨rfl, rfl, rfl⟩ := hcs
    refine ⟨some a, len, cap, B, rfl, fun h0 => ?_⟩
    obtain ⟨ab, ao, spot⟩ := a
    have hspot : spot = none := by simpa [Addr.add] using World.cell?_spot (hcell 0 (by omega))
    subst hspot
    refine ⟨ab, ao, rfl, fun j hj => ?_⟩
    have hcj := hcell j (by omega)
    rwa [Addr.add_lit] at hcj
end Go.Proofs.YtelhoejoncnccaaDoor
