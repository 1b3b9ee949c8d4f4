/- The law of pieces: its row, its card. -/
import Derived.Test.YtelhoejoncnccaaDoorC8
import Derived.Test.YtelhoejoncnccaaDoorD2
import Derived.Test.YtelhoejoncnccaaDoorCards
namespace Go.Proofs.YtelhoejoncnccaaDoor
open Go Go.ChangeShapes Go.WideShapes Go.ChangeAt Go.RowKit
set_option maxRecDepth 100000 in
theorem shaPieces_lifted (os : Os) (started : os.Started) (H : Type) (enc : TypeId × Value → H) :
    ReturnsInHanded {} Tryd.checked os 4 .any (fun w args => (Rows.shaPiecesSpec.pre enc Tryd.prog Tryd.f4 [] false w args ∧ laidMetH Tryd.prog laidK w) ∧ sizedMet enc Tryd.prog Tryd.f4 (OpenSpec.ofChange Rows.shaPiecesSpec) false w args)
      (Rows.shaPiecesSpec.post enc Tryd.prog Tryd.f4 false true false false) :=
  lifted_law 4 Tryd.f4 Rows.shaPiecesSpec Tryd.func4 (by kernel_rfl) (by kernel_rfl) rfl (by kernel_rfl)
    (fun H ds hl => by
      rw [show Tryd.f4.params.toList.length = 1 by kernel_rfl] at hl
      match ds, hl with
      | [d], _ => rfl) os started H enc
    (ChangeSpec.witness_shaped (enc := enc) (C := Tryd.checked) (os := os) (X := fun w _ => laidMetH Tryd.prog laidK w) false (World.doorLaid Tryd.prog 200 os) #[.slice none 0 0] 8 rfl (World.shaped_of_RefB (by kernel_rfl) (by kernel_rfl)) (by kernel_rfl) (by kernel_rfl) (by kernel_rfl) (door_met os _))
    (fun W base args ds ps hG hval hA _ => by
      rw [Tryd.params4] at hA hval
      obtain ⟨v0, d0, rfl, rfl, h0⟩ := trodAll_one hA
      obtain ⟨A, n, c, rows, rfl, hnc, hc, hb⟩ := open_rows (hval 0 28 v0 rfl rfl) h0
      exact shaPieces_any A n c rows W hG hb hnc hc)
theorem shaPieces_holds : Rows.ShaPiecesSaid :=
  OpenClaim.holds_of_wide 4 Tryd.f4 rfl rfl rfl rfl rfl rfl rfl ⟨rfl, rfl, rfl, rfl, rfl⟩ rfl rfl rfl rfl rfl (by kernel_rfl) Tryd.func4 (by kernel_rfl)
    (of_decide_eq_true (by kernel_rfl)) (by unfold Func.isWrapper; first | (rw [if_pos (by decide +kernel)]; kernel_rfl) | (rw [if_neg (by decide +kernel)]; exact ⟨rfl, rfl⟩))
    (fun os started H enc _ => shaPieces_lifted os started H enc)
theorem shaPieces_card : Rows.ShaPiecesCardSaid :=
  Claim7.holds_tied_plain_at .later [] [.data] true (true, "02225e0f6e0bf0e14abab3367f6cfcbb7ebcdc3b626e2268045978b53366674b") true
    shaPieces_holds (fun _ h => by cases h) (by kernel_rfl) (fun _ h => by cases h) shaPieces_row_tie rfl ⟨rfl, rfl⟩ (by kernel_rfl) rfl
    (fun f fn hf hfn => by
      obtain rfl : f = 4 := Option.some.inj ((show Tryd.prog.funcNamed "cofferdam/cofferdamlaw02.ShaPieces" = some 4 by kernel_rfl).symm.trans hf) |>.symm
      obtain rfl : fn = Tryd.f4 := (Option.some.inj (Tryd.func4.symm.trans hfn)).symm
      exact ⟨by kernel_rfl, fun j t ht => by
        rw [Tryd.params4] at ht
        have h3 : t = 28 := by
          rcases j with _ | j
          · simpa using ht.symm
          · simp at ht
        subst h3
        exact (show Tryd.prog.wantsStandIn 28 = false by kernel_rfl)⟩)
    (by kernel_rfl)
end Go.Proofs.YtelhoejoncnccaaDoor
