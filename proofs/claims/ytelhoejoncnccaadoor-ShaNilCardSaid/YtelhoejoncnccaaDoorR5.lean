/- The law of no hash: its row, its card. -/
import Derived.Test.YtelhoejoncnccaaDoorC8
import Derived.Test.YtelhoejoncnccaaDoorCards
namespace Go.Proofs.YtelhoejoncnccaaDoor
open Go Go.ChangeShapes Go.WideShapes Go.ChangeAt Go.RowKit
set_option maxRecDepth 100000 in
theorem shaNil_lifted (os : Os) (started : os.Started) (H : Type) (enc : TypeId × Value → H) :
    ReturnsInHanded {} Tryd.checked os 5 .any (fun w args => (Rows.shaNilSpec.pre enc Tryd.prog Tryd.f5 [] false w args ∧ laidMetH Tryd.prog laidK w) ∧ sizedMet enc Tryd.prog Tryd.f5 (OpenSpec.ofChange Rows.shaNilSpec) false w args)
      (Rows.shaNilSpec.post enc Tryd.prog Tryd.f5 false true false false) :=
  lifted_law 5 Tryd.f5 Rows.shaNilSpec Tryd.func5 (by kernel_rfl) (by kernel_rfl) rfl (by kernel_rfl)
    (fun H ds hl => by
      rw [show Tryd.f5.params.toList.length = 1 by kernel_rfl] at hl
      match ds, hl with
      | [d], _ => rfl) os started H enc
    (ChangeSpec.witness_shaped (enc := enc) (C := Tryd.checked) (os := os) (X := fun w _ => laidMetH Tryd.prog laidK w) false (World.doorLaid Tryd.prog 200 os) #[.slice none 0 0] 8 rfl (World.shaped_of_RefB (by kernel_rfl) (by kernel_rfl)) (by kernel_rfl) (by kernel_rfl) (by kernel_rfl) (door_met os _))
    (fun W base args ds ps hG hval hA _ => by
      rw [Tryd.params5] at hA
      obtain ⟨v0, d0, rfl, rfl, h0⟩ := trodAll_one hA
      exact shaNil_any v0 W hG)
theorem shaNil_holds : Rows.ShaNilSaid :=
  OpenClaim.holds_of_wide 5 Tryd.f5 rfl rfl rfl rfl rfl rfl rfl ⟨rfl, rfl, rfl, rfl, rfl⟩ rfl rfl rfl rfl rfl (by kernel_rfl) Tryd.func5 (by kernel_rfl)
    (of_decide_eq_true (by kernel_rfl)) (by unfold Func.isWrapper; first | (rw [if_pos (by decide +kernel)]; kernel_rfl) | (rw [if_neg (by decide +kernel)]; exact ⟨rfl, rfl⟩))
    (fun os started H enc _ => shaNil_lifted os started H enc)
theorem shaNil_card : Rows.ShaNilCardSaid :=
  Claim7.holds_tied_plain_at .later [] [.data] true (true, "02225e0f6e0bf0e14abab3367f6cfcbb7ebcdc3b626e2268045978b53366674b") true
    shaNil_holds (fun _ h => by cases h) (by kernel_rfl) (fun _ h => by cases h) shaNil_row_tie rfl ⟨rfl, rfl⟩ (by kernel_rfl) rfl
    (fun f fn hf hfn => by
      obtain rfl : f = 5 := Option.some.inj ((show Tryd.prog.funcNamed "cofferdam/cofferdamlaw02.ShaNil" = some 5 by kernel_rfl).symm.trans hf) |>.symm
      obtain rfl : fn = Tryd.f5 := (Option.some.inj (Tryd.func5.symm.trans hfn)).symm
      exact ⟨by kernel_rfl, fun j t ht => by
        rw [Tryd.params5] at ht
        have h3 : t = 22 := by
          rcases j with _ | j
          · simpa using ht.symm
          · simp at ht
        subst h3
        exact (show Tryd.prog.wantsStandIn 22 = false by kernel_rfl)⟩)
    (by kernel_rfl)
end Go.Proofs.YtelhoejoncnccaaDoor
