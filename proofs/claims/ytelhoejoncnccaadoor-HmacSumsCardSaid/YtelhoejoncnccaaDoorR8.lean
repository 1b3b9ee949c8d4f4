/- The law HmacSums: its row, its card. -/
import Derived.Test.YtelhoejoncnccaaDoorE0
import Derived.Test.YtelhoejoncnccaaDoorF1
import Derived.Test.YtelhoejoncnccaaDoorCards
namespace Go.Proofs.YtelhoejoncnccaaDoor
open Go Go.ChangeShapes Go.WideShapes Go.ChangeAt Go.RowKit
set_option maxRecDepth 100000 in
theorem hmacSums_lifted (os : Os) (started : os.Started) (H : Type) (enc : TypeId × Value → H) :
    ReturnsInHanded {} Tryd.checked os 8 .any (fun w args => (Rows.hmacSumsSpec.pre enc Tryd.prog Tryd.f8 [] false w args ∧ laidMetH Tryd.prog laidK w) ∧ sizedMet enc Tryd.prog Tryd.f8 (OpenSpec.ofChange Rows.hmacSumsSpec) false w args)
      (Rows.hmacSumsSpec.post enc Tryd.prog Tryd.f8 false true false false) :=
  lifted_law 8 Tryd.f8 Rows.hmacSumsSpec Tryd.func8 (by kernel_rfl) (by kernel_rfl) rfl (by kernel_rfl)
    (fun H ds hl => by
      rw [show Tryd.f8.params.toList.length = 2 by kernel_rfl] at hl
      match ds, hl with
      | [d0, d1], _ => rfl) os started H enc
    (ChangeSpec.witness_shaped (enc := enc) (C := Tryd.checked) (os := os) (X := fun w _ => laidMetH Tryd.prog laidK w) false (World.doorLaid Tryd.prog 200 os) #[.slice none 0 0, .slice none 0 0] 8 rfl (World.shaped_of_RefB (by kernel_rfl) (by kernel_rfl)) (by kernel_rfl) (by kernel_rfl) (by kernel_rfl) (door_met os _))
    (fun W base args ds ps hG hval hA hsz => by
      rw [Tryd.params8] at hA hval hsz
      obtain ⟨v0, v1, d0, d1, p0, p1, rfl, rfl, rfl, h0, h1⟩ := trodAll_two hA
      obtain ⟨A, n, c, key, rfl, _, _, hk⟩ := open_bytes (hval 0 22 v0 rfl rfl) h0 (fun elems spare hd => by
        subst hd
        exact sized_slice hsz (j := 0) rfl rfl Tryd.underlying22)
      obtain ⟨B, m, d, bs, rfl, _, _, hb⟩ := open_bytes (hval 1 22 v1 rfl rfl) h1 (fun elems spare hd => by
        subst hd
        exact sized_slice hsz (j := 1) rfl rfl Tryd.underlying22)
      exact hmacSums_any A n c key B m d bs W hG hk (by omega) hb (by omega))
theorem hmacSums_holds : Rows.HmacSumsSaid :=
  OpenClaim.holds_of_wide 8 Tryd.f8 rfl rfl rfl rfl rfl rfl rfl ⟨rfl, rfl, rfl, rfl, rfl⟩ rfl rfl rfl rfl rfl (by kernel_rfl) Tryd.func8 (by kernel_rfl)
    (of_decide_eq_true (by kernel_rfl)) (by unfold Func.isWrapper; first | (rw [if_pos (by decide +kernel)]; kernel_rfl) | (rw [if_neg (by decide +kernel)]; exact ⟨rfl, rfl⟩))
    (fun os started H enc _ => hmacSums_lifted os started H enc)
theorem hmacSums_card : Rows.HmacSumsCardSaid :=
  Claim7.holds_tied_plain_at .later [] [.data] true (true, "02225e0f6e0bf0e14abab3367f6cfcbb7ebcdc3b626e2268045978b53366674b") true
    hmacSums_holds (fun _ h => by cases h) (by kernel_rfl) (fun _ h => by cases h) hmacSums_row_tie rfl ⟨rfl, rfl⟩ (by kernel_rfl) rfl
    (fun f fn hf hfn => by
      obtain rfl : f = 8 := Option.some.inj ((show Tryd.prog.funcNamed "cofferdam/cofferdamlaw03.HmacSums" = some 8 by kernel_rfl).symm.trans hf) |>.symm
      obtain rfl : fn = Tryd.f8 := (Option.some.inj (Tryd.func8.symm.trans hfn)).symm
      exact ⟨by kernel_rfl, fun j t ht => by
        rw [Tryd.params8] at ht
        have h3 : t = 22 := by
          rcases j with _ | j
          · have h4 : t = 22 := by simpa using ht.symm
            exact h4
          · rcases j with _ | j
            · have h4 : t = 22 := by simpa using ht.symm
              exact h4
            · simp at ht
        subst h3
        exact (show Tryd.prog.wantsStandIn 22 = false by kernel_rfl)⟩)
    (by kernel_rfl)
end Go.Proofs.YtelhoejoncnccaaDoor
