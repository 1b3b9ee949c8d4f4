/- The law HmacOwn: its row, its card. -/
import Derived.Test.YtelhoejoncnccaaDoorE8
import Derived.Test.YtelhoejoncnccaaDoorF5
import Derived.Test.YtelhoejoncnccaaDoorCards
namespace Go.Proofs.YtelhoejoncnccaaDoor
open Go Go.ChangeShapes Go.WideShapes Go.ChangeAt Go.RowKit
set_option maxRecDepth 100000 in
theorem hmacOwn_lifted (os : Os) (started : os.Started) (H : Type) (enc : TypeId × Value → H) :
    ReturnsInHanded {} Tryd.checked os 12 .any (fun w args => (Rows.hmacOwnSpec.pre enc Tryd.prog Tryd.f12 [] false w args ∧ laidMetH Tryd.prog laidK w) ∧ sizedMet enc Tryd.prog Tryd.f12 (OpenSpec.ofChange Rows.hmacOwnSpec) false w args)
      (Rows.hmacOwnSpec.post enc Tryd.prog Tryd.f12 false true false false) :=
  lifted_law 12 Tryd.f12 Rows.hmacOwnSpec Tryd.func12 (by kernel_rfl) (by kernel_rfl) rfl (by kernel_rfl)
    (fun H ds hl => by
      rw [show Tryd.f12.params.toList.length = 3 by kernel_rfl] at hl
      match ds, hl with
      | [d0, d1, d2], _ => rfl) os started H enc
    (ChangeSpec.witness_shaped (enc := enc) (C := Tryd.checked) (os := os) (X := fun w _ => laidMetH Tryd.prog laidK w) false (World.doorLaid Tryd.prog 200 os) #[.agg #[.slice none 0 0, .int .i64 0, .slice none 0 0, .slice none 0 0], .int .i64 0, .int .u8 0] 8 rfl (World.shaped_of_RefB (by kernel_rfl) (by kernel_rfl)) (by kernel_rfl) (by kernel_rfl) (by kernel_rfl) (door_met os _))
    (fun W base args ds ps hG hval hA hsz => by
      rw [Tryd.params12] at hA hval hsz
      obtain ⟨v0, v1, v2, d0, d1, d2, p0, p1, p2, rfl, rfl, rfl, h0, h1, h2⟩ := trodAll_three hA
      obtain ⟨A, n, c, key, z, B, m, e, data, C, p, q, tag, rfl, hnc, _, hk, hme, _, hb, _⟩ := open_tagged (hval 0 57 v0 rfl rfl) h0 hsz
      obtain ⟨i, rfl, _, _, hi⟩ := open_int Tryd.underlying3 (hval 1 3 v1 rfl rfl) h1
      obtain ⟨y, rfl, _, _, hy⟩ := open_int Tryd.underlying5 (hval 2 5 v2 rfl rfl) h2
      have hy2 := u8_range hy
      have e1 : y = bI (BitVec.ofInt 8 y) := by unfold bI; rw [BitVec.toNat_ofInt]; omega
      rw [e1]
      exact hmacOwn_any A n c key z B m e data C p q i (BitVec.ofInt 8 y) W hG hk hnc (by omega) hb hme (by omega) (i64_range hi).1 (i64_range hi).2)
theorem hmacOwn_holds : Rows.HmacOwnSaid :=
  OpenClaim.holds_of_wide 12 Tryd.f12 rfl rfl rfl rfl rfl rfl rfl ⟨rfl, rfl, rfl, rfl, rfl⟩ rfl rfl rfl rfl rfl (by kernel_rfl) Tryd.func12 (by kernel_rfl)
    (of_decide_eq_true (by kernel_rfl)) (by unfold Func.isWrapper; first | (rw [if_pos (by decide +kernel)]; kernel_rfl) | (rw [if_neg (by decide +kernel)]; exact ⟨rfl, rfl⟩))
    (fun os started H enc _ => hmacOwn_lifted os started H enc)
theorem hmacOwn_card : Rows.HmacOwnCardSaid :=
  Claim7.holds_tied_plain_at .later [] [.data] true (true, "02225e0f6e0bf0e14abab3367f6cfcbb7ebcdc3b626e2268045978b53366674b") true
    hmacOwn_holds (fun _ h => by cases h) (by kernel_rfl) (fun _ h => by cases h) hmacOwn_row_tie rfl ⟨rfl, rfl⟩ (by kernel_rfl) rfl
    (fun f fn hf hfn => by
      obtain rfl : f = 12 := Option.some.inj ((show Tryd.prog.funcNamed "cofferdam/cofferdamlaw03.HmacOwn" = some 12 by kernel_rfl).symm.trans hf) |>.symm
      obtain rfl : fn = Tryd.f12 := (Option.some.inj (Tryd.func12.symm.trans hfn)).symm
      exact ⟨by kernel_rfl, fun j t ht => by
        rw [Tryd.params12] at ht
        have h3 : t = 3 ∨ t = 5 ∨ t = 57 := by
          rcases j with _ | j
          · have h4 : t = 57 := by simpa using ht.symm
            simp [h4]
          · rcases j with _ | j
            · have h4 : t = 3 := by simpa using ht.symm
              simp [h4]
            · rcases j with _ | j
              · have h4 : t = 5 := by simpa using ht.symm
                simp [h4]
              · simp at ht
        rcases h3 with rfl | rfl | rfl
        · exact (show Tryd.prog.wantsStandIn 3 = false by kernel_rfl)
        · exact (show Tryd.prog.wantsStandIn 5 = false by kernel_rfl)
        · exact (show Tryd.prog.wantsStandIn 57 = false by kernel_rfl)⟩)
    (by kernel_rfl)
end Go.Proofs.YtelhoejoncnccaaDoor
