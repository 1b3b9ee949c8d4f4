/- The law HmacKeys: its row, its card. -/
import Derived.Test.YtelhoejoncnccaaDoorE8
import Derived.Test.YtelhoejoncnccaaDoorF2
import Derived.Test.YtelhoejoncnccaaDoorCards
namespace Go.Proofs.YtelhoejoncnccaaDoor
open Go Go.ChangeShapes Go.WideShapes Go.ChangeAt Go.RowKit
set_option maxRecDepth 100000 in
theorem hmacKeys_lifted (os : Os) (started : os.Started) (H : Type) (enc : TypeId × Value → H) :
    ReturnsInHanded {} Tryd.checked os 9 .any (fun w args => (Rows.hmacKeysSpec.pre enc Tryd.prog Tryd.f9 [] false w args ∧ laidMetH Tryd.prog laidK w) ∧ sizedMet enc Tryd.prog Tryd.f9 (OpenSpec.ofChange Rows.hmacKeysSpec) false w args)
      (Rows.hmacKeysSpec.post enc Tryd.prog Tryd.f9 false true false false) :=
  lifted_law 9 Tryd.f9 Rows.hmacKeysSpec Tryd.func9 (by kernel_rfl) (by kernel_rfl) rfl (by kernel_rfl)
    (fun H ds hl => by
      rw [show Tryd.f9.params.toList.length = 3 by kernel_rfl] at hl
      match ds, hl with
      | [d0, d1, d2], _ => rfl) os started H enc
    (ChangeSpec.witness_shaped (enc := enc) (C := Tryd.checked) (os := os) (X := fun w _ => laidMetH Tryd.prog laidK w) false (World.doorLaid Tryd.prog 200 os) #[.slice none 0 0, .slice none 0 0, .int .i64 0] 8 rfl (World.shaped_of_RefB (by kernel_rfl) (by kernel_rfl)) (by kernel_rfl) (by kernel_rfl) (by kernel_rfl) (door_met os _))
    (fun W base args ds ps hG hval hA hsz => by
      rw [Tryd.params9] at hA hval hsz
      obtain ⟨v0, v1, v2, d0, d1, d2, p0, p1, p2, rfl, rfl, rfl, h0, h1, h2⟩ := trodAll_three hA
      obtain ⟨A, n, c, key, rfl, hnc, _, hk⟩ := open_bytes (hval 0 22 v0 rfl rfl) h0 (fun elems spare hd => by
        subst hd
        exact sized_slice hsz (j := 0) rfl rfl Tryd.underlying22)
      obtain ⟨B, m, d, bs, rfl, hmd, _, hb⟩ := open_bytes (hval 1 22 v1 rfl rfl) h1 (fun elems spare hd => by
        subst hd
        exact sized_slice hsz (j := 1) rfl rfl Tryd.underlying22)
      obtain ⟨z, rfl, _, _, hz⟩ := open_int Tryd.underlying3 (hval 2 3 v2 rfl rfl) h2
      exact hmacKeys_any A n c key B m d bs z W hG hk hnc (by omega) hb hmd (by omega) (i64_range hz).1 (i64_range hz).2)
theorem hmacKeys_holds : Rows.HmacKeysSaid :=
  OpenClaim.holds_of_wide 9 Tryd.f9 rfl rfl rfl rfl rfl rfl rfl ⟨rfl, rfl, rfl, rfl, rfl⟩ rfl rfl rfl rfl rfl (by kernel_rfl) Tryd.func9 (by kernel_rfl)
    (of_decide_eq_true (by kernel_rfl)) (by unfold Func.isWrapper; first | (rw [if_pos (by decide +kernel)]; kernel_rfl) | (rw [if_neg (by decide +kernel)]; exact ⟨rfl, rfl⟩))
    (fun os started H enc _ => hmacKeys_lifted os started H enc)
theorem hmacKeys_card : Rows.HmacKeysCardSaid :=
  Claim7.holds_tied_plain_at .later [] [.data] true (true, "02225e0f6e0bf0e14abab3367f6cfcbb7ebcdc3b626e2268045978b53366674b") true
    hmacKeys_holds (fun _ h => by cases h) (by kernel_rfl) (fun _ h => by cases h) hmacKeys_row_tie rfl ⟨rfl, rfl⟩ (by kernel_rfl) rfl
    (fun f fn hf hfn => by
      obtain rfl : f = 9 := Option.some.inj ((show Tryd.prog.funcNamed "cofferdam/cofferdamlaw03.HmacKeys" = some 9 by kernel_rfl).symm.trans hf) |>.symm
      obtain rfl : fn = Tryd.f9 := (Option.some.inj (Tryd.func9.symm.trans hfn)).symm
      exact ⟨by kernel_rfl, fun j t ht => by
        rw [Tryd.params9] at ht
        have h3 : t = 3 ∨ t = 22 := by
          rcases j with _ | j
          · have h4 : t = 22 := by simpa using ht.symm
            simp [h4]
          · rcases j with _ | j
            · have h4 : t = 22 := by simpa using ht.symm
              simp [h4]
            · rcases j with _ | j
              · have h4 : t = 3 := by simpa using ht.symm
                simp [h4]
              · simp at ht
        rcases h3 with rfl | rfl
        · exact (show Tryd.prog.wantsStandIn 3 = false by kernel_rfl)
        · exact (show Tryd.prog.wantsStandIn 22 = false by kernel_rfl)⟩)
    (by kernel_rfl)
end Go.Proofs.YtelhoejoncnccaaDoor
