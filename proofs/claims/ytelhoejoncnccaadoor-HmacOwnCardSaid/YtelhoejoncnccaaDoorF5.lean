/- A tag is its own: the walk. -/
import Derived.Test.YtelhoejoncnccaaDoorF4
namespace Go.Proofs.YtelhoejoncnccaaDoor
open Go Go.RowKit
theorem set_eq {T : List By} {i : Nat} {x b : By} (h : T[i]? = some x) : (T == T.set i (x ^^^ b)) = (b == 0) := by
  rw [Bool.eq_iff_iff, beq_iff_eq, beq_iff_eq]
  have hi := (List.getElem?_eq_some_iff.1 h).1
  constructor
  · intro e
    have : T[i]? = (T.set i (x ^^^ b))[i]? := by rw [← e]
    rw [h, List.getElem?_set_self hi] at this
    have := Option.some.inj this
    have h2 : x ^^^ (x ^^^ b) = x ^^^ x := by rw [← this]
    rw [← BitVec.xor_assoc, BitVec.xor_self] at h2
    simpa using h2
  · rintro rfl
    have e0 : x ^^^ (0 : By) = x := by simp
    rw [e0]
    apply List.ext_getElem?
    intro j
    rw [List.getElem?_set]
    split
    · rename_i e
      subst e
      first | exact h | rw [if_pos hi, h]
    · rfl
theorem take_ne {T : List By} (h : T.length = 16) : (T == T.take 15) = false := by
  rw [beq_eq_false_iff_ne]
  intro e
  have := congrArg List.length e
  rw [List.length_take, h] at this
  omega
theorem more_ne {T : List By} (b : By) : (T == T ++ [b]) = false := by
  rw [beq_eq_false_iff_ne]
  intro e
  have := congrArg List.length e
  rw [List.length_append] at this
  simp at this
abbrev emp : Obj := .cells #[] 5
abbrev litb (b : By) : Obj := .cells #[.int .u8 (bI b)] 5
theorem OwB.drew {w : World} {v : Value} {bs : List By} (h : OwB w v bs) : OwB w.drew v bs := h.fr (S := none_) (Fr.refl _ _).drew (fun _ _ => id)
theorem RdB.drew {w : World} {A : Option Addr} {n : Nat} {bs : List By} (h : RdB w A n bs) : RdB w.drew A n bs := h.fr (S := none_) (Fr.refl _ _).drew (fun _ _ _ => id)
theorem emp1 (W : World) : OwB (W.alloc emp).drew (.slice (some ⟨W.heap.size, 0, none⟩) 0 0) [] := (OwB.empty W).drew
theorem emp1a (W : World) (o : Obj) : OwB ((W.alloc emp).alloc o).drew (.slice (some ⟨W.heap.size, 0, none⟩) 0 0) [] := ((OwB.empty W).alloc o).drew
theorem emp2 (W : World) (o : Obj) : OwB ((W.alloc o).alloc emp).drew (.slice (some ⟨W.heap.size + 1, 0, none⟩) 0 0) [] := (empty1 W o).drew
theorem lb1 (W : World) (b : By) : RdB (W.alloc (litb b)) (some ⟨W.heap.size, 0, none⟩) 1 [b] := RdB.lit W b 5
theorem lb1a (W : World) (b : By) (o : Obj) : RdB ((W.alloc (litb b)).alloc o).drew (some ⟨W.heap.size, 0, none⟩) 1 [b] := ((lb1 W b).alloc o).drew
theorem lb2 (W : World) (b : By) (o : Obj) : RdB ((W.alloc o).alloc (litb b)).drew (some ⟨W.heap.size + 1, 0, none⟩) 1 [b] := by
  have := lb1 (W.alloc o) b
  rw [World.size_alloc] at this
  exact this.drew
attribute [local go_sem] u8_xor
set_option maxRecDepth 100000 in
set_option maxHeartbeats 4000000 in
theorem hmacOwn_any (A : Option Addr) (n c : Nat) (key : List By) (z : Int) (B : Option Addr) (m d : Nat) (data : List By) (C : Option Addr) (p q : Nat) (at_ : Int) (b : By) (w : World) (hG : GK w) (hk : RdB w A n key) (hnc : n ≤ c) (hn : n ≤ 140737488351232) (hb : RdB w B m data) (hmd : m ≤ d) (hm : m ≤ 140737488351232)
    (hlo : -9223372036854775808 ≤ at_) (hhi : at_ ≤ 9223372036854775807) :
    Calls Tryd.prog 12 #[.agg #[.slice A n c, .int .i64 z, .slice B m d, .slice C p q], .int .i64 at_, .int .u8 (bI b)] w fun e w' => e = .returned (.bool true) ∧ Fr none_ w w' := by
  obtain ⟨i5, hi5, hz5, hs5, hb5⟩ := info_parts (P := Tryd.prog) (e := 5) (z := .int .u8 0) (size := 1) (bytes := 1) (by kernel_rfl)
  have hG' := Lib.hid hG
  have hk' := Lib.hid hk
  have hb' := Lib.hid hb
  clear hG hk hb
  obtain ⟨T, hT, lT⟩ : ∃ T, T = tagS key z data ∧ T.length = 16 := ⟨_, rfl, tagS_len _ _ _⟩
  have hT' := Lib.hid hT
  obtain ⟨r, hr, hrm⟩ : ∃ r : Nat, r ≤ 9223372036854775807 ∧ (at_ = r ∨ at_ = -(r : Int) - 1) := by
    by_cases h : 0 ≤ at_
    · exact ⟨at_.toNat, by omega, .inl (by omega)⟩
    · exact ⟨(-at_ - 1).toNat, by omega, .inr (by omega)⟩
  clear hlo hhi hT
  obtain ⟨x, hx⟩ : ∃ x, T[r % 16]? = some x := ⟨_, List.getElem?_eq_getElem (by omega)⟩
  have hi : r % 16 < 16 := Nat.mod_lt _ (by decide)
  have hx' := Lib.hid hx
  clear hx
  have hβ1 : Hid (true = (tagS key z data == T)) := by rw [← hT'.out]; exact Lib.hid (beq_self_eq_true T).symm
  have hβ3 : Hid (false = (tagS key z data == T.take 15)) := by rw [← hT'.out]; exact Lib.hid (take_ne lT).symm
  have hβ4 : Hid (false = (tagS key z data == T ++ [b])) := by rw [← hT'.out]; exact Lib.hid (more_ne b).symm
  obtain ⟨β, hβ, hbz⟩ : ∃ β, β = (tagS key z data == T.set (r % 16) (x ^^^ b)) ∧ (bI b == 0) = β := ⟨_, rfl, by rw [← hT'.out, set_eq hx'.out, bI_zero]⟩
  have hβ2 := Lib.hid hβ
  have hbox := Lib.hid (Blk.new w 57 (tagged A n c z B m d C p q))
  have hF0 := Lib.hid ((Fr.refl none_ w).alloc (.cells (tagged A n c z B m d C p q).toArray 57))
  clear hβ
  rcases hrm with rfl | rfl
  all_goals
    go_enter Tryd.func12, Tryd.ntmps12
    go_wp2_with (first
      | (at_builtin; refine wpList_append_bytes _ rfl (.tmp 20) (.tmp 21) 22 rfl i5 Tryd.underlying22 hi5 hz5 hs5 hb5 (.slice (some ⟨W.heap.size, 0, none⟩) 0 0) rfl [] (OwB.empty W) (some ⟨w1.heap.size, 0, none⟩) 16 16 T rfl (hrT.out.alloc _) (by decide) ?_; intro v2 w2 ho2 hf2 hk2; obtain ⟨A2, c2, hv2, hc2, hm2⟩ := ho2.slice; have hl16 : ([] ++ T).length = 16 := lT; rw [hl16] at hv2 hc2; subst hv2; have hfW2 := Fr.far ((Fr.refl none_ W).alloc _) hf2 own_new; have hkW2 := own_far hk2 own_new (by simp); have hF2 := Lib.hid (hFW.out.trans hfW2 (fun _ _ => id)); have hb2 := hb1.fr hfW2 id; have k0 := hb2.cellAt (i := 0) rfl; have k1 := hb2.cellAt (i := 1) rfl; have k2 := hb2.cellAt (i := 2) rfl)
      | (refine wpList_store_row rfl 60 (.tmp 7) (.tmp 19) rfl w1.heap.size (T.map bV).toArray rfl rfl 60 Z16A ha1.out (row16 lT) (old16 lT) (DA_all T) ?_; refine wpList_gen (fun W => Fr none_ (w.alloc (.cells (tagged A n c z B m d C p q).toArray 57)) W ∧ Blk W w1.heap.size 60 (T.map bV)) ⟨made16_fr hf1, made16⟩ ?_; rintro W ⟨hfW, hB⟩; have hb1 := hbox.out.fr hfW id; have hFW := Lib.hid (hF0.out.trans hfW (fun _ _ => id)); have hrT := Lib.hid (show RdB W (some ⟨w1.heap.size, 0, none⟩) 16 T by have := RdB.blk hB; rwa [lT] at this))
      | (go_at_call 37; refine (tag_is T A n c key z B m d data _ hT'.out (hG'.out.fr hF0.out id) (hk'.out.alloc _) hnc (by omega) (hb'.out.alloc _) hmd hm).mono ?_; rw [DA]; rintro e w1 ⟨rfl, hf1⟩; have ha1 := Lib.hid (alloc16 w1)))
    simp only [List.nil_append] at ho2
    have hrO := Lib.hid (ho2.rd rfl).1
    have ho2' := Lib.hid ho2
    have hB2 := hB.fr hfW2 id
    obtain ⟨g, rfl, hfree⟩ := ho2'.out.head (by rw [lT]; decide)
    have hbg : g ≠ w.heap.size := fun e => by subst e; exact ho2'.out.ne hb2 (by decide) rfl
    have hBg : g ≠ w1.heap.size := fun e => by subst e; exact ho2'.out.ne hB2 (by decide) rfl
    have hwg : w.heap.size ≤ g := by
      have h1 := hkW2 g rfl
      have h2 := hFW.out.size
      omega
    have hfree' := Lib.hid hfree
    clear ho2 hf2 hk2 hfW hfW2 hB hb1 hkW2 hfree hrT ha1 hf1
    refine (right_is true A n c key z B m d data _ _ _ T _ hβ1.out (hG'.out.fr hF2.out id) (hk'.out.fr hF2.out (fun _ _ _ => id)) hnc (by omega) (hb'.out.fr hF2.out (fun _ _ _ => id)) hmd hm hrO.out (by decide)).mono ?_
    rintro e w3 ⟨rfl, hf3⟩
    have hF3 := Lib.hid (hF2.out.trans hf3 (fun _ _ => id))
    have hb3 := hb2.fr hf3 id
    have hB3 := hB2.fr hf3 id
    have ho3 := ho2'.out.fr hf3 (fun _ _ => id)
    have hcx : w3.cell? ⟨g, r % 16, none⟩ = some (.int .u8 (bI x)) := by
      obtain ⟨g', o', e, hc⟩ := (ho3.rd (A := some ⟨g, 0, none⟩) (n := 16) (c := c2) rfl).1.2 (by decide)
      cases e
      have := hc (r % 16) hi
      rw [Nat.zero_add, List.getD_eq_getElem?_getD, hx'.out] at this
      exact this
    obtain ⟨g2, hg2, hfr2⟩ := ho3.head (by rw [lT]; decide)
    cases hg2
    have hfx := hfr2 (r % 16)
    clear k0 k1 k2 hfr2
    have k0 := hb3.cellAt (i := 0) rfl
    have k1 := hb3.cellAt (i := 1) rfl
    have k2 := hb3.cellAt (i := 2) rfl
    have ho3' := Lib.hid ho3
    have hB3' := Lib.hid hB3
    have hb3' := Lib.hid hb3
    clear ho3 hB3 hB2 hb2 hb3 hrO ho2' hfree'
    go_wp2_with fail
    have hF4 := Lib.hid (hF3.out.setCell (p := ⟨g, r % 16, none⟩) (fun h => absurd h (by simp; omega)) (bV (x ^^^ b)))
    have hb4 := hb3'.out.far (p := ⟨g, r % 16, none⟩) (Ne.symm hbg) (bV (x ^^^ b))
    have hB4 := hB3'.out.far (p := ⟨g, r % 16, none⟩) (Ne.symm hBg) (bV (x ^^^ b))
    refine (right_is β A n c key z B m d data _ _ _ (T.set (r % 16) (x ^^^ b)) _ hβ2.out (hG'.out.fr hF4.out id) (hk'.out.fr hF4.out (fun _ _ _ => id)) hnc (by omega) (hb'.out.fr hF4.out (fun _ _ _ => id)) hmd hm ((ho3'.out.store (r % 16) (x ^^^ b)).rd rfl).1 (by decide)).mono ?_
    rintro e w5 ⟨rfl, hf5⟩
    have hF5 := Lib.hid (hF4.out.trans hf5 (fun _ _ => id))
    have hb5 := hb4.fr hf5 id
    have hB5 := Lib.hid (hB4.fr hf5 id)
    clear k0 k1 k2 hcx hfx ho3' hb4 hB4
    have k0 := hb5.cellAt (i := 0) rfl
    have k1 := hb5.cellAt (i := 1) rfl
    have k2 := hb5.cellAt (i := 2) rfl
    have hb5' := Lib.hid hb5
    clear hb5 hf5
    go_wp2
    refine wp_region_quiet_tail 7 (by kernel_rfl) (by kernel_rfl) ?_
    simp only [List.take_succ_cons, List.take_zero, List.drop_succ_cons, List.drop_zero]
    repeat (go_big_quiet_step (fail))
    refine wpQuiet_nil ?_
    rintro _ ⟨n1, rfl⟩
    go_wp2_with fail
    obtain ⟨V, hV⟩ : ∃ V, V = w5.drewN n1 := ⟨_, rfl⟩
    rw [← hV]
    have hFV := Lib.hid (hV ▸ hF5.out.drewN n1)
    have hbV := hV ▸ hb5'.out.drewN n1
    have hBV := Lib.hid (hV ▸ hB5.out.drewN n1)
    have hrT := RdB.blk hBV.out
    rw [lT] at hrT
    clear hV k0 k1 k2 hb5' hB5
    refine (right_is false A n c key z B m d data _ 15 _ (T.take 15) _ hβ3.out (hG'.out.fr hFV.out id) (hk'.out.fr hFV.out (fun _ _ _ => id)) hnc (by omega) (hb'.out.fr hFV.out (fun _ _ _ => id)) hmd hm (hrT.front (k := 15) (by decide)) (by decide)).mono ?_
    rintro e w6 ⟨rfl, hf6⟩
    have hF6 := Lib.hid (hFV.out.trans hf6 (fun _ _ => id))
    have hb6 := Lib.hid (hbV.fr hf6 id)
    have hr6 := Lib.hid (hrT.fr hf6 (fun _ _ _ => id))
    clear hf6 hbV hBV hrT
    have hsof : ∀ X, Blk X w.heap.size 57 (tagged A n c z B m d C p q) → X.cell? ⟨w.heap.size, 0, none⟩ = some (.slice A n c) ∧ X.cell? ⟨w.heap.size, 1, none⟩ = some (.int .i64 z) ∧ X.cell? ⟨w.heap.size, 2, none⟩ = some (.slice B m d) := fun X h => ⟨h.cellAt (i := 0) rfl, h.cellAt (i := 1) rfl, h.cellAt (i := 2) rfl⟩
    have hsof' := Lib.hid hsof
    clear hsof
    go_wp2
    go_cut [12] from 63 to 75 (fun v wc => v = .bool false ∧ Fr none_ w6 wc)
    case first =>
      go_region_held3 (fun X => X.cell? ⟨w.heap.size, 0, none⟩ = some (.slice A n c) ∧ X.cell? ⟨w.heap.size, 1, none⟩ = some (.int .i64 z) ∧ X.cell? ⟨w.heap.size, 2, none⟩ = some (.slice B m d)) (first | with_reducible exact hsof'.out _ hb9 | with_reducible exact hsof'.out _ hb8 | with_reducible exact hsof'.out _ hb7 | with_reducible exact hsof'.out _ (hb7.alloc _) | with_reducible exact hsof'.out _ hb6.out.drew | with_reducible exact hsof'.out _ (hb6.out.alloc _).drew | with_reducible exact hsof'.out _ ((hb6.out.alloc _).alloc _).drew)
        (first
          | (go_at_call 39; refine (right_is false A n c key z B m d data _ (16 + 1) _ (T ++ [b]) _ hβ4.out (hG'.out.fr (hF6.out.trans hF8 (fun _ _ => id)) id) (hk'.out.fr (hF6.out.trans hF8 (fun _ _ => id)) (fun _ _ _ => id)) hnc (by omega) (hb'.out.fr (hF6.out.trans hF8 (fun _ _ => id)) (fun _ _ _ => id)) hmd hm hr8 (by decide)).mono ?_; rintro e w9 ⟨rfl, hf9⟩; have hb9 := hb8.fr hf9 id)
          | (refine step_append_bytes rfl (.tmp 71) (.tmp 73) 22 rfl i5 Tryd.underlying22 hi5 hz5 hs5 hb5 (.slice A7 16 c7) rfl T (by first | with_reducible exact ho7 | with_reducible exact ho7.alloc _) _ _ _ [b] rfl (by first | with_reducible exact lb1 _ b | exact made_lit hf7 (by first | with_reducible exact lb2 _ b _ | with_reducible exact lb1a _ b _) (by omega)) (by rw [lT]; decide) ?_; intro A8 c8 w8 ho8 hf8 hk8; have hf8t : Fr (inBlk (.slice A7 16 c7)) _ w8 := hf8; have hF8 : Fr none_ w6 w8 := (by first | with_reducible exact Fr.far hF7 hf8t hK7 | with_reducible exact Fr.far (hF7.alloc _) hf8t hK7); have hb8 : Blk w8 w.heap.size 57 (tagged A n c z B m d C p q) := hb6.out.fr hF8 id; have hr8 := (ho8.rd rfl).1; rw [lT] at hr8)
          | (refine step_append_bytes rfl (.tmp 69) (.tmp 70) 22 rfl i5 Tryd.underlying22 hi5 hz5 hs5 hb5 (.slice (some ⟨_, 0, none⟩) 0 0) rfl [] (by first | with_reducible exact emp1 _ | with_reducible exact emp1a _ _ | with_reducible exact emp2 _ _) (some ⟨w1.heap.size, 0, none⟩) 16 16 T rfl (by first | with_reducible exact (hr6.out.alloc _).drew | with_reducible exact ((hr6.out.alloc _).alloc _).drew) (by decide) ?_; intro A7 c7 w7 ho7 hf7 hk7; simp only [List.nil_append, List.length_nil, Nat.zero_add] at ho7 hk7; have hF7 : Fr none_ w6 w7 := made_fr hf7 (by first | with_reducible exact ((Fr.refl none_ w6).alloc _).drew | with_reducible exact (((Fr.refl none_ w6).alloc _).alloc _).drew) (by omega); have hK7 : ∀ k, inBlk (.slice A7 16 c7) k → w6.heap.size ≤ k := made_blk hk7 (by first | with_reducible exact ((Fr.refl none_ w6).alloc _).drew | with_reducible exact (((Fr.refl none_ w6).alloc _).alloc _).drew) (by omega); have hb7 : Blk w7 w.heap.size 57 (tagged A n c z B m d C p q) := hb6.out.fr hF7 id))
      all_goals
        go_wp2_with fail
        go_meet
        case rel => exact ⟨rfl, hF8.trans hf9 (fun _ _ => id)⟩
    case rest =>
      obtain ⟨rfl, hfc⟩ := hcut
      have hFc := Lib.hid (hF6.out.trans hfc (fun _ _ => id))
      go_wp2_with fail
      refine (alive3_any _ (hG'.out.fr hFc.out id)).mono ?_
      rintro e wz ⟨rfl, hfz⟩
      go_wp2
      go_ret
      exact ⟨rfl, hFc.out.trans hfz (fun _ _ => id)⟩
end Go.Proofs.YtelhoejoncnccaaDoor
