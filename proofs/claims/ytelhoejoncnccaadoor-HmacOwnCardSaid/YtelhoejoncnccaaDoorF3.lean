/- The law of parts: the walk. -/
import Derived.Test.YtelhoejoncnccaaDoorF1
import Derived.Test.YtelhoejoncnccaaDoorE7
namespace Go.Proofs.YtelhoejoncnccaaDoor
open Go Go.RowKit
theorem tag_is (D : List By) (A : Option Addr) (n c : Nat) (key : List By) (z : Int) (B : Option Addr) (m d : Nat) (data : List By) (w : World) (hD : D = tagS key z data) (hG : GK w) (hk : RdB w A n key) (hnc : n ≤ c) (hn : n ≤ 140737488355000) (hb : RdB w B m data) (hmd : m ≤ d) (hm : m ≤ 140737488351232) :
    Calls Tryd.prog 37 #[.slice A n c, .int .i64 z, .slice B m d] w fun e w' => e = .returned (DA D) ∧ Fr none_ w w' := by
  rw [hD]
  exact tag_any A n c key z B m d data w hG hk hnc hn hb hmd hm
/-- The box of a law's argument. -/
def tagged (A : Option Addr) (n c : Nat) (z : Int) (B : Option Addr) (m d : Nat) (C : Option Addr) (p q : Nat) : List Value := [.slice A n c, .int .i64 z, .slice B m d, .slice C p q]
attribute [local go_sem] wrap_u64 strOf_beq
set_option maxRecDepth 100000 in
set_option maxHeartbeats 2000000 in
theorem hmacParts_any (A : Option Addr) (n c : Nat) (key : List By) (z : Int) (B : Option Addr) (m d : Nat) (data : List By) (C : Option Addr) (p q : Nat) (w : World) (hG : GK w) (hk : RdB w A n key) (hnc : n ≤ c) (hn : n ≤ 140737488351232) (hb : RdB w B m data) (hmd : m ≤ d) (hm : m ≤ 140737488351232) :
    Calls Tryd.prog 10 #[.agg #[.slice A n c, .int .i64 z, .slice B m d, .slice C p q]] w fun e w' => e = .returned (.bool true) ∧ Fr none_ w w' := by
  obtain ⟨i5, hi5, hz5, hs5, hb5⟩ := info_parts (P := Tryd.prog) (e := 5) (z := .int .u8 0) (size := 1) (bytes := 1) (by kernel_rfl)
  have hbl := Lib.hid hb.1
  have hG' := Lib.hid hG
  have hk' := Lib.hid hk
  have hb' := Lib.hid hb
  clear hG hk hb
  obtain ⟨D, hD, lD⟩ : ∃ D, D = hmacS key (be8 (u64 z) ++ data) ∧ D.length = 32 := ⟨_, rfl, hmacS_len _ _⟩
  obtain ⟨T, hT, lT⟩ : ∃ T, T = D.take 16 ∧ T.length = 16 := ⟨_, rfl, by rw [List.length_take, lD]; rfl⟩
  have hTt : T = tagS key z data := by rw [hT, hD]; rfl
  have hTt' := Lib.hid hTt
  have hD' := Lib.hid hD
  have hT' := Lib.hid hT
  clear hD hT hTt
  have hbox := Lib.hid (Blk.new w 57 (tagged A n c z B m d C p q))
  go_enter Tryd.func10, Tryd.ntmps10
  go_wp2
  have hS : (w.alloc (.cells #[.slice A n c, .int .i64 z, .slice B m d, .slice C p q] 57)).drew.cell? ⟨w.heap.size, 1, none⟩ = some (.int .i64 z) ∧ (w.alloc (.cells #[.slice A n c, .int .i64 z, .slice B m d, .slice C p q] 57)).drew.cell? ⟨w.heap.size, 2, none⟩ = some (.slice B m d) := ⟨hbox.out.cellAt (i := 1) rfl, hbox.out.cellAt (i := 2) rfl⟩
  have hS' := Lib.hid hS
  clear hS
  go_region_held3 (fun X => X.cell? ⟨w.heap.size, 1, none⟩ = some (.int .i64 z) ∧ X.cell? ⟨w.heap.size, 2, none⟩ = some (.slice B m d)) (first | exact hS'.out | exact ⟨(hb1.cellAt (i := 1) rfl), (hb1.cellAt (i := 2) rfl)⟩ | exact ⟨(hb2.cellAt (i := 1) rfl), (hb2.cellAt (i := 2) rfl)⟩)
    (first
      | (refine step_append_bytes rfl (.tmp 9) (.tmp 11) 22 rfl i5 Tryd.underlying22 hi5 hz5 hs5 hb5 (.slice A1 8 c1) rfl (be8 (u64 z)) ho1 B m d data rfl (hb'.out.fr hF1 (fun _ _ _ => id)) (by rw [be8_length]; omega) ?_; intro A2 c2 w2 ho2 hf2 hk2; have hb2 := hb1.fr (show Fr (inBlk (.slice A1 8 c1)) w1 w2 from hf2) (ho1.ne hb1 (by decide)))
      | (go_at_call 36; refine (bytes8_any (u64 z) _ (u64_lt z)).mono ?_; rintro e w1 ⟨v1, he, A1, c1, hv, ho1, hf1, hk1⟩; rw [be8_length] at hv; subst hv; subst he; have hb1 := hbox.out.drew.fr (show Fr none_ (w.alloc (.cells (tagged A n c z B m d C p q).toArray 57)).drew w1 from hf1) id; have hF1 := (((Fr.refl none_ w).alloc _).drew.trans hf1 (fun _ _ => id))))
  have h8 : (be8 (u64 z)).length ≤ 8 ∧ 8 ≤ (be8 (u64 z)).length := by rw [be8_length]; exact ⟨Nat.le_refl _, Nat.le_refl _⟩
  have hf2' : Fr (inBlk (.slice A1 8 c1)) w1 w2 := hf2
  have hF2 := Lib.hid (Fr.far hF1 hf2' (fun k h => by have := hk1 k h; simp at this; omega))
  obtain ⟨A5, c5, hv5, hc5, _⟩ := ho2.slice
  rw [List.length_append, hbl.out] at hv5 hc5
  obtain rfl : c2 = c5 := by injection hv5
  have hrd2 := Lib.hid (ho2.rd rfl).1
  have k0 := hb2.cellAt (i := 0) rfl
  have hb2' := Lib.hid hb2
  clear hv5 ho2 hf2 hf2' hk2 hF1 hf1 hk1 ho1 hb1 hS' hbox hb2
  go_wp2_with (first
    | (refine wpList_store_row rfl 60 (.tmp 5) (.tmp 23) rfl w4.heap.size (T.map bV).toArray rfl rfl 60 (Z16.map bV).toArray ha4.out (row16 lT) (old16 lT) (DA_all T) ?_; refine wpList_gen (fun V => Fr none_ W V ∧ Blk V w4.heap.size 60 (T.map bV)) ⟨(hf4.alloc _).trans (S' := only w4.heap.size) ⟨rfl, rfl, rfl, by simp, fun k _ hn => setRow_other _ _ _ _ hn⟩ (fun b hb e => absurd hf4.size (by unfold only at e; omega)), setRow_heap _ _ _ _ _ _ ha4.out⟩ ?_; rintro V ⟨hfV, hC⟩)
    | (go_at_call 37; refine (tag_is T A n c key z B m d data _ hTt'.out (hG'.out.fr hFW.out id) (hk'.out.fr hFW.out (fun _ _ _ => id)) hnc (by omega) (hb'.out.fr hFW.out (fun _ _ _ => id)) hmd hm).mono ?_; rw [DA]; rintro e w4 ⟨rfl, hf4⟩; have ha4 := Lib.hid (heap_alloc_new w4 (.cells (Z16.map bV).toArray 60)))
    | (refine wpList_store_row rfl 23 (.tmp 4) (.tmp 16) rfl w3.heap.size (D.map bV).toArray rfl rfl 23 Z32A ha3.out (row_info lD) (row_old lD) (DA_all D) ?_; refine wpList_gen (fun W => Fr none_ w2 W ∧ Blk W w3.heap.size 23 (D.map bV)) ⟨made_row_fr hf3, made_row⟩ ?_; rintro W ⟨hfW, hB⟩; have hFW := Lib.hid (hF2.out.trans hfW (fun _ _ => id)); have hb3 := hb2'.out.fr hfW id; have k0 := hb3.cellAt (i := 0) rfl; have k1 := hb3.cellAt (i := 1) rfl; have k2 := hb3.cellAt (i := 2) rfl)
    | (go_at_call 33; refine (hmac_is D A n c key A2 _ c2 (be8 (u64 z) ++ data) _ hD'.out (hG'.out.fr hF2.out id) (hk'.out.fr hF2.out (fun _ _ _ => id)) hnc (by omega) hrd2.out hc5 (by omega)).mono ?_; rw [DA]; rintro e w3 ⟨rfl, hf3⟩; have ha3 := Lib.hid (alloc32' w3)))
  have hFV := Lib.hid (hFW.out.trans hfV (fun _ _ => id))
  have hrT : RdB V (some ⟨w4.heap.size, 0, none⟩) 16 T := by have := RdB.blk hC; rwa [lT] at this
  have hrD : RdB V (some ⟨w3.heap.size, 0, none⟩) 16 T := by
    have := (RdB.blk (hB.fr hfV id)).front (k := 16) (by rw [lD]; decide)
    rwa [← hT'.out] at this
  have hrT' := Lib.hid hrT
  have hrD' := Lib.hid hrD
  clear hrT hrD hC hB hfV hfW k0 k1 k2 hb3 ha3 ha4 hf3 hf4
  have hS : ∀ X, Fr none_ V X → (convert 22 9 (.slice (some ⟨w4.heap.size, 0, none⟩) 16 16)).run Tryd.prog X = .ok (.string (strOf T)) X ∧ (convert 22 9 (.slice (some ⟨w3.heap.size, 0, none⟩) 16 32)).run Tryd.prog X = .ok (.string (strOf T)) X := fun X hf =>
    ⟨run_string (c := 16) (hrT'.out.fr hf (fun _ _ _ => id)), run_string (c := 32) (hrD'.out.fr hf (fun _ _ _ => id))⟩
  have hS' := Lib.hid hS
  clear hS
  go_region_held3 (fun X => (convert 22 9 (.slice (some ⟨w4.heap.size, 0, none⟩) 16 16)).run Tryd.prog X = .ok (.string (strOf T)) X ∧ (convert 22 9 (.slice (some ⟨w3.heap.size, 0, none⟩) 16 32)).run Tryd.prog X = .ok (.string (strOf T)) X) (first | exact hS'.out _ (Fr.refl none_ V).drew | exact hS'.out _ ((Fr.refl none_ V).drew.trans hfX (fun _ _ => id)))
    (first
      | (go_at_call 34; refine (alive3_any _ (hG'.out.fr hFV.out.drew id)).mono ?_; rintro e X ⟨rfl, hfX⟩))
  go_wp2
  go_ret
  exact ⟨rfl, hFV.out.drew.trans hfX (fun _ _ => id)⟩
end Go.Proofs.YtelhoejoncnccaaDoor
