/- hmac.Sum, by contract. -/
import Derived.Test.YtelhoejoncnccaaDoorE1
namespace Go.Proofs.YtelhoejoncnccaaDoor
open Go Go.RowKit
/-- What stands when the key is ready. -/
structure KeyAt (w V : World) (A : Option Addr) (n c : Nat) (k : List By) : Prop where
  fr : Fr none_ w V
  kb : Blk V w.heap.size 22 [.slice A n c]
  res : Blk V (w.heap.size + 1) 23 (Z32.map bV)
  rd : RdB V A n k
  n64 : n ≤ 64
theorem KeyAt.start (w : World) (A : Option Addr) (n c : Nat) (k : List By) (hr : RdB w A n k) (hn : n ≤ 64) :
    KeyAt w ((w.alloc (.cells #[.slice A n c] 22)).alloc (.cells (Z32.map bV).toArray 23)) A n c k := by
  refine ⟨((Fr.refl _ _).alloc _).alloc _, (Blk.new w 22 [.slice A n c]).alloc _, ?_, (hr.alloc _).alloc _, hn⟩
  have := Blk.new (w.alloc (.cells #[.slice A n c] 22)) 23 (Z32.map bV)
  rwa [World.size_alloc] at this
theorem xor_len {k : List By} {c : By} (h : k.length = 64) : (xorB k c).length = 64 := by rw [xorB, List.length_map]; exact h
theorem begun_is (kb : Nat) (A : Option Addr) (n cap : Nat) (bs : List By) (z : Int) (c : By) (w : World) (hz : z = bI c) (hG : GK w) (hk : w.cell? ⟨kb, 0, none⟩ = some (.slice A n cap)) (hr : RdB w A n bs) (hn : n ≤ 64) :
    Calls Tryd.prog 74 #[.int .u8 z, .pointer (some ⟨kb, 0, none⟩)] w fun e w' => ∃ hb rv, e = .returned (.pointer (some ⟨hb, 0, none⟩)) ∧ Fr none_ w w' ∧ Going w' hb rv (xorB (pad64 bs) c) ∧ w.heap.size ≤ hb ∧ (∀ k, inBlk rv k → w.heap.size ≤ k) := by
  rw [hz]
  exact begun_any kb A n cap bs c w hG hk hr hn
set_option maxRecDepth 100000 in
set_option maxHeartbeats 4000000 in
theorem hmac_any (A : Option Addr) (n c : Nat) (key : List By) (B : Option Addr) (m d : Nat) (bs : List By) (w : World) (hG : GK w) (hk : RdB w A n key) (hnc : n ≤ c) (hn : n ≤ 140737488355000) (hb : RdB w B m bs) (hmd : m ≤ d) (hm : m ≤ 140737488355000) :
    Calls Tryd.prog 33 #[.slice A n c, .slice B m d] w fun e w' => e = .returned (DA (hmacS key bs)) ∧ Fr none_ w w' := by
  have hG' := Lib.hid hG
  have hk' := Lib.hid hk
  have hb' := Lib.hid hb
  have hfin : ∀ k', k' = (if 64 < key.length then sha key else key) → hmacS key bs = sha (xorB (pad64 k') 92 ++ sha (xorB (pad64 k') 54 ++ bs)) := fun k' e => by rw [e]; rfl
  have hfin' := Lib.hid hfin
  have hkl := Lib.hid hk.1
  have hw0 := hG.lt
  clear hG hk hb hfin
  by_cases h64 : 64 < n
  · obtain ⟨D, hD, lD⟩ : ∃ D, D = sha key ∧ D.length = 32 := ⟨_, rfl, rfl⟩
    have hD' := Lib.hid hD
    have hkey : Hid (D = if 64 < key.length then sha key else key) := by rw [if_pos (by rw [hkl.out]; exact h64)]; exact hD'
    clear hD
    go_enter Tryd.func33, Tryd.ntmps33
    go_wp2_with (first
      | (refine wpList_store_row rfl 23 (.tmp 5) (.tmp 14) rfl w1.heap.size (D.map bV).toArray rfl rfl 23 Z32A ha1.out (row_info lD) (row_old lD) (DA_all D) ?_; refine wpList_gen (fun W => Fr none_ w1 W ∧ Blk W w1.heap.size 23 (D.map bV)) ⟨made_row_fr (Fr.refl _ _), made_row⟩ ?_; rintro W ⟨hfW, hB⟩; have cW := (hK1.fr hfW id).cellAt (i := 0) rfl; have fW := (hK1.fr hfW id).free 0)
      | (go_at_call 18; refine (shasum_is D A n c key _ hD'.out (hG'.out.fr (((Fr.refl none_ w).alloc _).alloc _) id) ((hk'.out.alloc _).alloc _) hnc (by omega)).mono ?_; rw [DA]; rintro e w1 ⟨rfl, hf1⟩; have hf1' : Fr none_ ((w.alloc (.cells #[.slice A n c] 22)).alloc (.cells (Z32.map bV).toArray 23)) w1 := hf1; have hK1 := ((Blk.new w 22 [.slice A n c]).alloc (.cells (Z32.map bV).toArray 23)).fr hf1' id; have ha1 := Lib.hid (alloc32' w1)))
    have hf0 : Fr none_ w w1 := (((Fr.refl none_ w).alloc _).alloc _).trans hf1' (fun _ _ => id)
    have hR1 := (show Blk ((w.alloc (.cells #[.slice A n c] 22)).alloc (.cells (Z32.map bV).toArray 23)) (w.heap.size + 1) 23 (Z32.map bV) by have := Blk.new (w.alloc (.cells #[.slice A n c] 22)) 23 (Z32.map bV); rwa [World.size_alloc] at this).fr hf1' id
    have hs1 := hR1.lt
    have hKA : KeyAt w (W.setCell ⟨w.heap.size, 0, none⟩ (.slice (some ⟨w1.heap.size, 0, none⟩) 32 32)) (some ⟨w1.heap.size, 0, none⟩) 32 32 D := by
      refine ⟨(hf0.trans hfW (fun _ _ => id)).setCell (p := ⟨w.heap.size, 0, none⟩) (fun h => absurd h (by simp)) _, (hK1.fr hfW id).store 0 _, (hR1.fr hfW id).far (by simp) _, ?_, by decide⟩
      have := RdB.blk (hB.far (show w1.heap.size ≠ (⟨w.heap.size, 0, none⟩ : Addr).block by simp; omega) (.slice (some ⟨w1.heap.size, 0, none⟩) 32 32))
      rwa [lD] at this
    obtain ⟨kk, hKA', hkey⟩ : ∃ kk, Hid (KeyAt w (W.setCell ⟨w.heap.size, 0, none⟩ (.slice (some ⟨w1.heap.size, 0, none⟩) 32 32)) (some ⟨w1.heap.size, 0, none⟩) 32 32 kk) ∧ Hid (kk = if 64 < key.length then sha key else key) := ⟨D, Lib.hid hKA, hkey⟩
    clear hKA hf1 hf1' hK1 ha1 hfW hB cW fW hf0 hR1 hs1 hD' h64
    refine (begun_is w.heap.size _ _ _ _ 54 54 _ rfl (hG'.out.fr hKA'.out.fr id) (hKA'.out.kb.cellAt rfl) hKA'.out.rd hKA'.out.n64).mono ?_
    rintro e w2 ⟨hb1, rv1, rfl, hf2, hg2, hs2, hr2⟩
    have hf2' := hKA'.out.fr.trans hf2 (fun _ _ => id)
    have hkb := hKA'.out.kb.fr hf2 id
    have hres := hKA'.out.res.fr hf2 id
    have hrd := Lib.hid (hKA'.out.rd.fr hf2 (fun _ _ _ => id))
    have hn64 := hKA'.out.n64
    have hrs := hKA'.out.res.lt
    have hg2' := Lib.hid hg2
    have hpl := Lib.hid (pad64_length (Nat.le_trans (Nat.le_of_eq hKA'.out.rd.1) hKA'.out.n64))
    clear hKA' hf2 hg2
    go_wp2_with fail
    refine (begun_is w.heap.size _ _ _ _ 92 92 _ rfl (hG'.out.fr hf2' id) (hkb.cellAt rfl) hrd.out hn64).mono ?_
    rintro e w3 ⟨hb2, rv2, rfl, hf3, hg3, hs3, hr3⟩
    have hf3' := hf2'.trans hf3 (fun _ _ => id)
    have hres3 := hres.fr hf3 id
    have hgA := hg2'.out.fr hf3 id (fun _ _ => id)
    have hl1 := hg2'.out.lt
    have hl2 := hg2'.out.own.lt
    have hx1 : hb1 < hb2 := by omega
    have hgA' := Lib.hid hgA
    have hg3' := Lib.hid hg3
    clear hg2' hg3 hgA hf2' hres hrd hf3
    go_wp2_with fail
    refine (write_go B m d bs _ hgA'.out (hG'.out.fr hf3' id) (hb'.out.fr hf3' (fun _ _ _ => id)) hmd hm ?_ ?_ ?_).mono ?_
    · intro h0 b o e
      have h1 := hb'.out.lt b o e h0
      exact ⟨by omega, fun h => by have := hr2 b h; omega⟩
    · intro h
      rcases h with h | h
      · omega
      · have := hr2 0 h; omega
    · rw [xor_len hpl.out]; omega
    rintro e w4 ⟨rfl, rv4, hf4, hg4, hk4⟩
    have hofr : ∀ k, touch hb1 rv1 k → w.heap.size + 2 ≤ k := fun k h => by
      rcases h with h | h
      · omega
      · have := hr2 k h; omega
    have hf4' : Fr none_ w w4 := hf3'.trans hf4 (fun b hb h => absurd (hofr b h) (by omega))
    have hres4 := hres3.fr hf4 (fun h => absurd (hofr _ h) (by omega))
    have hgB := hg3'.out.fr hf4 (fun h => by
      rcases h with h | h
      · omega
      · have := hl2 _ h; omega) (fun k hk h => by
      have h1 := hr3 k hk
      rcases h with h | h
      · omega
      · have := hl2 _ h; omega)
    have hgB' := Lib.hid hgB
    have hg4' := Lib.hid hg4
    have hl3 := hg3'.out.lt
    have hl4 := hg3'.out.own.lt
    have hs4 := hf4.size
    obtain ⟨E, hE, lE⟩ : ∃ E, E = sha (xorB (pad64 kk) 54 ++ bs) ∧ E.length = 32 := ⟨_, rfl, rfl⟩
    have hE' := Lib.hid hE
    clear hE hgB hg4 hgA' hg3' hf4 hk4 hres3 hf3' hofr
    go_wp2_with fail
    refine (sum_is E _ hE'.out hg4'.out (by rw [List.length_append, xor_len hpl.out, hb'.out.1]; omega) (hG'.out.fr hf4' id)).mono ?_
    rw [DA]
    rintro e w5 ⟨rfl, hf5⟩
    have ha5 := Lib.hid (alloc32' w5)
    have hf5' := hf4'.trans hf5 (fun _ _ => id)
    have hres5 := hres4.fr hf5 id
    have hgC' := Lib.hid (hgB'.out.fr hf5 id (fun _ _ => id))
    have hs5 := hf5.size
    clear hgB' hg4' hf4' hres4
    go_wp2_with (refine wpList_store_row rfl 23 (.tmp 9) (.tmp 25) rfl w5.heap.size (E.map bV).toArray rfl rfl 23 Z32A ha5.out (row_info lE) (row_old lE) (DA_all E) ?_; refine wpList_gen (fun W => Fr none_ w5 W ∧ Blk W w5.heap.size 23 (E.map bV)) ⟨made_row_fr (Fr.refl _ _), made_row⟩ ?_; rintro W5 ⟨hfW5, hB5⟩)
    have hf6' := hf5'.trans hfW5 (fun _ _ => id)
    have hres6 := hres5.fr hfW5 id
    have hgD' := Lib.hid (hgC'.out.fr hfW5 id (fun _ _ => id))
    have hrd5 := RdB.blk hB5
    rw [lE] at hrd5
    have hrd5' := Lib.hid hrd5
    clear hgC' hf5' hres5 hrd5 hB5 ha5
    refine (write_go (some ⟨w5.heap.size, 0, none⟩) 32 32 E _ hgD'.out (hG'.out.fr hf6' id) hrd5'.out (Nat.le_refl _) (by decide) ?_ ?_ ?_).mono ?_
    · intro _ b o e
      cases e
      exact ⟨by omega, fun h => by have := hl4 _ h; omega⟩
    · intro h
      rcases h with h | h
      · omega
      · have := hr3 0 h; omega
    · rw [xor_len hpl.out]; decide
    rintro e w7 ⟨rfl, rv7, hf7, hg7, hk7⟩
    have hofr : ∀ k, touch hb2 rv2 k → w.heap.size + 2 ≤ k := fun k h => by
      rcases h with h | h
      · omega
      · have := hr3 k h; omega
    have hf7' : Fr none_ w w7 := hf6'.trans hf7 (fun b hb h => absurd (hofr b h) (by omega))
    have hres7 := hres6.fr hf7 (fun h => absurd (hofr _ h) (by omega))
    have hg7' := Lib.hid hg7
    obtain ⟨F, hF, lF⟩ : ∃ F, F = hmacS key bs ∧ F.length = 32 := ⟨_, rfl, hmacS_len _ _⟩
    have hF2 := hF.trans (hfin'.out _ hkey.out)
    rw [← hE'.out] at hF2
    have hF' := Lib.hid hF
    have hF2' := Lib.hid hF2
    clear hF hF2 hg7 hf7 hgD' hf6' hres6 hofr hk7
    go_wp2_with fail
    refine (sum_is F _ hF2'.out hg7'.out (by rw [List.length_append, xor_len hpl.out, lE]; decide) (hG'.out.fr hf7' id)).mono ?_
    rw [DA]
    rintro e w8 ⟨rfl, hf8⟩
    have hR8 := Lib.hid (hres7.fr hf8 id)
    clear hres7
    go_wp2_with (refine wpList_store_row rfl 23 (.tmp 4) (.tmp 30) rfl (w.heap.size + 1) (F.map bV).toArray rfl rfl 23 (Z32.map bV).toArray hR8.out (row_info lF) (row_old lF) (DA_all F) ?_)
    refine bodyPost_ret (results_cell_row rfl _ _ (w.heap.size + 1) 23 (F.map bV).toArray (0, 0) _ rfl (setRow_heap _ _ _ _ _ _ hR8.out) Tryd.underlying23 rfl (row_info lF)) rfl ⟨?_, ?_⟩
    · rw [hF'.out]; rfl
    · exact (hf7'.trans hf8 (fun _ _ => id)).trans (S' := only (w.heap.size + 1)) ⟨rfl, rfl, rfl, by simp, fun k _ hn => setRow_other _ _ _ _ hn⟩ (fun b hb h => absurd h (by unfold only; omega))
  · have hkey : Hid (key = if 64 < key.length then sha key else key) := by
      rw [if_neg (by rw [hkl.out]; exact h64)]; exact Lib.hid rfl
    obtain ⟨kk, hKA', hkey⟩ : ∃ kk, Hid (KeyAt w ((w.alloc (.cells #[.slice A n c] 22)).alloc (.cells (Z32.map bV).toArray 23)) A n c kk) ∧ Hid (kk = if 64 < key.length then sha key else key) := ⟨key, Lib.hid (KeyAt.start w A n c key hk'.out (by omega)), hkey⟩
    go_enter Tryd.func33, Tryd.ntmps33
    go_wp2_with fail
    refine (begun_is w.heap.size _ _ _ _ 54 54 _ rfl (hG'.out.fr hKA'.out.fr id) (hKA'.out.kb.cellAt rfl) hKA'.out.rd hKA'.out.n64).mono ?_
    rintro e w2 ⟨hb1, rv1, rfl, hf2, hg2, hs2, hr2⟩
    have hf2' := hKA'.out.fr.trans hf2 (fun _ _ => id)
    have hkb := hKA'.out.kb.fr hf2 id
    have hres := hKA'.out.res.fr hf2 id
    have hrd := Lib.hid (hKA'.out.rd.fr hf2 (fun _ _ _ => id))
    have hn64 := hKA'.out.n64
    have hrs := hKA'.out.res.lt
    have hg2' := Lib.hid hg2
    have hpl := Lib.hid (pad64_length (Nat.le_trans (Nat.le_of_eq hKA'.out.rd.1) hKA'.out.n64))
    clear hKA' hf2 hg2
    go_wp2_with fail
    refine (begun_is w.heap.size _ _ _ _ 92 92 _ rfl (hG'.out.fr hf2' id) (hkb.cellAt rfl) hrd.out hn64).mono ?_
    rintro e w3 ⟨hb2, rv2, rfl, hf3, hg3, hs3, hr3⟩
    have hf3' := hf2'.trans hf3 (fun _ _ => id)
    have hres3 := hres.fr hf3 id
    have hgA := hg2'.out.fr hf3 id (fun _ _ => id)
    have hl1 := hg2'.out.lt
    have hl2 := hg2'.out.own.lt
    have hx1 : hb1 < hb2 := by omega
    have hgA' := Lib.hid hgA
    have hg3' := Lib.hid hg3
    clear hg2' hg3 hgA hf2' hres hrd hf3
    go_wp2_with fail
    refine (write_go B m d bs _ hgA'.out (hG'.out.fr hf3' id) (hb'.out.fr hf3' (fun _ _ _ => id)) hmd hm ?_ ?_ ?_).mono ?_
    · intro h0 b o e
      have h1 := hb'.out.lt b o e h0
      exact ⟨by omega, fun h => by have := hr2 b h; omega⟩
    · intro h
      rcases h with h | h
      · omega
      · have := hr2 0 h; omega
    · rw [xor_len hpl.out]; omega
    rintro e w4 ⟨rfl, rv4, hf4, hg4, hk4⟩
    have hofr : ∀ k, touch hb1 rv1 k → w.heap.size + 2 ≤ k := fun k h => by
      rcases h with h | h
      · omega
      · have := hr2 k h; omega
    have hf4' : Fr none_ w w4 := hf3'.trans hf4 (fun b hb h => absurd (hofr b h) (by omega))
    have hres4 := hres3.fr hf4 (fun h => absurd (hofr _ h) (by omega))
    have hgB := hg3'.out.fr hf4 (fun h => by
      rcases h with h | h
      · omega
      · have := hl2 _ h; omega) (fun k hk h => by
      have h1 := hr3 k hk
      rcases h with h | h
      · omega
      · have := hl2 _ h; omega)
    have hgB' := Lib.hid hgB
    have hg4' := Lib.hid hg4
    have hl3 := hg3'.out.lt
    have hl4 := hg3'.out.own.lt
    have hs4 := hf4.size
    obtain ⟨E, hE, lE⟩ : ∃ E, E = sha (xorB (pad64 kk) 54 ++ bs) ∧ E.length = 32 := ⟨_, rfl, rfl⟩
    have hE' := Lib.hid hE
    clear hE hgB hg4 hgA' hg3' hf4 hk4 hres3 hf3' hofr
    go_wp2_with fail
    refine (sum_is E _ hE'.out hg4'.out (by rw [List.length_append, xor_len hpl.out, hb'.out.1]; omega) (hG'.out.fr hf4' id)).mono ?_
    rw [DA]
    rintro e w5 ⟨rfl, hf5⟩
    have ha5 := Lib.hid (alloc32' w5)
    have hf5' := hf4'.trans hf5 (fun _ _ => id)
    have hres5 := hres4.fr hf5 id
    have hgC' := Lib.hid (hgB'.out.fr hf5 id (fun _ _ => id))
    have hs5 := hf5.size
    clear hgB' hg4' hf4' hres4
    go_wp2_with (refine wpList_store_row rfl 23 (.tmp 9) (.tmp 25) rfl w5.heap.size (E.map bV).toArray rfl rfl 23 Z32A ha5.out (row_info lE) (row_old lE) (DA_all E) ?_; refine wpList_gen (fun W => Fr none_ w5 W ∧ Blk W w5.heap.size 23 (E.map bV)) ⟨made_row_fr (Fr.refl _ _), made_row⟩ ?_; rintro W5 ⟨hfW5, hB5⟩)
    have hf6' := hf5'.trans hfW5 (fun _ _ => id)
    have hres6 := hres5.fr hfW5 id
    have hgD' := Lib.hid (hgC'.out.fr hfW5 id (fun _ _ => id))
    have hrd5 := RdB.blk hB5
    rw [lE] at hrd5
    have hrd5' := Lib.hid hrd5
    clear hgC' hf5' hres5 hrd5 hB5 ha5
    refine (write_go (some ⟨w5.heap.size, 0, none⟩) 32 32 E _ hgD'.out (hG'.out.fr hf6' id) hrd5'.out (Nat.le_refl _) (by decide) ?_ ?_ ?_).mono ?_
    · intro _ b o e
      cases e
      exact ⟨by omega, fun h => by have := hl4 _ h; omega⟩
    · intro h
      rcases h with h | h
      · omega
      · have := hr3 0 h; omega
    · rw [xor_len hpl.out]; decide
    rintro e w7 ⟨rfl, rv7, hf7, hg7, hk7⟩
    have hofr : ∀ k, touch hb2 rv2 k → w.heap.size + 2 ≤ k := fun k h => by
      rcases h with h | h
      · omega
      · have := hr3 k h; omega
    have hf7' : Fr none_ w w7 := hf6'.trans hf7 (fun b hb h => absurd (hofr b h) (by omega))
    have hres7 := hres6.fr hf7 (fun h => absurd (hofr _ h) (by omega))
    have hg7' := Lib.hid hg7
    obtain ⟨F, hF, lF⟩ : ∃ F, F = hmacS key bs ∧ F.length = 32 := ⟨_, rfl, hmacS_len _ _⟩
    have hF2 := hF.trans (hfin'.out _ hkey.out)
    rw [← hE'.out] at hF2
    have hF' := Lib.hid hF
    have hF2' := Lib.hid hF2
    clear hF hF2 hg7 hf7 hgD' hf6' hres6 hofr hk7
    go_wp2_with fail
    refine (sum_is F _ hF2'.out hg7'.out (by rw [List.length_append, xor_len hpl.out, lE]; decide) (hG'.out.fr hf7' id)).mono ?_
    rw [DA]
    rintro e w8 ⟨rfl, hf8⟩
    have hR8 := Lib.hid (hres7.fr hf8 id)
    clear hres7
    go_wp2_with (refine wpList_store_row rfl 23 (.tmp 4) (.tmp 30) rfl (w.heap.size + 1) (F.map bV).toArray rfl rfl 23 (Z32.map bV).toArray hR8.out (row_info lF) (row_old lF) (DA_all F) ?_)
    refine bodyPost_ret (results_cell_row rfl _ _ (w.heap.size + 1) 23 (F.map bV).toArray (0, 0) _ rfl (setRow_heap _ _ _ _ _ _ hR8.out) Tryd.underlying23 rfl (row_info lF)) rfl ⟨?_, ?_⟩
    · rw [hF'.out]; rfl
    · exact (hf7'.trans hf8 (fun _ _ => id)).trans (S' := only (w.heap.size + 1)) ⟨rfl, rfl, rfl, by simp, fun k _ hn => setRow_other _ _ _ _ hn⟩ (fun b hb h => absurd h (by unfold only; omega))
end Go.Proofs.YtelhoejoncnccaaDoor
