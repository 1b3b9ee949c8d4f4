/- HMAC's live question; the reference's tag; tags compared. -/
import Derived.Test.YtelhoejoncnccaaDoorE4
import Derived.Test.YtelhoejoncnccaaDoorE5
import Derived.Deep.QuietTactic
import Derived.BigQuiet
namespace Go.Proofs.YtelhoejoncnccaaDoor
open Go Go.RowKit
def jefe : List By := [74, 101, 102, 101]
def what : List By := [119, 104, 97, 116, 32, 100, 111, 32, 121, 97, 32, 119, 97, 110, 116, 32, 102, 111, 114, 32, 110, 111, 116, 104, 105, 110, 103, 63]
theorem live0 : (hmacS jefe what)[0]? = some 91 := by decide +kernel
theorem live1 : (hmacS jefe what)[1]? = some 220 := by decide +kernel
theorem live31 : (hmacS jefe what)[31]? = some 67 := by decide +kernel
theorem jefe_rd (w : World) (o : Obj) : RdB ((w.alloc (.cells #[.int .u8 74, .int .u8 101, .int .u8 102, .int .u8 101] 5 (4, 5))).alloc o) (some ⟨w.heap.size, 0, none⟩) 4 jefe := (RdB.mark w jefe 5 (4, 5)).alloc o
theorem what_rd (w : World) (o : Obj) : RdB ((w.alloc o).alloc (.cells (what.map bV).toArray 5 (28, 29))) (some ⟨w.heap.size + 1, 0, none⟩) 28 what := by
  have := RdB.mark (w.alloc o) what 5 (28, 29)
  rwa [World.size_alloc] at this
theorem kc1 (w : World) (C : Array Value) (n c : Nat) : (convert 22 22 (.slice (some ⟨w.heap.size, 0, none⟩) n c)).run Tryd.prog (w.alloc (.cells C 5)) = .ok (.slice (some ⟨w.heap.size, 0, none⟩) n c) (w.alloc (.cells C 5 (C.size, C.size + 1))) :=
  Lib.run_convert_bytes_const (P := Tryd.prog) w 22 5 C n c Tryd.underlying22 Tryd.underlying5
theorem kc2 (w : World) (o : Obj) (C : Array Value) (n c : Nat) : (convert 22 22 (.slice (some ⟨w.heap.size + 1, 0, none⟩) n c)).run Tryd.prog ((w.alloc o).alloc (.cells C 5)) = .ok (.slice (some ⟨w.heap.size + 1, 0, none⟩) n c) ((w.alloc o).alloc (.cells C 5 (C.size, C.size + 1))) := by
  have := kc1 (w.alloc o) C n c
  rwa [World.size_alloc] at this
set_option maxRecDepth 100000 in
set_option maxHeartbeats 400000 in
theorem alive3_any (w : World) (hG : GK w) : Calls Tryd.prog 34 #[] w fun e w' => e = .returned (.bool true) ∧ Fr none_ w w' := by
  obtain ⟨D, hD, lD, v0, v1, v2⟩ : ∃ D, D = hmacS jefe what ∧ D.length = 32 ∧ (D.map bV)[0]? = some (.int .u8 91) ∧ (D.map bV)[1]? = some (.int .u8 220) ∧ (D.map bV)[31]? = some (.int .u8 67) := ⟨_, rfl, hmacS_len _ _, mapat (b := 91) live0, mapat (b := 220) live1, mapat (b := 67) live31⟩
  have hD' := Lib.hid hD
  have hG' := Lib.hid hG
  clear hD hG
  have hk1 := kc1
  have hk2 := kc2
  go_enter Tryd.func34, Tryd.ntmps34
  go_wp2_with (first
    | (refine wpList_store_row rfl 23 (.tmp 1) (.tmp 6) rfl w1.heap.size (D.map bV).toArray rfl rfl 23 Z32A ha1.out (row_info lD) (row_old lD) (DA_all D) ?_; refine wpList_gen (fun W => Fr none_ w W ∧ Blk W w1.heap.size 23 (D.map bV)) ⟨(((Fr.refl _ _).alloc _).alloc _).trans (made_row_fr hf1) (fun _ _ => id), made_row⟩ ?_; rintro W ⟨hfW, hB⟩; have c0 := hB.cellAt v0; have c1 := hB.cellAt v1; have c2 := hB.cellAt v2)
    | (go_at_call 33; refine (hmac_is D (some ⟨w.heap.size, 0, none⟩) 4 4 jefe (some ⟨w.heap.size + 1, 0, none⟩) 28 28 what _ hD'.out (hG'.out.fr (((Fr.refl none_ w).alloc _).alloc _) id) (jefe_rd w _) (by decide) (by decide) (what_rd w _) (by decide) (by decide)).mono ?_; rintro e w1 ⟨rfl, hf1⟩; have ha1 := Lib.hid (alloc32' w1)))
  go_ret
  exact ⟨rfl, hfW⟩
attribute [local go_sem] wrap_u64
set_option maxRecDepth 100000 in
set_option maxHeartbeats 2000000 in
theorem reftag_any (A : Option Addr) (n c : Nat) (key : List By) (z : Int) (B : Option Addr) (m d : Nat) (data : List By) (w : World) (hk : RdB w A n key) (hn : n ≤ 140737488355000) (hb : RdB w B m data) (hm : m ≤ 140737488351232) :
    Calls Tryd.prog 38 #[.slice A n c, .int .i64 z, .slice B m d] w fun e w' => e = .returned (DA (tagS key z data)) ∧ Fr none_ w w' := by
  obtain ⟨i5, hi5, hz5, hs5, hb5⟩ := info_parts (P := Tryd.prog) (e := 5) (z := .int .u8 0) (size := 1) (bytes := 1) (by kernel_rfl)
  obtain ⟨D, hD, lD⟩ : ∃ D, D = hmacS key (be8 (u64 z) ++ data) ∧ D.length = 32 := ⟨_, rfl, hmacS_len _ _⟩
  obtain ⟨T, hT, lT⟩ : ∃ T, T = D.take 16 ∧ T.length = 16 := ⟨_, rfl, by rw [List.length_take, lD]; rfl⟩
  have hTt : tagS key z data = T := by rw [hT, hD]; rfl
  have hTD : ∀ q, q < 16 → T[q]? = D[q]? := fun q hq => by rw [hT, List.getElem?_take, if_pos hq]
  have hTt' := Lib.hid hTt
  have hD' := Lib.hid hD
  have hTD' := Lib.hid hTD
  have hk' := Lib.hid hk
  have hb' := Lib.hid hb
  have hbl := Lib.hid hb.1
  clear hk hb hD hT hTt hTD
  go_enter Tryd.func38, Tryd.ntmps38
  go_wp2_with fail
  refine (bytes8_any (u64 z) _ (u64_lt z)).mono ?_
  rintro e w1 ⟨v1, he, A1, c1, hv, ho1, hf1, hk1⟩
  rw [be8_length] at hv
  subst hv
  subst he
  have hf1' : Fr none_ (w.alloc (.cells (Z16.map bV).toArray 60)) w1 := hf1
  have hR1 := (Blk.new w 60 (Z16.map bV)).fr hf1' id
  have hF1 := ((Fr.refl none_ w).alloc _).trans hf1 (fun _ _ => id)
  have hk1' : ∀ k, inBlk (.slice A1 8 c1) k → w.heap.size ≤ k := fun k h => by have := hk1 k h; simp at this; omega
  have hRs := hR1.lt
  have hb1' := Lib.hid (hb'.out.fr hF1 (fun _ _ _ => id))
  go_wp2_with (first
    | (refine wpList_store_row rfl 23 (.tmp 8) (.tmp 19) rfl w3.heap.size (D.map bV).toArray rfl rfl 23 Z32A ha3.out (row_info lD) (row_old lD) (DA_all D) ?_; refine wpList_gen (fun W => Fr none_ w2 W ∧ Blk W w3.heap.size 23 (D.map bV)) ⟨made_row_fr hf3, made_row⟩ ?_; rintro W ⟨hfW, hB⟩; have hR3 := (hR2.fr hfW id))
    | (go_at_call 35; refine (refhmac_any A n c key _ _ _ _ _ (hk'.out.fr hF2 (fun _ _ _ => id)) hn (ho2.rd rfl).1 (by omega)).mono ?_; rw [← hD'.out, DA]; rintro e w3 ⟨rfl, hf3⟩; have ha3 := Lib.hid (alloc32' w3))
    | (at_builtin; refine wpList_append_bytes _ rfl (.tmp 14) (.tmp 15) 22 rfl i5 Tryd.underlying22 hi5 hz5 hs5 hb5 (.slice A1 8 c1) rfl (be8 (u64 z)) ho1 B m d data rfl hb1'.out (by rw [be8_length]; omega) ?_; intro v2 w2 ho2 hf2 hk2; obtain ⟨A2, c2, hv2, hc2, hm2⟩ := ho2.slice; rw [List.length_append, be8_length, hbl.out] at hv2 hc2; subst hv2; have hF2 := Fr.far hF1 hf2 hk1'; have hR2 := hR1.fr hf2 (ho1.ne hR1 (by decide))))
  have hWs := hB.lt
  have hF3 := hF2.trans hfW (fun _ _ => id)
  clear hR1 hf1' hF1 hk1' hk1 hf1 ho1 ho2 hf2 hk2 hF2 hR2 ha3 hfW hf3
  go_loopw [10] (fun v wr => ∃ (i : Nat) (l : List By), v = .int .i64 i ∧ i ≤ 16 ∧ l.length = 16 ∧ (∀ q, q < i → l[q]? = T[q]?) ∧ Fr none_ W wr ∧ Blk wr W.heap.size 60 (l.map bV)) (fun v _ => 16 - (intOf v).toNat)
  case atStart => exact ⟨0, Z16, rfl, by omega, rfl, fun q hq => by omega, (Fr.refl _ _).alloc _, Blk.new W 60 (Z16.map bV)⟩
  case round =>
    obtain ⟨i, l, rfl, hi, hl, hlq, hfr, hL⟩ := hrel
    have hl' := Lib.hid hl
    have hlq' := Lib.hid hlq
    clear hl hlq
    have hB2 := hB.fr hfr id
    by_cases hlt : i < 16
    · have ck : (wr.cell? ⟨W.heap.size, i, none⟩).isSome := by rw [hL.cell]; simp [hl'.out]; omega
      obtain ⟨v, ck⟩ := Option.isSome_iff_exists.1 ck
      have fk := hL.free i
      obtain ⟨x, hx⟩ : ∃ x, D[i]? = some x := ⟨_, List.getElem?_eq_getElem (by omega)⟩
      have cx : wr.cell? ⟨w3.heap.size, i, none⟩ = some (.int .u8 (bI x)) := hB2.cellAt (mapat hx)
      have hx' := Lib.hid hx
      clear hx
      go_wp2
      go_roundw
      case measure => simp [intOf]; omega
      case rel =>
        refine ⟨i + 1, l.set i x, by go_num, by omega, by simpa using hl'.out, fun q hq => ?_, hfr.setCell (p := ⟨W.heap.size, i, none⟩) (fun h => absurd h (by simp)) _, ?_⟩
        · rw [List.getElem?_set]
          split
          · rename_i e
            subst e
            rw [if_pos (by rw [hl'.out]; exact hlt), hTD'.out _ hlt, hx'.out]
          · exact hlq'.out q (by omega)
        · rw [List.map_set]
          exact hL.store i _
    · obtain rfl : i = 16 := by omega
      obtain rfl : l = T := all_known hl'.out lT hlq'.out
      have hR4 := hR3.fr hfr id
      clear hlt hlq' hl'
      go_wp2_with (first
        | (refine wpList_load_row rfl 60 (.tmp 9) rfl W.heap.size rfl 60 (l.map bV).toArray (0, 0) _ hL Tryd.underlying60 rfl (row16 lT) ?_)
        | (refine wpList_store_row rfl 60 (.tmp 6) (.tmp 29) rfl w.heap.size (l.map bV).toArray rfl rfl 60 (Z16.map bV).toArray hR4 (row16 lT) (old16 lT) (DA_all l) ?_))
      refine bodyPost_ret (results_cell_row rfl _ _ w.heap.size 60 (l.map bV).toArray (0, 0) _ rfl (setRow_heap _ _ _ _ _ _ hR4) Tryd.underlying60 rfl (row16 lT)) rfl ⟨?_, ?_⟩
      · rw [hTt'.out]; rfl
      · exact (hF3.trans hfr (fun _ _ => id)).trans (S' := only w.heap.size) ⟨rfl, rfl, rfl, by simp, fun k _ hn => setRow_other _ _ _ _ hn⟩ (fun b hb h => absurd h (by unfold only; omega))
attribute [local go_sem] strOf_beq
set_option maxRecDepth 100000 in
set_option maxHeartbeats 1000000 in
theorem refright_any (A : Option Addr) (n c : Nat) (key : List By) (z : Int) (B : Option Addr) (m d : Nat) (data : List By) (C : Option Addr) (p q : Nat) (tag : List By) (w : World) (hk : RdB w A n key) (hn : n ≤ 140737488355000) (hb : RdB w B m data) (hm : m ≤ 140737488351232) (ht : RdB w C p tag) :
    Calls Tryd.prog 40 #[.slice A n c, .int .i64 z, .slice B m d, .slice C p q] w fun e w' => e = .returned (.bool (tagS key z data == tag)) ∧ Fr none_ w w' := by
  obtain ⟨T, hT, lT⟩ : ∃ T, T = tagS key z data ∧ T.length = 16 := ⟨_, rfl, tagS_len _ _ _⟩
  have hT' := Lib.hid hT
  have ht' := Lib.hid ht
  clear hT ht
  go_enter Tryd.func40, Tryd.ntmps40
  go_wp2_with (first
    | (refine wpList_store_row rfl 60 (.tmp 9) (.tmp 13) rfl w1.heap.size (T.map bV).toArray rfl rfl 60 (Z16.map bV).toArray ha1.out (row16 lT) (old16 lT) (DA_all T) ?_; refine wpList_gen (fun W => Fr none_ w W ∧ Blk W w1.heap.size 60 (T.map bV)) ⟨(hf1.alloc _).trans (S' := only w1.heap.size) ⟨rfl, rfl, rfl, by simp, fun k _ hn => setRow_other _ _ _ _ hn⟩ (fun b hb e => absurd hf1.size (by unfold only at e; omega)), setRow_heap _ _ _ _ _ _ ha1.out⟩ ?_; rintro W ⟨hfW, hB⟩)
    | (go_at_call 38; refine (reftag_any A n c key z B m d data _ hk hn hb hm).mono ?_; rw [← hT'.out, DA]; rintro e w1 ⟨rfl, hf1⟩; have ha1 := Lib.hid (heap_alloc_new w1 (.cells (Z16.map bV).toArray 60))))
  have q1 := fun k => run_string (c := 16) (show RdB (W.drewN k) (some ⟨w1.heap.size, 0, none⟩) 16 T by have := RdB.blk (hB.drewN k); rwa [lT] at this)
  have q2 := fun k => run_string (c := q) (ht'.out.fr (hfW.drewN k) (fun _ _ _ => id))
  go_frame
  go_quiet (fail)
  go_wp2
  go_ret
  exact ⟨by rw [hT'.out]; rfl, hfW.drewN _⟩
end Go.Proofs.YtelhoejoncnccaaDoor
