/- The reference's Sum: the digest. -/
import Derived.Test.YtelhoejoncnccaaDoorC3
import Derived.Test.YtelhoejoncnccaaDoorC1
namespace Go.Proofs.YtelhoejoncnccaaDoor
open Go Go.RowKit
theorem number_is (s : ByteArray) (L : List Wd) (n : Nat) (k : Nat) (w : World) (h : (List.range n).map (numAt s) = L) (hs : s.size = 8 * n) (hn : n ≤ 100) (hk : k < n) :
    Calls Tryd.prog 49 #[.string s, .int .i64 k] w fun e w' => e = .returned (.int .u32 (uI (L.getD k 0))) ∧ w' = w := by
  have := number_any s k w (by omega) (by omega)
  rw [show numAt s k = L.getD k 0 by subst h; simp [hk]] at this
  exact this
theorem set_known {l L : List Wd} {n k : Nat} (hl : l.length = n) (hL : L.length = n) (hk : k < n) (h : ∀ j, j < k → l[j]? = L[j]?) : ∀ j, j < k + 1 → (l.set k (L.getD k 0))[j]? = L[j]? := by
  intro j hj
  rw [List.getElem?_set]
  split
  · rename_i e; subst e
    rw [if_pos (by omega), List.getD_eq_getElem?_getD, List.getElem?_eq_getElem (by omega)]
    rfl
  · exact h j (by omega)
theorem all_known {α : Type} {l L : List α} {n : Nat} (hl : l.length = n) (hL : L.length = n) (h : ∀ j, j < n → l[j]? = L[j]?) : l = L := by
  apply List.ext_getElem?
  intro j
  rcases Nat.lt_or_ge j n with hj | hj
  · exact h j hj
  · rw [List.getElem?_eq_none (by omega), List.getElem?_eq_none (by omega)]
theorem blks_snoc (s : St) (p : List By) (k : Nat) : blks s p (k + 1) = blk (blks s p k) ((p.drop (64 * k)).take 64) := by
  induction k generalizing s p with
  | zero => rfl
  | succ k ih =>
    rw [blks, ih]
    simp only [blks, List.drop_drop]
    rw [show 64 + 64 * k = 64 * (k + 1) by omega]
theorem u32_not2 (a : BitVec 32) : bits .xor .u32 (uI a) 4294967295 = uI (~~~ a) := by
  have : (4294967295 : Int) = uI 4294967295#32 := rfl
  rw [this, u32_xor]
  congr 1
  exact BitVec.xor_allOnes
theorem eight_mixed_step (s x : St) {j : Nat} (h : j < 8) :
    (eight (mixed s x (j + 1))) = (eight (mixed s x j)).set j (.int .u32 (uI (s.words.getD j 0 + x.words.getD j 0))) := by
  match j, h with
  | 0, _ => rfl
  | 1, _ => rfl
  | 2, _ => rfl
  | 3, _ => rfl
  | 4, _ => rfl
  | 5, _ => rfl
  | 6, _ => rfl
  | 7, _ => rfl
theorem eight_mixed_at (s x : St) {j : Nat} (h : j < 8) : (eight (mixed s x j))[j]? = some (.int .u32 (uI (s.words.getD j 0))) := by
  match j, h with
  | 0, _ => rfl
  | 1, _ => rfl
  | 2, _ => rfl
  | 3, _ => rfl
  | 4, _ => rfl
  | 5, _ => rfl
  | 6, _ => rfl
  | 7, _ => rfl
def Z8 : Array Value := ((List.replicate 8 (0 : Wd)).map uV).toArray
theorem alloc8 (w : World) : (w.alloc (.cells Z8 78)).heap[w.heap.size]? = some (.cells Z8 78 (0, 0)) := heap_alloc_new w _
attribute [local go_sem] wrap_u32_bI wrap_uI wrap_bI u32_add u32_xor u32_and u32_or u32_not2

set_option maxRecDepth 100000 in
set_option maxHeartbeats 4000000 in
theorem refsum_any (A : Option Addr) (n c : Nat) (bs : List By) (w : World) (hbs : RdB w A n bs) (hn : n ≤ 140737488355000) :
    Calls Tryd.prog 21 #[.slice A n c] w fun e w' => e = .returned (DA (sha bs)) ∧ Fr none_ w w' := by
  have hbs' := Lib.hid hbs
  clear hbs
  go_enter Tryd.func21, Tryd.ntmps21
  go_wp2
  go_loopw [4] (fun i wr => ∃ k : Nat, k ≤ 8 ∧ i = .int .i64 k ∧ Fr none_ w wr ∧ Blk wr w.heap.size 23 (Z32.map bV) ∧ ∃ l : List Wd, l.length = 8 ∧ (∀ j, j < k → l[j]? = st0.words[j]?) ∧ Blk wr (w.heap.size + 1) 78 (l.map uV)) (fun i _ => 8 - (intOf i).toNat)
  case atStart =>
    refine ⟨0, by omega, rfl, ((Fr.refl _ _).alloc _).alloc _, (Blk.new w 23 (Z32.map bV)).alloc _, List.replicate 8 0, rfl, fun j h => by omega, ?_⟩
    have := Blk.new (w.alloc (.cells (Z32.map bV).toArray 23)) 78 ((List.replicate 8 (0 : Wd)).map uV)
    rw [World.size_alloc] at this
    exact this
  case round =>
    obtain ⟨k, hk, rfl, hfr, hR, l, hl, hlj, hS⟩ := hrel
    have hlj' := Lib.hid hlj
    clear hlj
    by_cases hlt : k < 8
    · have ck : (wr.cell? ⟨w.heap.size + 1, k, none⟩).isSome := by rw [hS.cell]; simp; omega
      obtain ⟨v, ck⟩ := Option.isSome_iff_exists.1 ck
      have fk := hS.free k
      go_wp2_with (go_at_call 49; refine (number_is _ st0.words 8 k _ (by decide +kernel) (by decide +kernel) (by decide) hlt).mono ?_; rintro e w' ⟨rfl, rfl⟩)
      go_roundw
      case measure => simp [intOf]; omega
      case rel =>
        refine ⟨k + 1, by omega, by go_num, hfr.setCell (fun h => absurd h (by simp)) _, hR.far (by simp) _, l.set k (st0.words.getD k 0), by simpa using hl, set_known hl rfl hlt hlj'.out, ?_⟩
        rw [List.map_set]
        exact hS.store k _
    · obtain rfl : k = 8 := by omega
      obtain rfl : l = st0.words := all_known hl rfl hlj'.out
      clear hlj' hl hlt
      go_wp2
      obtain ⟨w1, hw1⟩ : ∃ w1 : World, w1 = wr := ⟨_, rfl⟩
      subst hw1
      have hf1 := hfr.size
      have hSl := hS.lt
      go_loopw [6] (fun i wr => ∃ k : Nat, k ≤ 64 ∧ i = .int .i64 k ∧ Fr none_ w1 wr ∧ ∃ l : List Wd, l.length = 64 ∧ (∀ j, j < k → l[j]? = kC[j]?) ∧ Blk wr w1.heap.size 80 (l.map uV)) (fun i _ => 64 - (intOf i).toNat)
      case atStart =>
        exact ⟨0, by omega, rfl, (Fr.refl _ _).alloc _, List.replicate 64 0, rfl, fun j h => by omega, Blk.new w1 80 ((List.replicate 64 (0 : Wd)).map uV)⟩
      case round =>
        obtain ⟨k, hk, rfl, hfr2, l, hl, hlj, hK⟩ := hrel
        have hlj' := Lib.hid hlj
        clear hlj
        by_cases hlt : k < 64
        · have ck : (wr.cell? ⟨w1.heap.size, k, none⟩).isSome := by rw [hK.cell]; simp; omega
          obtain ⟨v, ck⟩ := Option.isSome_iff_exists.1 ck
          have fk := hK.free k
          go_wp2_with (go_at_call 49; refine (number_is _ kC 64 k _ (by decide +kernel) (by decide +kernel) (by decide) hlt).mono ?_; rintro e w' ⟨rfl, rfl⟩)
          refine ⟨?_, ?measure⟩
          apply Exists.intro
          (repeat apply Exists.intro)
          refine ⟨?rel, rfl⟩
          case measure => simp [intOf]; omega
          case rel =>
            refine ⟨k + 1, by omega, by go_num, hfr2.setCell (fun h => absurd h (by simp)) _, l.set k (kC.getD k 0), by simpa using hl, set_known hl rfl hlt hlj'.out, ?_⟩
            rw [List.map_set]
            exact hK.store k _
        · obtain rfl : k = 64 := by omega
          obtain rfl : l = kC := all_known hl rfl hlj'.out
          clear hlj' hl hlt
          have hS2 := hS.fr hfr2 id
          have hR2 := hR.fr hfr2 id
          have hf2 : Fr none_ w wr := hfr.trans hfr2 (fun _ _ => id)
          have hb2 := (hbs'.out.fr hf2 (fun _ _ _ => id))
          have hb2' := Lib.hid hb2
          clear hb2
          go_wp2_with fail
          refine (padded_any A n c bs wr hb2'.out hn).mono ?_
          rintro e w2 ⟨A2, c2, rfl, hP, hf3, hk3⟩
          have hS3 := hS2.fr hf3 id
          have hR3 := hR2.fr hf3 id
          have hK3 := hK.fr hf3 id
          have hf5 := hf2.trans hf3 (fun _ _ => id)
          have hwr := hfr2.size
          have hkl := hK.lt
          obtain ⟨M, hM⟩ : ∃ M, (padded bs).length = 64 * M := by
            refine ⟨(padded bs).length / 64, ?_⟩
            simp [padded, padOf, be8_length, zeros]
            omega
          have hMn : 64 * M ≤ 140737488355000 + 200 ∧ 0 < M := by
            rw [← hM]
            have := hbs'.out.1
            have h2 : 0 < (padded bs).length := by simp [padded, padOf]; omega
            refine ⟨?_, by omega⟩
            simp [padded, padOf, be8_length, zeros]
            omega
          obtain ⟨hM1, hM0⟩ := hMn
          have hrd := hP.rd rfl
          obtain ⟨g, o, rfl, hc⟩ := hrd.1.2 (by omega)
          have hg := hk3 g (hrd.2 g o rfl)
          obtain ⟨A', c', hv, hLc, hcm⟩ := hP.slice
          have hcc : c2 = c' := by injection hv
          clear hv
          subst hcc
          have hcm' : c2 ≤ 9223372036854775807 := hcm
          have hgl : g < w2.heap.size := block_lt_of_cell (hc 0 (by omega))
          obtain ⟨p, hp⟩ : ∃ p, p = padded bs := ⟨_, rfl⟩
          rw [← hp] at hM hLc hc
          rw [hM] at hLc hc
          have hlen : (padded bs).length = 64 * M := by rw [← hp]; exact hM
          rw [hlen]
          have hp' := Lib.hid hp
          have hc' := Lib.hid hc
          have hM' := Lib.hid hM
          clear hp hc hM hrd hP hk3 hlen
          go_wp2
          go_loopw [8] (fun i wx => ∃ k : Nat, k ≤ M ∧ i = .int .i64 (64 * k) ∧ Fr (only (w.heap.size + 1)) w2 wx ∧ Blk wx (w.heap.size + 1) 78 (eight (blks st0 p k))) (fun i _ => 64 * M - (intOf i).toNat)
          case atStart => exact ⟨0, by omega, rfl, Fr.refl _ _, hS3⟩
          case round =>
            obtain ⟨k, hk, rfl, hfx, hSx⟩ := hrel
            by_cases hlt : k < M
            · have hbk : ∀ j, j < 64 → wr.cell? ⟨g, o + 64 * k + j, none⟩ = some (.int .u8 (bI (((p.drop (64 * k)).take 64).getD j 0))) := fun j hj => by
                rw [hfx.cell (by exact hgl) (by show ¬ g = w.heap.size + 1; omega), Nat.add_assoc, hc'.out _ (by omega)]
                simp [List.getD_eq_getElem?_getD, hj]
              have hbk' := Lib.hid hbk
              clear hbk
              obtain ⟨s, hs⟩ : ∃ s, s = blks st0 p k := ⟨_, rfl⟩
              obtain ⟨b, hb⟩ : ∃ b, b = (p.drop (64 * k)).take 64 := ⟨_, rfl⟩
              have hsn : blks st0 p (k + 1) = blk s b := by rw [hs, hb]; exact blks_snoc _ _ _
              rw [← hs] at hSx
              rw [← hb] at hbk'
              have hsn' := Lib.hid hsn
              clear hs hb hsn
              have hR4 := hR3.fr hfx (by unfold only; omega)
              have hK4 := hK3.fr hfx (by unfold only; omega)
              go_wp2_with fail
              refine (words_any g (o + 64 * k) 64 _ b wr (by omega) (by omega) hbk'.out).mono ?_
              rintro e w3 ⟨A3, c3, rfl, ho3, hf6, hk6⟩
              obtain ⟨g3, cap3, hv, hc3⟩ := ho3.cells (by rw [sch_length]; omega)
              rw [sch_length] at hv hc3
              cases hv
              have hc3' := Lib.hid hc3
              have hS5 := hSx.fr hf6 id
              have hK5 := hK4.fr hf6 id
              clear hc3
              have h8 := Lib.hid (alloc8 w3)
              go_wp2_with (first
                | (refine wpList_load_row rfl 78 (.tmp 3) rfl (w.heap.size + 1) rfl 78 (eight s).toArray (0, 0) _ hS5 Tryd.underlying78 rfl (by kernel_rfl) ?_)
                | (refine wpList_store_row rfl 78 (.tmp 10) (.tmp 49) rfl w3.heap.size (eight s).toArray rfl rfl 78 Z8 h8.out (by kernel_rfl) (by kernel_rfl) (by kernel_rfl) ?_))
              go_loopw [11] (fun i wy => ∃ t : Nat, t ≤ 64 ∧ i = .int .i64 t ∧ Fr none_ w3 wy ∧ Blk wy w3.heap.size 78 (eight (rnds b s t))) (fun i _ => 64 - (intOf i).toNat)
              case atStart =>
                refine ⟨0, by omega, rfl, ?_, ?_⟩
                · exact ((Fr.refl none_ w3).alloc _).trans (S' := only w3.heap.size) ⟨rfl, rfl, rfl, by simp, fun k _ hn => setRow_other _ _ _ _ hn⟩ (fun b hb h => absurd h (by unfold only; omega))
                · exact setRow_heap _ _ _ _ _ _ (alloc8 w3)
              case round =>
                obtain ⟨t, ht, rfl, hfy, hX⟩ := hrel
                have hK6 := hK5.fr hfy id
                have hS6 := hS5.fr hfy id
                have hR6 := hR4.fr (hf6.trans hfy (fun _ _ => id)) id
                by_cases hlt2 : t < 64
                · have cw : wr.cell? ⟨g3, t, none⟩ = some (.int .u32 (uI (sw b t))) := by
                    rw [hfy.cell (p := ⟨g3, t, none⟩) (block_lt_of_cell (hc3'.out t hlt2)) id, hc3'.out t hlt2, sch_getD b hlt2]
                  have ck : wr.cell? ⟨w1.heap.size, t, none⟩ = some (.int .u32 (uI (kC.getD t 0))) := by
                    rw [hK6.cell, List.getElem?_map, List.getElem?_eq_getElem (show t < kC.length from hlt2), List.getD_eq_getElem?_getD, List.getElem?_eq_getElem (show t < kC.length from hlt2)]
                    rfl
                  obtain ⟨x, hx⟩ : ∃ x : St, x = rnds b s t := ⟨_, rfl⟩
                  rw [← hx] at hX
                  have HX := Lib.hid hx
                  clear hx
                  have d0 := hX.cellAt (i := 0) rfl
                  have d1 := hX.cellAt (i := 1) rfl
                  have d2 := hX.cellAt (i := 2) rfl
                  have d3 := hX.cellAt (i := 3) rfl
                  have d4 := hX.cellAt (i := 4) rfl
                  have d5 := hX.cellAt (i := 5) rfl
                  have d6 := hX.cellAt (i := 6) rfl
                  have d7 := hX.cellAt (i := 7) rfl
                  go_wp2
                  go_quiet ((go_at_call 52; exact Calls.quiet_of_same (turn_any _ _ _ (by omega) (by omega))))
                  go_wp2
                  go_quiet ((go_at_call 52; exact quiet_add (turn_any _ _ _ (by omega) (by omega))))
                  go_wp2_with (refine wpList_store_row rfl 78 (.tmp 10) (.tmp 130) rfl w3.heap.size (eight (rnd x (kC.getD t 0) (sw b t))).toArray rfl rfl 78 _ (hX.drewN _) (by kernel_rfl) (by kernel_rfl) (by kernel_rfl) ?_)
                  refine ⟨?rel, ?measure⟩
                  case measure => simp [intOf]; omega
                  case rel =>
                    refine ⟨t + 1, by omega, by go_num, (hfy.drewN _).trans (S' := only w3.heap.size) ⟨rfl, rfl, rfl, by simp, fun k _ hn => setRow_other _ _ _ _ hn⟩ (fun b hb h => absurd h (by unfold only; omega)), ?_⟩
                    have e : rnds b s (t + 1) = rnd x (kC.getD t 0) (sw b t) := by
                      rw [HX.out, rnds, sch_getD b hlt2]
                    rw [e]
                    exact setRow_heap _ _ _ _ _ _ (hX.drewN _)
                · obtain rfl : t = 64 := by omega
                  clear hlt2
                  go_wp2
                  obtain ⟨X, hX0⟩ : ∃ X, X = rnds b s 64 := ⟨_, rfl⟩
                  rw [← hX0] at hX
                  have hX0' := Lib.hid hX0
                  clear hX0
                  have hw3 := hfy.size
                  have hsw3 := hS5.lt
                  go_loopw [16] (fun i wz => ∃ j : Nat, j ≤ 8 ∧ i = .int .i64 j ∧ Fr (only (w.heap.size + 1)) w3 wz ∧ Blk wz w3.heap.size 78 (eight X) ∧ Blk wz (w.heap.size + 1) 78 (eight (mixed s X j))) (fun i _ => 8 - (intOf i).toNat)
                  case atStart => exact ⟨0, by omega, rfl, hfy.mono (fun _ _ h => h.elim), hX, hS6⟩
                  case round =>
                    clear hX hS6 hR6 hK6 hfy
                    obtain ⟨j, hj, rfl, hfz, hX, hS6⟩ := hrel
                    by_cases hlt2 : j < 8
                    · have ca := hS6.cellAt (eight_mixed_at s X hlt2)
                      have cb := hX.cellAt (eight_at X hlt2)
                      have fa := hS6.free j
                      go_wp2
                      refine wp_region_quiet_tail 9 (by kernel_rfl) (by kernel_rfl) ?_
                      simp only [List.take_succ_cons, List.take_zero, List.drop_succ_cons, List.drop_zero]
                      repeat (go_big_quiet_step (fail))
                      refine wpQuiet_nil ?_
                      rintro _ ⟨n1, rfl⟩
                      go_wp2
                      refine ⟨?rel, ?measure⟩
                      case measure => simp [intOf]; omega
                      case rel =>
                        refine ⟨j + 1, by omega, by go_num, (hfz.drewN _).setCell (p := ⟨w.heap.size + 1, j, none⟩) (fun _ => rfl) _, (hX.drewN _).far (by show w3.heap.size ≠ w.heap.size + 1; omega) _, ?_⟩
                        rw [eight_mixed_step s X hlt2]
                        exact (hS6.drewN _).store j _
                    · obtain rfl : j = 8 := by omega
                      go_wp2
                      refine ⟨?rel, ?measure⟩
                      case measure => simp [intOf]; omega
                      case rel =>
                        refine ⟨k + 1, by omega, by go_num, ?_, ?_⟩
                        · exact (hfx.trans hf6 (fun _ _ h => h.elim)).trans hfz (fun _ _ h => h)
                        · rw [hsn'.out, blk, ← hX0'.out]
                          exact hS6
            · obtain rfl : k = M := by omega
              obtain ⟨X, hX0⟩ : ∃ X, X = blks st0 p k := ⟨_, rfl⟩
              rw [← hX0] at hSx
              have hXd : digest X = sha bs := by
                rw [hX0, sha, run, ← hp'.out, hM'.out]
                congr 2
                omega
              have hX0' := Lib.hid hXd
              clear hX0 hXd
              have hR4 := hR3.fr hfx (by unfold only; omega)
              have hf8 : Fr none_ w wr := hf5.trans hfx (fun b hb h => absurd h (by unfold only; omega))
              have hRl := hR4.lt
              clear hR3 hfx hf5 hK3
              go_wp2
              obtain ⟨w5, hw5⟩ : ∃ w5 : World, w5 = wr := ⟨_, rfl⟩
              subst hw5
              go_loopw [18] (fun v wz => ∃ i : Nat, i ≤ 32 ∧ v = .int .i64 i ∧ Fr none_ w5 wz ∧ ∃ l : List By, l.length = 32 ∧ (∀ q, q < i → l[q]? = (digest X)[q]?) ∧ Blk wz w5.heap.size 23 (l.map bV)) (fun v _ => 32 - (intOf v).toNat)
              case atStart => exact ⟨0, by omega, rfl, (Fr.refl _ _).alloc _, Z32, rfl, fun q hq => by omega, Blk.new w5 23 (Z32.map bV)⟩
              case round =>
                obtain ⟨i, hi, rfl, hfo, l, hl, hlq, hO⟩ := hrel
                have hlq' := Lib.hid hlq
                clear hlq
                have hSo := hSx.fr hfo id
                have hRo := hR4.fr hfo id
                by_cases hlt2 : i < 32
                · have ck : (wr.cell? ⟨w5.heap.size, i, none⟩).isSome := by rw [hO.cell]; simp; omega
                  obtain ⟨v, ck⟩ := Option.isSome_iff_exists.1 ck
                  have fk := hO.free i
                  have cs := hSo.cellAt (eight_at X (show i / 4 < 8 by omega))
                  go_wp2
                  refine ⟨?rel, ?measure⟩
                  case measure => simp [intOf]; omega
                  case rel =>
                    rw [byte_word]
                    refine ⟨i + 1, by omega, by go_num, hfo.setCell (fun h => absurd h (by simp)) _, l.set i (((X.words[i / 4]?.getD 0) >>> (24 - 8 * (i % 4))).setWidth 8), by simpa using hl, fun q hq => ?_, ?_⟩
                    · rw [List.getElem?_set]
                      split
                      · rename_i e
                        subst e
                        have := digest_at X (i := i / 4) (k := i % 4) (by omega) (by omega)
                        rw [show 4 * (i / 4) + i % 4 = i by omega] at this
                        rw [this, if_pos (by omega)]
                        rfl
                      · exact hlq'.out q (by omega)
                    · rw [List.map_set]
                      exact hO.store _ _
                · obtain rfl : i = 32 := by omega
                  obtain rfl : l = digest X := all_known (n := 32) hl rfl hlq'.out
                  go_wp2_with (first
                    | (refine wpList_load_row rfl 23 (.tmp 17) rfl w5.heap.size rfl 23 ((digest X).map bV).toArray (0, 0) _ hO Tryd.underlying23 rfl (by kernel_rfl) ?_)
                    | (refine wpList_store_row rfl 23 (.tmp 2) (.tmp 161) rfl w.heap.size ((digest X).map bV).toArray rfl rfl 23 _ hRo (by kernel_rfl) (by kernel_rfl) (by kernel_rfl) ?_))
                  refine bodyPost_ret (results_cell_row rfl _ _ w.heap.size 23 ((digest X).map bV).toArray (0, 0) _ rfl (setRow_heap _ _ _ _ _ _ hRo) Tryd.underlying23 rfl (by kernel_rfl)) rfl ⟨?_, ?_⟩
                  · rw [hX0'.out]; rfl
                  · exact (hf8.trans hfo (fun _ _ => id)).trans (S' := only w.heap.size) ⟨rfl, rfl, rfl, by simp, fun k _ hn => setRow_other _ _ _ _ hn⟩ (fun b hb h => absurd h (by unfold only; omega))
end Go.Proofs.YtelhoejoncnccaaDoor
