/- (*Hash).block: a block is taken in: the state is the compression's, all else is as it was. -/
import Derived.Test.YtelhoejoncnccaaDoorB2
import Derived.Test.YtelhoejoncnccaaDoorB3
namespace Go.Proofs.YtelhoejoncnccaaDoor
open Go Go.RowKit

attribute [local go_sem] wrap_u32_bI wrap_uI wrap_bI u32_add u32_xor u32_and u32_or u32_not

set_option maxRecDepth 100000 in
set_option maxHeartbeats 4000000 in
theorem block_any (hb bb bo n c : Nat) (w : World) (s : St) (rest nv : Value) (bs : List By) (hn : 64 ≤ n) (hnc : n ≤ 9223372036854775807)
    (hbs : ∀ j, j < 64 → w.cell? ⟨bb, bo + j, none⟩ = some (.int .u8 (bI (bs.getD j 0)))) (hH : Blk w hb 86 (heads s rest nv)) (hG : GK w) :
    Calls Tryd.prog 53 #[.pointer (some ⟨hb, 0, none⟩), .slice (some ⟨bb, bo, none⟩) n c] w fun e w' =>
      e = .returned (.tuple #[]) ∧ Fr (only hb) w w' ∧ Blk w' hb 86 (heads (blk s bs) rest nv) := by
  have hbb : bb < w.heap.size := block_lt_of_cell (hbs 0 (by omega))
  have hG' := Lib.hid hG
  have hH' := Lib.hid hH
  have hhb := hH.lt
  clear hG hH
  go_enter Tryd.func53, Tryd.ntmps53
  go_wp2
  go_loopw [18] (fun i wr => ∃ k : Nat, k ≤ 16 ∧ i = .int .i64 k ∧ Fr none_ w wr ∧ ∃ l : List Wd, l.length = 64 ∧ (∀ j, j < k → l[j]? = some (sw bs j)) ∧ Blk wr w.heap.size 80 (l.map uV)) (fun i _ => 16 - (intOf i).toNat)
  case atStart =>
    exact ⟨0, by omega, rfl, (Fr.refl _ _).alloc _, List.replicate 64 0, rfl, fun j h => by omega, Blk.new _ _ _⟩
  case round =>
    obtain ⟨k, hk, rfl, hfr, l, hl, hlj, hblk⟩ := hrel
    have hlj' := Lib.hid hlj
    have hbs' := Lib.hid hbs
    clear hlj hbs
    by_cases hlt : k < 16
    · have c0 : wr.cell? ⟨bb, bo + 4 * k, none⟩ = some (.int .u8 (bI (bs.getD (4 * k) 0))) := (hfr.cell (by exact hbb) (by exact id)).trans (hbs'.out _ (by omega))
      have c1 : wr.cell? ⟨bb, bo + (4 * k + 1), none⟩ = some (.int .u8 (bI (bs.getD (4 * k + 1) 0))) := (hfr.cell (by exact hbb) (by exact id)).trans (hbs'.out _ (by omega))
      have c2 : wr.cell? ⟨bb, bo + (4 * k + 2), none⟩ = some (.int .u8 (bI (bs.getD (4 * k + 2) 0))) := (hfr.cell (by exact hbb) (by exact id)).trans (hbs'.out _ (by omega))
      have c3 : wr.cell? ⟨bb, bo + (4 * k + 3), none⟩ = some (.int .u8 (bI (bs.getD (4 * k + 3) 0))) := (hfr.cell (by exact hbb) (by exact id)).trans (hbs'.out _ (by omega))
      have ck : (wr.cell? ⟨w.heap.size, k, none⟩).isSome := by rw [hblk.cell]; simp; omega
      obtain ⟨v, ck⟩ := Option.isSome_iff_exists.1 ck
      have fk := hblk.free k
      go_wp2
      refine wp_region_quiet_tail 35 (by kernel_rfl) (by kernel_rfl) ?_
      simp only [List.take_succ_cons, List.take_zero, List.drop_succ_cons, List.drop_zero]
      repeat (go_big_quiet_step (fail))
      refine wpQuiet_nil ?_
      rintro _ ⟨nq, rfl⟩
      go_wp2
      go_roundw
      case measure => simp [intOf]; omega
      case rel =>
        rw [word4_eq]
        refine ⟨k + 1, by omega, by go_num, (hfr.drewN nq).setCell (fun h => absurd h (by simp)) _, l.set k (sw bs k), by simpa using hl, fun j hj => ?_, ?_⟩
        · rw [List.getElem?_set]
          split
          · rename_i e; subst e; simp; omega
          · exact hlj'.out j (by omega)
        · have := (hblk.drewN nq).store k (uV (sw bs k))
          rw [← List.map_set] at this
          rw [sw_lo bs hlt] at this ⊢
          exact this
    · go_wp2
      obtain rfl : k = 16 := by omega
      clear hlt
      go_loopw [7] (fun i wr => ∃ k : Nat, 16 ≤ k ∧ k ≤ 64 ∧ i = .int .i64 k ∧ Fr none_ w wr ∧ ∃ l : List Wd, l.length = 64 ∧ (∀ j, j < k → l[j]? = some (sw bs j)) ∧ Blk wr w.heap.size 80 (l.map uV)) (fun i _ => 64 - (intOf i).toNat)
      case atStart => exact ⟨16, by omega, by omega, rfl, hfr, l, hl, hlj'.out, hblk⟩
      case round =>
        clear hlj' hl hblk hfr
        obtain ⟨k, hk0, hk, rfl, hfr, l, hl, hlj, hblk⟩ := hrel
        have hlj' := Lib.hid hlj
        clear hlj
        by_cases hlt : k < 64
        · have cell : ∀ j, j < k → wr.cell? ⟨w.heap.size, j, none⟩ = some (.int .u32 (uI (sw bs j))) := fun j hj => by
            rw [hblk.cell, List.getElem?_map, hlj'.out j hj]; rfl
          have c2 := cell (k - 2) (by omega)
          have c15 := cell (k - 15) (by omega)
          have c7 := cell (k - 7) (by omega)
          have c16 := cell (k - 16) (by omega)
          have ck : (wr.cell? ⟨w.heap.size, k, none⟩).isSome := by rw [hblk.cell]; simp; omega
          obtain ⟨v, ck⟩ := Option.isSome_iff_exists.1 ck
          have fk := hblk.free k
          clear cell
          go_wp2
          go_quiet (fail)
          go_wp2
          refine wp_region_quiet_tail 32 (by kernel_rfl) (by kernel_rfl) ?_
          simp only [List.take_succ_cons, List.take_zero, List.drop_succ_cons, List.drop_zero]
          repeat (go_big_quiet_step ((go_at_call 83; exact quiet_add (right_any _ _ _ (by omega) (by omega)))))
          refine wpQuiet_nil ?_
          rintro _ ⟨n2, rfl⟩
          go_wp2
          go_roundw
          case measure => simp [intOf]; omega
          case rel =>
            rw [sched_eq, ← sw_hi bs hk0]
            refine ⟨k + 1, by omega, by omega, by go_num, (hfr.drewN _).setCell (fun h => absurd h (by simp)) _, l.set k (sw bs k), by simpa using hl, fun j hj => ?_, ?_⟩
            · rw [List.getElem?_set]
              split
              · rename_i e; subst e; simp; omega
              · exact hlj'.out j (by omega)
            · rw [List.map_set]
              exact (hblk.drewN _).store k (uV (sw bs k))
        · obtain rfl : k = 64 := by omega
          clear hlt
          have hH1 := hH'.out.fr hfr id
          have hf1 := hG'.out.fr hfr id
          obtain ⟨tt, fr, hg1⟩ := hf1
          have e0 := hH1.cellAt (i := 0) rfl
          have e1 := hH1.cellAt (i := 1) rfl
          have e2 := hH1.cellAt (i := 2) rfl
          have e3 := hH1.cellAt (i := 3) rfl
          have e4 := hH1.cellAt (i := 4) rfl
          have e5 := hH1.cellAt (i := 5) rfl
          have e6 := hH1.cellAt (i := 6) rfl
          have e7 := hH1.cellAt (i := 7) rfl
          have hg2 : ∀ o, (wr.alloc o).heap[0]? = some (.cells KA tt fr) := fun o => (Below.heap_alloc wr o 0 (lt_of_block hg1)).trans hg1
          have HG2 := Lib.hid hg2
          clear hg1 hg2
          go_wp2_with (refine wpList_load_row rfl 80 _ rfl 0 rfl tt KA fr _ (HG2.out _) Tryd.underlying80 rfl (by kernel_rfl) ?_)
          clear e0 e1 e2 e3 e4 e5 e6 e7
          obtain ⟨w1, hw1⟩ : ∃ w1 : World, w1 = wr := ⟨_, rfl⟩
          subst hw1
          go_loopw [107] (fun i wr => ∃ t : Nat, t ≤ 64 ∧ i = .int .i64 t ∧ Fr none_ w1 wr ∧ Blk wr w1.heap.size 78 (eight (rnds bs s t))) (fun i _ => 64 - (intOf i).toNat)
          case atStart => exact ⟨0, by omega, rfl, (Fr.refl _ _).alloc _, Blk.new _ _ _⟩
          case round =>
            obtain ⟨t, ht, rfl, hfr2, hS⟩ := hrel
            have hHw := hblk.fr hfr2 id
            by_cases hlt : t < 64
            · have cw : wr.cell? ⟨w.heap.size, t, none⟩ = some (.int .u32 (uI (sw bs t))) := by
                rw [hHw.cell, List.getElem?_map, hlj'.out t (by omega)]; rfl
              have hG0 : ∀ m, Blk (wr.drewN m) w1.heap.size 78 (eight (rnds bs s t)) := fun m => hS.drewN m
              obtain ⟨x, hx⟩ : ∃ x : St, x = rnds bs s t := ⟨_, rfl⟩
              rw [← hx] at hG0 hS
              have HX := Lib.hid hx
              clear hx
              have hcp : ∃ W2 : Nat → World, (∀ m, (Builtin.copy_ #[81, 81] 3 #[.slice (some ⟨w1.heap.size, 1, none⟩) 7 7, .slice (some ⟨w1.heap.size, 0, none⟩) 7 8]).run Tryd.prog (wr.drewN m) = .ok (.int .i64 7) (W2 m)) ∧
                  (∀ m, Blk (W2 m) w1.heap.size 78 [.int .u32 (uI x.a), .int .u32 (uI x.a), .int .u32 (uI x.b), .int .u32 (uI x.c), .int .u32 (uI x.d), .int .u32 (uI x.e), .int .u32 (uI x.f), .int .u32 (uI x.g)]) ∧ (∀ m, Fr none_ w1 (W2 m)) := by
                refine ⟨fun m => (wr.drewN m).setRow w1.heap.size _, fun m => ?_, fun m => setRow_heap _ _ _ _ _ _ (hG0 m), fun m => ?_⟩
                · exact run_copy_row Tryd.prog (wr.drewN m) 81 81 3 77 w1.heap.size 1 7 7 ⟨w1.heap.size, 0, none⟩ 7 8 (eight x).toArray 78 ((eight x).take 7) Tryd.underlying81 (by kernel_rfl) (hG0 m) rfl
                    (fun j v hj => by
                      rw [Addr.add_lit, (hG0 m).cell, Nat.zero_add]
                      rw [List.getElem?_take] at hj
                      split at hj
                      · exact hj
                      · cases hj) (by simp [eight]) (eight_one x)
                · exact hfr2.trans (S' := only w1.heap.size) ⟨rfl, rfl, rfl, by simp, fun k _ hn => setRow_other _ _ _ _ hn⟩ (fun b hb hs => absurd hs (by unfold only; omega))
              obtain ⟨W2, hcp, hB2, hF2⟩ := hcp
              have d0 := hS.cellAt (i := 0) rfl
              have d1 := hS.cellAt (i := 1) rfl
              have d2 := hS.cellAt (i := 2) rfl
              have d4 := hS.cellAt (i := 4) rfl
              have d5 := hS.cellAt (i := 5) rfl
              have d6 := hS.cellAt (i := 6) rfl
              have d7 := hS.cellAt (i := 7) rfl
              have g0 := fun m => (hB2 m).cellAt (i := 0) rfl
              have g4 := fun m => (hB2 m).cellAt (i := 4) rfl
              have p0 := fun m => (hB2 m).free 0
              have p4 := fun m => (hB2 m).free 4
              have HB2 := Lib.hid hB2
              have HF2 := Lib.hid hF2
              clear hG0 hB2 hF2
              obtain ⟨i77, hi77, hz77, hs77, hb77⟩ := info_parts (P := Tryd.prog) (e := 77) (z := .int .u32 0) (size := 1) (bytes := 4) (by kernel_rfl)
              have hix := fun W : World => run_index_agg (P := Tryd.prog) W 80 77 64 i77 Tryd.underlying80 hi77 hs77 (by kernel_rfl) KA .i64 (t : Int) (by omega) (by omega) _ (KA_get hlt)
              go_wp2
              go_quiet (fail)
              go_wp2
              go_quiet ((go_at_call 83; exact quiet_add (right_any _ _ _ (by omega) (by omega))))
              go_wp2
              go_quiet ((go_at_call 83; exact quiet_add (right_any _ _ _ (by omega) (by omega))))
              go_wp2
              refine wp_region_quiet_tail 2 (by kernel_rfl) (by kernel_rfl) ?_
              simp only [List.take_succ_cons, List.take_zero, List.drop_succ_cons, List.drop_zero]
              repeat (go_big_quiet_step (fail))
              refine wpQuiet_nil ?_
              rintro _ ⟨nq2, rfl⟩
              go_wp2
              go_roundw
              case measure => simp [intOf]; omega
              case rel =>
                rw [rnd12_eq, rnd1d_eq]
                refine ⟨t + 1, by omega, by go_num, ((HF2.out _).setCell (fun h => absurd h (by simp)) _).setCell (fun h => absurd h (by simp)) _, ?_⟩
                have e : rnds bs s (t + 1) = rnd x (kC[t]?.getD 0) (sw bs t) := by
                  rw [HX.out, rnds, sch_getD bs hlt]; rfl
                rw [e]
                exact ((HB2.out _).store 0 (.int .u32 (uI (rnd1 x (kC[t]?.getD 0) (sw bs t) + rnd2 x)))).store 4 (.int .u32 (uI (x.d + rnd1 x (kC[t]?.getD 0) (sw bs t))))
            · obtain rfl : t = 64 := by omega
              clear hlt
              have hHb := hH1.fr hfr2 id
              have hfw : Fr none_ w wr := hfr.trans hfr2 (fun _ _ h => h)
              go_wp2
              go_loopw [186] (fun i wx => ∃ j : Nat, j ≤ 8 ∧ i = .int .i64 j ∧ Fr (only hb) w wx ∧ Blk wx w1.heap.size 78 (eight (rnds bs s 64)) ∧ Blk wx hb 86 (heads (mixed s (rnds bs s 64) j) rest nv)) (fun i _ => 8 - (intOf i).toNat)
              case atStart => exact ⟨0, by omega, rfl, hfw.mono (fun _ _ h => h.elim), hS, hHb⟩
              case round =>
                clear hHb hfw hS hHw hfr2
                obtain ⟨j, hj, rfl, hfx, hS, hHx⟩ := hrel
                have hne := hS.ne hHx (by decide)
                by_cases hlt : j < 8
                · have ca := hHx.cellAt (mixed_at s (rnds bs s 64) rest nv hlt)
                  have cb := hS.cellAt (eight_at (rnds bs s 64) hlt)
                  have fa := hHx.free j
                  go_wp2
                  refine wp_region_quiet_tail 13 (by kernel_rfl) (by kernel_rfl) ?_
                  simp only [List.take_succ_cons, List.take_zero, List.drop_succ_cons, List.drop_zero]
                  repeat (go_big_quiet_step (fail))
                  refine wpQuiet_nil ?_
                  rintro _ ⟨n1, rfl⟩
                  go_wp2
                  go_roundw
                  case measure => simp [intOf]; omega
                  case rel =>
                    refine ⟨j + 1, by omega, by go_num, (hfx.drewN _).setCell (p := ⟨hb, j, none⟩) (fun _ => rfl) _, (hS.drewN _).far hne _, ?_⟩
                    rw [mixed_step s (rnds bs s 64) rest nv hlt]
                    exact (hHx.drewN _).store j _
                · obtain rfl : j = 8 := by omega
                  go_wp2
                  go_end0
                  exact ⟨rfl, hfx, hHx⟩
end Go.Proofs.YtelhoejoncnccaaDoor
