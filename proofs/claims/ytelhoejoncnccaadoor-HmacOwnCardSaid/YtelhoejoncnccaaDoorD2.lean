/- The law of pieces: the walk. -/
import Derived.Test.YtelhoejoncnccaaDoorD1
namespace Go.Proofs.YtelhoejoncnccaaDoor
open Go Go.RowKit
theorem sum_is (D : List By) (w : World) {hb : Nat} {rv : Value} {all : List By} (hD : D = sha all) (h : Going w hb rv all) (hN : all.length < 2305843009213693952) (hG : GK w) :
    Calls Tryd.prog 24 #[.pointer (some ⟨hb, 0, none⟩)] w fun e w' => e = .returned (DA D) ∧ Fr none_ w w' := by
  rw [hD]
  exact sum_go w h hN hG
/-- What the law keeps: a hash at hb that has taken X in, one at gb that has taken nothing in, a row of its own that holds Y. -/
structure Pile (w wr : World) (hb gb : Nat) (rv av : Value) (X Y : List By) : Prop where
  fr : Fr none_ w wr
  h : Going wr hb rv X
  g : Going wr gb (.slice none 0 0) []
  a : OwB wr av Y
  hb0 : w.heap.size ≤ hb
  gb0 : w.heap.size ≤ gb
  hg : hb ≠ gb
  rv0 : ∀ k, inBlk rv k → w.heap.size ≤ k
  av0 : ∀ k, inBlk av k → w.heap.size ≤ k
  ra : ∀ k, inBlk rv k → ¬ inBlk av k
section
variable {S : Nat → Prop} {w wr wx : World} {hb gb : Nat} {rv av : Value} {X Y : List By}
theorem nil_not {k : Nat} : ¬ inBlk (.slice none 0 0) k := fun h => by cases h
theorem Pile.step (p : Pile w wr hb gb rv av X Y) (hf : Fr S wr wx) (h1 : ¬ S hb) (h2 : ¬ S gb) (h3 : ∀ k, inBlk rv k → ¬ S k) (h4 : ∀ k, inBlk av k → ¬ S k) (h5 : ∀ k, S k → w.heap.size ≤ k) : Pile w wx hb gb rv av X Y :=
  ⟨p.fr.trans hf (fun b hb s => absurd (h5 b s) (by omega)), p.h.fr hf h1 h3, p.g.fr hf h2 (fun _ h => absurd h nil_not), p.a.fr hf h4, p.hb0, p.gb0, p.hg, p.rv0, p.av0, p.ra⟩
theorem Pile.still (p : Pile w wr hb gb rv av X Y) (hf : Fr none_ wr wx) : Pile w wx hb gb rv av X Y :=
  p.step hf id id (fun _ _ => id) (fun _ _ => id) (fun _ h => h.elim)
theorem Pile.wrote (p : Pile w wr hb gb rv av X Y) {rv' : Value} {bs : List By} (hf : Fr (touch hb rv) wr wx) (hh : Going wx hb rv' (X ++ bs)) (hk : ∀ k, inBlk rv' k → inBlk rv k ∨ wr.heap.size ≤ k) : Pile w wx hb gb rv' av (X ++ bs) Y := by
  have hn : ∀ k, touch hb rv k → w.heap.size ≤ k := fun k h => by
    rcases h with h | h
    · have := p.hb0; omega
    · exact p.rv0 k h
  refine ⟨p.fr.trans hf (fun b hb s => absurd (hn b s) (by omega)), hh, p.g.fr hf ?_ (fun _ h => absurd h nil_not), p.a.fr hf ?_, p.hb0, p.gb0, p.hg, ?_, p.av0, ?_⟩
  · intro h
    rcases h with h | h
    · exact p.hg h.symm
    · exact (p.h.own.ne p.g.blk (by decide)) h
  · intro k hk h
    rcases h with h | h
    · subst h
      exact (p.a.ne p.h.blk (by decide)) hk
    · exact p.ra k h hk
  · intro k h
    rcases hk k h with h | h
    · exact p.rv0 k h
    · have := p.fr.size; omega
  · intro k h h'
    rcases hk k h with h | h
    · exact p.ra k h h'
    · have := p.a.lt k h'; omega
theorem Pile.grew (p : Pile w wr hb gb rv av X Y) {av' : Value} {bs : List By} (hf : Fr (inBlk av) wr wx) (ha : OwB wx av' (Y ++ bs)) (hk : ∀ k, inBlk av' k → inBlk av k ∨ wr.heap.size ≤ k) : Pile w wx hb gb rv av' X (Y ++ bs) := by
  refine ⟨p.fr.trans hf (fun b hb s => absurd (p.av0 b s) (by omega)), p.h.fr hf (p.a.ne p.h.blk (by decide)) (p.ra), p.g.fr hf (p.a.ne p.g.blk (by decide)) (fun _ h => absurd h nil_not), ha, p.hb0, p.gb0, p.hg, p.rv0, ?_, ?_⟩
  · intro k h
    rcases hk k h with h | h
    · exact p.av0 k h
    · have := p.fr.size; omega
  · intro k h h'
    rcases hk k h' with h' | h'
    · exact p.ra k h h'
    · have := p.h.own.lt k h; omega
theorem Pile.start (w : World) : Pile w ((w.alloc (.cells (heads st0 (.slice none 0 0) (.int .u64 0)).toArray 86)).alloc (.cells (heads st0 (.slice none 0 0) (.int .u64 0)).toArray 86)) w.heap.size (w.heap.size + 1) (.slice none 0 0) (.slice none 0 0) [] [] := by
  refine ⟨((Fr.refl _ _).alloc _).alloc _, (Going.new w).fr ((Fr.refl none_ _).alloc _) id (fun _ _ => id), ?_, OwB.nil _, Nat.le_refl _, by omega, by omega, fun _ h => absurd h nil_not, fun _ h => absurd h nil_not, fun _ h => absurd h nil_not⟩
  have := Going.new (w.alloc (.cells (heads st0 (.slice none 0 0) (.int .u64 0)).toArray 86))
  rwa [World.size_alloc] at this
theorem Pile.off (p : Pile w wr hb gb rv av X Y) {ov : Value} {bs : List By} {w2 : World} (ho : OwB w2 ov bs) (h : ∀ k, inBlk ov k → wr.heap.size ≤ k) {rv' : Value} (hk : ∀ k, inBlk rv' k → inBlk rv k ∨ w2.heap.size ≤ k) :
    (∀ k, inBlk ov k → k ≠ hb ∧ k ≠ gb ∧ ¬ inBlk rv k ∧ ¬ inBlk rv' k ∧ ¬ inBlk av k ∧ w.heap.size ≤ k) := by
  intro k hk1
  have h1 := h k hk1
  have h2 := p.h.lt
  have h3 := p.g.lt
  have h4 := p.fr.size
  refine ⟨by omega, by omega, fun e => ?_, fun e => ?_, fun e => ?_, by omega⟩
  · have := p.h.own.lt k e; omega
  · rcases hk k e with e | e
    · have := p.h.own.lt k e; omega
    · have := ho.lt k hk1; omega
  · have := p.a.lt k e; omega
end
theorem S2_step {w4 X Y : World} {b : Nat} {c : List Value} (h : Fr none_ w4 X ∧ X.rangeAt b 0 c) (hf : Fr none_ X Y) : Fr none_ w4 Y ∧ Y.rangeAt b 0 c :=
  ⟨h.1.trans hf (fun _ _ => id), range_fr h.2 hf⟩
set_option maxRecDepth 100000 in
set_option maxHeartbeats 4000000 in
theorem shaPieces_any (A : Option Addr) (n c : Nat) (rows : List (List By)) (w : World) (hG : GK w) (hr : RdR w A n rows) (_hnc : n ≤ c) (_hc : c ≤ 9223372036854775807) :
    Calls Tryd.prog 4 #[.slice A n c] w fun e w' => e = .returned (.bool true) ∧ Fr none_ w w' := by
  obtain ⟨i5, hi5, hz5, hs5, hb5⟩ := info_parts (P := Tryd.prog) (e := 5) (z := .int .u8 0) (size := 1) (bytes := 1) (by kernel_rfl)
  have hG' := Lib.hid hG
  have hr' := Lib.hid hr
  clear hG hr
  obtain ⟨D0, hD0, lD0⟩ : ∃ D, D = sha [] ∧ D.length = 32 := ⟨_, rfl, rfl⟩
  have hD0' := Lib.hid hD0
  clear hD0
  have hz1 := fun (w : World) (D : List By) (op : BinOp) (x y : Operand) => eqGuard_DA w D D op x y
  have hz2 := fun (w : World) => (eql_DA w D0 D0 lD0 lD0).trans (by rw [beq_self_eq_true] : _ = Result.ok (.bool true) w)
  simp only [DA] at hz1 hz2
  have hw0 := hG'.out.lt
  go_enter Tryd.func4, Tryd.ntmps4
  go_wp2_with fail
  refine (new_any _).mono ?_
  rintro e w1 ⟨rfl, rfl⟩
  go_wp2_with fail
  refine (new_any _).mono ?_
  rintro e w1 ⟨rfl, rfl⟩
  go_wp2_with fail
  refine (alive_any _ ((hG'.out.fr ((Fr.refl none_ _).alloc _) id).fr ((Fr.refl none_ _).alloc _) id)).mono ?_
  rintro e w1 ⟨rfl, hf1⟩
  have hP := (Pile.start w).still hf1
  clear hf1
  have hP' := Lib.hid hP
  clear hP
  go_wp2
  go_loopw [5, 6] (fun av i wr => ∃ (k : Nat) (X : List By) (rv : Value) (AA : Option Addr) (ca : Nat), i = .int .i64 k ∧ k ≤ n ∧ k ≤ 40 ∧ av = .slice AA X.length ca ∧ X.length ≤ 20000 ∧ Pile w wr w.heap.size (w.heap.size + 1) rv av X X) (fun _ i _ => 40 - (intOf i).toNat)
  case atStart => exact ⟨0, [], _, none, 0, rfl, by omega, by omega, rfl, by decide, hP'.out⟩
  case round =>
    clear hP'
    obtain ⟨k, X, rv, AA, ca, rfl, hkn, hk40, rfl, hX, hP⟩ := hrel
    have hP' := Lib.hid hP
    clear hP
    by_cases hk : k < n ∧ k < 40
    · obtain ⟨hk1, hk2⟩ := hk
      have hk3 : (k : Int) < 40 := by omega
      obtain ⟨b, o, rfl, hcell⟩ := hr'.out.2 (by omega)
      obtain ⟨A1, m, c1, hcl, hmc, hcm, hrd⟩ := hcell k hk1
      have hrow : wr.cell? ⟨b, o + k, none⟩ = some (.slice A1 m c1) := (hP'.out.fr.cell (p := ⟨b, o + k, none⟩) (block_lt_of_cell hcl) id).trans hcl
      have hcm' : c1 ≤ 9223372036854775807 := hcm
      obtain ⟨r, hrr⟩ : ∃ r, r = rows.getD k [] := ⟨_, rfl⟩
      rw [← hrr] at hrd
      have hrd' := Lib.hid hrd
      have hcl' := Lib.hid hcl
      clear hcell hrd hcl hcm hrr
      obtain ⟨wo, rfl⟩ : ∃ wo : World, wo = wr := ⟨_, rfl⟩
      have hrowa : ∀ o', (wo.alloc o').cell? ⟨b, o + k, none⟩ = some (.slice A1 m c1) := fun o' => (((Fr.refl none_ wo).alloc o').cell (p := ⟨b, o + k, none⟩) (block_lt_of_cell hrow) id).trans hrow
      by_cases hm : X.length + m ≤ 20000
      · have hm1 : decide (20000 - (X.length : Int) < (m : Int)) = false := by simp; omega
        go_wp2_with (at_builtin; refine wpList_append_bytes _ rfl (.tmp 41) (.tmp 45) 22 rfl i5 Tryd.underlying22 hi5 hz5 hs5 hb5 (.slice (some ⟨wo.heap.size, 0, none⟩) 0 0) rfl [] (OwB.empty wo) A1 m c1 r rfl ((hrd'.out.fr hP'.out.fr (fun _ _ _ => id)).alloc _) (by simp; omega) ?_; intro ov w2 ho1 hf1 hk1; obtain ⟨AO, co, hov, hco, hcm2⟩ := ho1.slice; have hl : ([] ++ r).length = m := hrd'.out.1; rw [hl] at hov hco; subst hov)
        have hl1 : r.length = m := hrd'.out.1
        simp only [List.nil_append] at ho1
        have hf2 : Fr none_ wo w2 := Fr.far ((Fr.refl none_ wo).alloc _) hf1 own_new
        have hk2' := own_far hk1 own_new (by simp)
        have hPa := hP'.out.still hf2
        have hPl := hP'.out.h.lt
        have hrl := hP'.out.h.own.lt
        have hrd2 := (ho1.rd rfl).1
        have hrd2' := Lib.hid hrd2
        have hPa' := Lib.hid hPa
        have hl1' := Lib.hid hl1
        clear hrd2 hPa hl1 hl hf1 hk1
        refine (write_go AO m co r w2 hPa'.out.h (hG'.out.fr hPa'.out.fr id) hrd2'.out hco (by omega) ?_ ?_ (by omega)).mono ?_
        · intro _ b o e
          have h1 := hk2' b (ho1.rd rfl |>.2 b o e)
          exact ⟨by omega, fun e => by have := hrl b e; omega⟩
        · intro e
          rcases e with e | e
          · have := hPa'.out.hb0; omega
          · have := hPa'.out.rv0 0 e; omega
        rintro e w3 ⟨rfl, rv3, hf3, hg3, hk3⟩
        have hPb := hPa'.out.wrote hf3 hg3 hk3
        have hoff := hP'.out.off ho1 hk2' hk3
        have ho3 : OwB w3 (.slice AO m co) r := ho1.fr hf3 (fun k hk e => by
          have := hoff k hk
          rcases e with e | e
          · exact this.1 e
          · exact this.2.2.1 e)
        have hPb' := Lib.hid hPb
        have hoff' := Lib.hid hoff
        have ho3' := Lib.hid ho3
        clear hPb hoff ho3 hf3 hg3 hk3 hf2 hk2' ho1 hPa' hrl hPl hrd2' hrow hrowa
        go_wp2
        go_loopw [8] (fun i wy => ∃ (j : Nat) (l : List By), i = .int .i64 j ∧ j ≤ m ∧ l.length = m ∧ Fr (inBlk (.slice AO m co)) w3 wy ∧ OwB wy (.slice AO m co) l) (fun i _ => m - (intOf i).toNat)
        case atStart => exact ⟨0, r, rfl, by omega, hl1'.out, Fr.refl _ _, ho3'.out⟩
        case round =>
          obtain ⟨j, l, rfl, hj, hll, hfy, hOl⟩ := hrel
          have hll' := Lib.hid hll
          have hOl' := Lib.hid hOl
          clear hll hOl
          by_cases hjm : j < m
          · obtain ⟨g, rfl, hfree⟩ := hOl'.out.head (by rw [hll'.out]; omega)
            have hfj := hfree j
            clear hfree
            obtain ⟨vj, hcj⟩ : ∃ v, wr.cell? ⟨g, j, none⟩ = some v := by
              obtain ⟨g', o', e, hc⟩ := (hOl'.out.rd (A := some ⟨g, 0, none⟩) (n := m) (c := co) rfl).1.2 (by omega)
              cases e
              exact ⟨_, by have := hc j hjm; rwa [Nat.zero_add] at this⟩
            go_wp2
            go_roundw
            case measure => simp [intOf]; omega
            case rel => exact ⟨j + 1, l.set j 99, by go_num, by omega, by rw [List.length_set]; exact hll'.out, hfy.setCell (p := ⟨g, j, none⟩) (fun _ => rfl) _, hOl'.out.store j 99⟩
          · obtain rfl : j = m := by omega
            have hPc := hPb'.out.step hfy (fun e => (hoff'.out _ e).1 rfl) (fun e => (hoff'.out _ e).2.1 rfl) (fun k hk e => (hoff'.out _ e).2.2.2.1 hk) (fun k hk e => (hoff'.out _ e).2.2.2.2.1 hk) (fun k e => (hoff'.out k e).2.2.2.2.2)
            have hrow : wr.cell? ⟨b, o + k, none⟩ = some (.slice A1 j c1) := (hPc.fr.cell (p := ⟨b, o + k, none⟩) (block_lt_of_cell hcl'.out) id).trans hcl'.out
            have hPc' := Lib.hid hPc
            clear hPc hOl' hll' hfy
            obtain ⟨D, hD, lD⟩ : ∃ D, D = sha (X ++ r) ∧ D.length = 32 := ⟨_, rfl, rfl⟩
            have hD' := Lib.hid hD
            clear hD
            go_wp2_with (first
              | (refine wpList_store_row rfl 23 (.tmp 9) (.tmp 66) rfl w5.heap.size (D.map bV).toArray rfl rfl 23 Z32A ha5.out (row_info lD) (row_old lD) (DA_all D) ?_; refine wpList_gen (fun W => Fr none_ w4 W ∧ Blk W w5.heap.size 23 (D.map bV)) ⟨made_row_fr hf5, made_row⟩ ?_; rintro W ⟨hfW, hB⟩)
              | (go_at_call 24; refine (sum_is D _ hD'.out hPd'.out.h (by rw [hlx'.out]; omega) (hG'.out.fr hPd'.out.fr id)).mono ?_; rw [DA]; rintro e w5 ⟨rfl, hf5⟩; have ha5 := Lib.hid (alloc32' w5))
              | (at_builtin; refine wpList_append_bytes _ rfl (.tmp 59) (.tmp 63) 22 rfl i5 Tryd.underlying22 hi5 hz5 hs5 hb5 (.slice AA X.length ca) rfl X hPc'.out.a A1 j c1 r rfl (hrd'.out.fr hPc'.out.fr (fun _ _ _ => id)) (by omega) ?_; intro av4 w4 ho4 hf4 hk4; have hPd' := Lib.hid (hPc'.out.grew hf4 ho4 hk4); have hlx' := Lib.hid (show (X ++ r).length = X.length + j by rw [List.length_append, hl1'.out]); obtain ⟨AA4, ca4, hv4, hc4, hc5⟩ := ho4.slice; rw [hlx'.out] at hv4 hc4; subst hv4; clear hf4 ho4 hk4))
            have hS : Fr none_ W W.drew ∧ W.drew.rangeAt w5.heap.size 0 (D.map bV) := ⟨(Fr.refl _ _).drew, hB.range⟩
            have hPe' := Lib.hid (hPd'.out.still hfW)
            have hu23 := Tryd.underlying23
            have hi23 : (Tryd.prog.info? 23).map (·.size) = some (D.map bV).length := by rw [List.length_map, lD]; kernel_rfl
            have hl23 : (D.map bV).length = 32 := by rw [List.length_map, lD]
            have ho23 : ∀ v ∈ D.map bV, v.oneCell' = true := fun v hv => by
              obtain ⟨b, _, rfl⟩ := List.mem_map.1 hv
              rfl
            have hz3 := fun w : World => (neq_DA w D D lD lD).trans (by rw [beq_self_eq_true]; rfl : _ = Result.ok (.bool false) w)
            simp only [DA] at hz3
            refine wp_region_noPanic ?_
            refine wp_region_held_drew (S := fun X => Fr none_ W X ∧ X.rangeAt w5.heap.size 0 (D.map bV)) (by kernel_rfl) hS (fun hHeld => ?_)
            refine wpAnyH_take (i := 0) (oi := _) (v := _) rfl (by kernel_rfl) (by kernel_rfl) (by kernel_rfl) (fun _ _ _ h => h) (yieldsIf_load_mid rfl _ _ rfl _ _ rfl (D.map bV) _ (fun _ h => h.2) hu23 rfl hi23) hHeld ?_
            try simp only [Act.put, List.setIfInBounds_toArray]
            refine wpAnyH_take (i := 1) (oi := _) (v := .slice AA4 (X.length + j) ca4) rfl (by kernel_rfl) (by kernel_rfl) (by kernel_rfl) (fun _ _ _ h => h) (Or.inl ⟨rfl, fun w hSw => by go_simp⟩) hHeld ?_
            try simp only [Act.put]
            refine wpAnyH_ready (rs := [2]) (by kernel_rfl) (by simp) (AllReadyH.cons (o := _) rfl (fun K hK => ?_) AllReadyH.nil)
            go_simp
            refine (shasum_is D AA4 (X.length + j) ca4 (X ++ r) _ hD'.out (hG'.out.fr (hPe'.out.still (Fr.refl _ _).drew).fr id) ((hPe'.out.still (Fr.refl _ _).drew).a.rd rfl).1 hc4 (by omega)).mono ?_; rw [DA]; rintro e Y ⟨rfl, hfY⟩
            go_wp2_with fail
            refine hK.out _ _ (S2_step hS hfY) (fun hHeld => ?_)
            clear hK K
            try simp only [Act.put, List.setIfInBounds_toArray, List.set_cons_zero, List.set_cons_succ]
            refine wpAnyH_take (i := 3) (oi := _) (v := .bool false) rfl (by kernel_rfl) (by kernel_rfl) (by kernel_rfl) (fun _ _ _ h => h) (Or.inl ⟨rfl, fun w hSw => by go_simp⟩) hHeld ?_
            try simp only [Act.put, List.setIfInBounds_toArray]
            refine wpAnyH_take (i := 4) (oi := _) (v := .bool false) rfl (by kernel_rfl) (by kernel_rfl) (by kernel_rfl) (fun _ _ _ h => h) (Or.inl ⟨rfl, fun w hSw => by go_simp⟩) hHeld ?_
            try simp only [Act.put]
            refine wpAnyH_take (i := 5) (oi := _) (v := .pointer (some ⟨w.heap.size, 0, none⟩)) rfl (by kernel_rfl) (by kernel_rfl) (by kernel_rfl) (fun _ _ _ h => h) (Or.inl ⟨rfl, fun w hSw => by go_simp⟩) hHeld ?_
            try simp only [Act.put]
            refine wpAnyH_take (i := 7) (oi := _) (v := _) rfl (by kernel_rfl) (by kernel_rfl) (by kernel_rfl) (fun _ _ _ h => h) (yieldsIf_load_mid rfl _ _ rfl _ _ rfl (D.map bV) _ (fun _ h => h.2) hu23 rfl hi23) hHeld ?_
            try simp only [Act.put]
            refine wpAnyH_ready (rs := [6]) (by kernel_rfl) (by simp) (AllReadyH.cons (o := _) rfl (fun K hK => ?_) AllReadyH.nil)
            go_simp
            refine (sum_is D _ hD'.out (hPe'.out.still ((Fr.refl _ _).drew.trans hfY (fun _ _ => id))).h (by rw [hlx'.out]; omega) (hG'.out.fr (hPe'.out.still ((Fr.refl _ _).drew.trans hfY (fun _ _ => id))).fr id)).mono ?_; rw [DA]; rintro e Z ⟨rfl, hfZ⟩
            go_wp2_with fail
            refine hK.out _ _ (S2_step (S2_step hS hfY) hfZ) (fun hHeld => ?_)
            clear hK K
            try simp only [Act.put, List.setIfInBounds_toArray, List.set_cons_zero, List.set_cons_succ]
            refine wpAnyH_take (i := 8) (oi := _) (v := .bool false) rfl (by kernel_rfl) (by kernel_rfl) (by kernel_rfl) (fun _ _ _ h => h) (Or.inl ⟨rfl, fun w hSw => by go_simp⟩) hHeld ?_
            try simp only [Act.put, List.setIfInBounds_toArray]
            refine wpAnyH_take (i := 9) (oi := _) (v := .bool false) rfl (by kernel_rfl) (by kernel_rfl) (by kernel_rfl) (fun _ _ _ h => h) (Or.inl ⟨rfl, fun w hSw => by go_simp⟩) hHeld ?_
            try simp only [Act.put]
            refine wpAnyH_done (by kernel_rfl) ?_ _
            refine NoPanic.normal ?_
            go_wp2
            have hPz := hPe'.out.still (((Fr.refl _ _).drew.trans hfY (fun _ _ => id)).trans hfZ (fun _ _ => id))
            go_roundw
            case measure => simp [intOf]; omega
            case rel => exact ⟨k + 1, X ++ r, rv3, AA4, ca4, by go_num, by omega, by omega, by rw [hlx'.out], by rw [hlx'.out]; omega, hPz⟩
      · have hm1 : decide (20000 - (X.length : Int) < (m : Int)) = true := by simp; omega
        go_wp2
        go_ret
        exact ⟨rfl, hP'.out.fr⟩
    · have hfin : Pile w wr w.heap.size (w.heap.size + 1) rv (.slice AA X.length ca) X X := hP'.out
      by_cases hk1 : k < n
      all_goals
        have hk2 : ¬ (k : Int) < 40 ∨ ¬ k < n := by omega
        clear hk
        go_wp2_with (first
          | (go_at_call 18; refine (shasum_is D0 none 0 0 [] _ hD0'.out (hG'.out.fr (hP'.out.fr.trans hf2 (fun _ _ => id)) id) RdB.nil (by decide) (by decide)).mono ?_; rw [DA]; rintro e w3 ⟨rfl, hf3⟩)
          | (go_at_call 24; refine (sum_is D0 _ hD0'.out hP'.out.g (by decide) (hG'.out.fr hP'.out.fr id)).mono ?_; rw [DA]; rintro e w2 ⟨rfl, hf2⟩))
        go_ret
        exact ⟨rfl, (hP'.out.fr.trans hf2 (fun _ _ => id)).trans hf3 (fun _ _ => id)⟩
end Go.Proofs.YtelhoejoncnccaaDoor
