/- The reference's words of a block, by contract; rows of words. -/
import Derived.Test.YtelhoejoncnccaaDoorC2
import Derived.Test.YtelhoejoncnccaaDoorBR
namespace Go.Proofs.YtelhoejoncnccaaDoor
open Go Go.RowKit

/-- A row of words that may be written. -/
def OwU (w : World) (v : Value) (l : List Wd) : Prop := w.ownsRow 0 77 1 v l.length (l.map uV)
section
variable {S : Nat → Prop} {w w' : World} {v : Value} {l : List Wd}
theorem OwU.nil (w : World) : OwU w (.slice none 0 0) [] := World.ownsRow_nil w 0 77 1
theorem OwU.form (h : OwU w v l) : (v = .slice none 0 0 ∧ l = []) ∨ ∃ g cap cur, v = .slice (some ⟨g, 0, none⟩) l.length cap ∧ Blk w g 77 cur ∧ l.length ≤ cap ∧ cap ≤ maxLen ∧ cur.length = cap ∧ cur.take l.length = l.map uV := by
  rcases h.2 with ⟨rfl, hn⟩ | ⟨g, cap, cur, rfl, _, hg, hn, hc, hs, ht⟩
  · exact .inl ⟨rfl, List.eq_nil_of_length_eq_zero hn⟩
  · exact .inr ⟨g, cap, cur.toList, rfl, by simpa [Blk] using hg, hn, hc, by simpa using hs, by simpa using ht⟩
theorem OwU.mk {g cap : Nat} {cur : List Value} (hB : Blk w g 77 cur) (hn : l.length ≤ cap) (hc : cap ≤ maxLen) (hs : cur.length = cap) (ht : cur.take l.length = l.map uV) :
    OwU w (.slice (some ⟨g, 0, none⟩) l.length cap) l :=
  ⟨by simp, .inr ⟨g, cap, cur.toArray, rfl, Nat.zero_le _, hB, hn, hc, by simpa using hs, by simpa using ht⟩⟩
theorem OwU.slice (h : OwU w v l) : ∃ A cap, v = .slice A l.length cap ∧ l.length ≤ cap ∧ cap ≤ maxLen := by
  rcases h.form with ⟨rfl, rfl⟩ | ⟨g, cap, cur, rfl, _, h1, h2, _⟩
  · exact ⟨none, 0, rfl, Nat.le_refl _, Nat.zero_le _⟩
  · exact ⟨_, _, rfl, h1, h2⟩
theorem OwU.fr (h : OwU w v l) (hf : Fr S w w') (hn : ∀ k, inBlk v k → ¬ S k) : OwU w' v l := by
  rcases h.form with ⟨rfl, rfl⟩ | ⟨g, cap, cur, rfl, hB, h1, h2, h3, h4⟩
  · exact OwU.nil w'
  · exact OwU.mk (hB.fr hf (hn g rfl)) h1 h2 h3 h4
theorem OwU.alloc (h : OwU w v l) (o : Obj) : OwU (w.alloc o) v l := h.fr (S := none_) ((Fr.refl _ _).alloc o) (fun _ _ => id)
/-- Its words, in its cells. -/
theorem OwU.cells (h : OwU w v l) (hl : 0 < l.length) : ∃ g cap, v = .slice (some ⟨g, 0, none⟩) l.length cap ∧ ∀ j, j < l.length → w.cell? ⟨g, j, none⟩ = some (.int .u32 (uI (l.getD j 0))) := by
  rcases h.form with ⟨rfl, rfl⟩ | ⟨g, cap, cur, rfl, hB, h1, h2, h3, h4⟩
  · simp at hl
  · refine ⟨g, cap, rfl, fun j hj => ?_⟩
    have : (cur.take l.length)[j]? = (l.map uV)[j]? := by rw [h4]
    rw [List.getElem?_take, if_pos hj, List.getElem?_map, List.getElem?_eq_getElem hj] at this
    rw [hB.cell, this]
    simp [uV, hj]
theorem run_append_word {P : Program} (w : World) (t ty : TypeId) (i : TypeInfo) (ht : P.underlying t = some (.slice 77)) (hi : P.info? 77 = some i) (hz : i.zero = some (.int .u32 0)) (hs : i.size = 1) (hb : i.bytes = 4)
    (v : Value) (l : List Wd) (hown : OwU w v l) (g c : Nat) (x : Wd) (hr : w.cell? ⟨g, 0, none⟩ = some (uV x)) (hm : l.length ≤ 1000000) :
    ∃ v' w', (Builtin.append_ #[t, t] ty #[v, .slice (some ⟨g, 0, none⟩) 1 c]).run P w = .ok v' w' ∧ OwU w' v' (l ++ [x]) ∧ Fr (inBlk v) w w' ∧ (∀ k, inBlk v' k → inBlk v k ∨ w.heap.size ≤ k) := by
  obtain ⟨v', w', hrun, h2, h3, _, h5⟩ := run_append_own_at (P := P) w 0 t ty 77 i (.int .u32 0) 1 4 ht hi hz hs hb rfl (by decide) v l.length (l.map uV) hown ⟨g, 0, none⟩ 1 c [uV x] (by simp)
    (fun j u hu => by
      match j, hu with
      | 0, hu => simp at hu; subst hu; simpa [Addr.add] using hr)
    (by intro u hu; simp at hu; subst hu; rfl) (by simp only [maxLen]; omega) (by omega) (Nat.zero_le _)
  refine ⟨v', w', hrun, ?_, ⟨h3.os, h3.tape, h3.output, h3.size, fun k hk hn => h3.block k hk (fun e => hn e.symm)⟩, fun k hk => ?_⟩
  · unfold OwU
    rw [List.length_append, List.map_append]
    exact h2
  · rcases h5 with h5 | h5
    · exact .inl (by unfold inBlk at *; rw [← h5]; exact hk)
    · right
      have : some w.heap.size = some k := by unfold inBlk at hk; rw [← h5]; exact hk
      cases this
      exact Nat.le_refl _
theorem wpList_append_word {P : Program} (w : World) {ops : Array Oper} {rest : List Oper} {o : Oper} {a : Act} {Q : Exit → Act → World → Prop} (hgd : o.guard = none) (s x : Operand) (t : TypeId)
    (ho : o.op = .call { callee := .builtin .append, args := #[s, x], argTypes := #[t, t] }) (i : TypeInfo) (ht : P.underlying t = some (.slice 77)) (hi : P.info? 77 = some i) (hz : i.zero = some (.int .u32 0)) (hs : i.size = 1) (hb : i.bytes = 4)
    (v : Value) (hv : a.eval s = v) (l : List Wd) (hown : OwU w v l) (g c : Nat) (y : Wd) (hx : a.eval x = .slice (some ⟨g, 0, none⟩) 1 c) (hr : w.cell? ⟨g, 0, none⟩ = some (uV y)) (hm : l.length ≤ 1000000)
    (h : ∀ v' w', OwU w' v' (l ++ [y]) → Fr (inBlk v) w w' → (∀ k, inBlk v' k → inBlk v k ∨ w.heap.size ≤ k) → wpList P ops Q rest (a.put o.dst v') w') : wpList P ops Q (o :: rest) a w := by
  refine wpList_plain hgd fun K hK => ?_
  obtain ⟨v', w', hrun, h2, h3, h4⟩ := run_append_word (P := P) w t o.type i ht hi hz hs hb v l hown g c y hr hm
  unfold Oper.wp execOp
  simp only [ho, resolve, invoke, builtin, Sem.run_bind, Sem.run_pure, Result.andThen_ok, List.map_toArray, List.map_cons, List.map_nil, hv, hx, hrun]
  exact hK _ _ (h v' w' h2 h3 h4)
end
theorem sch_succ (bs : List By) (n : Nat) : sch bs (n + 1) = sch bs n ++ [sw bs n] := by
  have h : sw bs n = (sch bs (n + 1)).getD n 0 := rfl
  obtain ⟨x, hx⟩ : ∃ x, sch bs (n + 1) = sch bs n ++ [x] := ⟨_, rfl⟩
  rw [h, hx, List.getD_eq_getElem?_getD, List.getElem?_append_right (by rw [sch_length]; exact Nat.le_refl _), sch_length]
  simp
theorem lit_cell (w : World) (v : Value) (t : TypeId) : (w.alloc (.cells #[v] t)).cell? ⟨w.heap.size, 0, none⟩ = some v := (Blk.new w t [v]).cellAt (i := 0) rfl
theorem rsched_eq (a b x y : Wd) : (uI a + uI b + bits .xor .u32 (uI (rotr x 7 ^^^ rotr x 18)) (uI x / 8) + bits .xor .u32 (uI (rotr y 17 ^^^ rotr y 19)) (uI y / 1024)) % 4294967296 = uI (a + b + sg0 x + sg1 y) := by
  rw [uI_shr3, uI_shr10, u32_xor, u32_xor]
  unfold sg0 sg1
  rw [uI_add (a + b + _), uI_add (a + b), uI_add a]
  omega

attribute [local go_sem] wrap_u32_bI wrap_uI wrap_bI u32_add u32_xor u32_and u32_or

set_option maxRecDepth 100000 in
set_option maxHeartbeats 1000000 in
theorem words_any (b o n c : Nat) (bs : List By) (w : World) (hn : 64 ≤ n) (hnc : n ≤ 9223372036854775807) (hbs : ∀ j, j < 64 → w.cell? ⟨b, o + j, none⟩ = some (.int .u8 (bI (bs.getD j 0)))) :
    Calls Tryd.prog 51 #[.slice (some ⟨b, o, none⟩) n c] w fun e w' => ∃ A' c', e = .returned (.slice A' 64 c') ∧ OwU w' (.slice A' 64 c') (sch bs 64) ∧ Fr none_ w w' ∧ (∀ k, inBlk (.slice A' 64 c') k → w.heap.size ≤ k) := by
  obtain ⟨i5, hi5, hz5, hs5, hb5⟩ := info_parts (P := Tryd.prog) (e := 77) (z := .int .u32 0) (size := 1) (bytes := 4) (by kernel_rfl)
  have hbb : b < w.heap.size := block_lt_of_cell (hbs 0 (by omega))
  have hbs' := Lib.hid hbs
  clear hbs
  go_enter Tryd.func51, Tryd.ntmps51
  go_wp2
  go_loopw [4, 3] (fun i v wr => ∃ (k : Nat) (A : Option Addr) (c : Nat), k ≤ 16 ∧ i = .int .i64 (4 * k) ∧ v = .slice A k c ∧ Fr none_ w wr ∧ OwU wr v (sch bs k) ∧ (∀ k, inBlk v k → w.heap.size ≤ k)) (fun i _ _ => 64 - (intOf i).toNat)
  case atStart => exact ⟨0, none, 0, Nat.zero_le _, rfl, rfl, Fr.refl _ _, OwU.nil _, fun k h => by cases h⟩
  case round =>
    obtain ⟨k, A, c, hk, rfl, rfl, hfr, hor, hkr⟩ := hrel
    have hkr' := Lib.hid hkr
    clear hkr
    by_cases hlt : k < 16
    · have c0 : wr.cell? ⟨b, o + 4 * k, none⟩ = some (.int .u8 (bI (bs.getD (4 * k) 0))) := (hfr.cell (by exact hbb) (by exact id)).trans (hbs'.out _ (by omega))
      have c1 : wr.cell? ⟨b, o + (4 * k + 1), none⟩ = some (.int .u8 (bI (bs.getD (4 * k + 1) 0))) := (hfr.cell (by exact hbb) (by exact id)).trans (hbs'.out _ (by omega))
      have c2 : wr.cell? ⟨b, o + (4 * k + 2), none⟩ = some (.int .u8 (bI (bs.getD (4 * k + 2) 0))) := (hfr.cell (by exact hbb) (by exact id)).trans (hbs'.out _ (by omega))
      have c3 : wr.cell? ⟨b, o + (4 * k + 3), none⟩ = some (.int .u8 (bI (bs.getD (4 * k + 3) 0))) := (hfr.cell (by exact hbb) (by exact id)).trans (hbs'.out _ (by omega))
      have hfrr : Fr none_ wr wr := Fr.refl _ _
      go_wp2
      refine wp_region_front_quiet_tail 29 (by kernel_rfl) (by kernel_rfl) _ rfl rfl (fun _ _ _ _ h => h) ?_
      simp only [List.take_succ_cons, List.take_zero, List.drop_succ_cons, List.drop_zero]
      repeat (go_big_quiet_step (fail))
      refine wpQuiet_nil ?_
      rintro _ ⟨nq, rfl⟩
      go_wp2_with (at_builtin; refine wpList_append_word _ rfl (.tmp 12) (.tmp 42) 81 rfl i5 Tryd.underlying81 hi5 hz5 hs5 hb5 _ rfl (sch bs k) ((hor.fr (hfrr.drewN nq) (fun _ _ => id)).alloc _) wr.heap.size 1 (sw bs k) rfl ?hlit (by rw [sch_length]; omega) ?_)
      case hlit =>
        rw [sw_lo bs hlt]
        refine (lit_cell _ _ _).trans (congrArg some (congrArg (Value.int IntKind.u32) ?_))
        exact word4_eq _ _ _ _
      intro v3 w3 ho3 hf3 hk3
      go_wp2
      go_roundw
      case measure => simp [intOf]; omega
      case rel =>
        rw [← sch_succ] at ho3
        obtain ⟨A3, c3, hv3, _, _⟩ := ho3.slice
        rw [sch_length] at hv3
        exact ⟨k + 1, A3, c3, by omega, by go_num, hv3, Fr.far ((hfr.drewN nq).alloc _) hf3 hkr'.out, ho3, fun j hj => (hk3 j hj).elim (hkr'.out j) (fun h => by have := hfr.size; omega)⟩
    · obtain rfl : k = 16 := by omega
      go_wp2
      clear hlt
      go_loopw [5, 3, 6, 7] (fun i v _ _ wr => ∃ (k : Nat) (A : Option Addr) (c : Nat), 16 ≤ k ∧ k ≤ 64 ∧ i = .int .i64 k ∧ v = .slice A k c ∧ Fr none_ w wr ∧ OwU wr v (sch bs k) ∧ (∀ k, inBlk v k → w.heap.size ≤ k)) (fun i _ _ _ _ => 64 - (intOf i).toNat)
      case atStart => exact ⟨16, A, c, by omega, by omega, rfl, rfl, hfr, hor, hkr'.out⟩
      case round =>
        clear hfr hor hkr' hbs'
        obtain ⟨k, A, c, hk0, hk, rfl, rfl, hfr, hor, hkr⟩ := hrel
        have hkr' := Lib.hid hkr
        clear hkr
        by_cases hlt : k < 64
        · obtain ⟨g, cap, hv, hcell⟩ := hor.cells (by rw [sch_length]; omega)
          rw [sch_length] at hv hcell
          cases hv
          have cell : ∀ j, j < k → wr.cell? ⟨g, j, none⟩ = some (.int .u32 (uI (sw bs j))) := fun j hj => by
            rw [hcell j hj, sch_getD bs hj]
          have c2 := cell (k - 2) (by omega)
          have c15 := cell (k - 15) (by omega)
          have c7 := cell (k - 7) (by omega)
          have c16 := cell (k - 16) (by omega)
          have hfrr : Fr none_ wr wr := Fr.refl _ _
          clear cell hcell
          go_wp2
          refine wp_region_front_quiet_tail 29 (by kernel_rfl) (by kernel_rfl) _ rfl rfl (fun _ _ _ _ h => h) ?_
          simp only [List.take_succ_cons, List.take_zero, List.drop_succ_cons, List.drop_zero]
          repeat (go_big_quiet_step ((go_at_call 52; exact Calls.quiet_of_same (turn_any _ _ _ (by omega) (by omega)))))
          refine wpQuiet_nil ?_
          rintro _ ⟨nq, rfl⟩
          go_wp2_with (at_builtin; refine wpList_append_word _ rfl (.tmp 58) (.tmp 88) 81 rfl i5 Tryd.underlying81 hi5 hz5 hs5 hb5 _ rfl (sch bs k) ((hor.fr (hfrr.drewN nq) (fun _ _ => id)).alloc _) wr.heap.size 1 (sw bs k) rfl ?hlit (by rw [sch_length]; omega) ?_)
          case hlit =>
            rw [sw_hi bs hk0]
            refine (lit_cell _ _ _).trans (congrArg some (congrArg (Value.int IntKind.u32) ?_))
            refine Eq.trans ?_ (rsched_eq _ _ _ _)
            congr 1
            omega
          intro v3 w3 ho3 hf3 hk3
          go_wp2
          refine ⟨?_, ?measure⟩
          apply Exists.intro
          (repeat apply Exists.intro)
          refine ⟨?rel, rfl⟩

          case measure => simp [intOf]; omega
          case rel =>
            rw [← sch_succ] at ho3
            obtain ⟨A3, c3, hv3, _, _⟩ := ho3.slice
            rw [sch_length] at hv3
            exact ⟨k + 1, A3, c3, by omega, by omega, by go_num, hv3, Fr.far ((hfr.drewN nq).alloc _) hf3 hkr'.out, ho3, fun j hj => (hk3 j hj).elim (hkr'.out j) (fun h => by have := hfr.size; omega)⟩
        · obtain rfl : k = 64 := by omega
          go_wp2
          go_ret
          exact ⟨A, c, rfl, hor, hfr, hkr'.out⟩
end Go.Proofs.YtelhoejoncnccaaDoor
