/- (*Hash).Write: bytes are taken in. -/
import Derived.Test.YtelhoejoncnccaaDoorB4
import Derived.Test.YtelhoejoncnccaaDoorB6
import Derived.Deep.RegionLaw
namespace Go.Proofs.YtelhoejoncnccaaDoor
open Go Go.RowKit

def lenV : Value → Nat | .slice _ n _ => n | _ => 0
def touch (hb : Nat) (rv : Value) (k : Nat) : Prop := k = hb ∨ inBlk rv k
/-- A hash that is under way at block hb: from the state s0 on it has taken p in. -/
structure Hash (w : World) (hb : Nat) (s : St) (rv : Value) (rest : List By) (N : Nat) : Prop where
  blk : Blk w hb 86 (heads s rv (.int .u64 N))
  own : OwB w rv rest
def Wrote (hb : Nat) (w : World) (s : St) (rv : Value) (p : List By) (N : Nat) (e : Ending) (w' : World) : Prop :=
  e = .returned (.tuple #[]) ∧ ∃ rv', Fr (touch hb rv) w w' ∧ Hash w' hb (fed s p) rv' (left_ p) N ∧ (∀ k, inBlk rv' k → inBlk rv k ∨ w.heap.size ≤ k)

set_option maxRecDepth 100000 in
set_option maxHeartbeats 2000000 in
theorem write_zero (hb : Nat) (A : Option Addr) (n c : Nat) (bs : List By) (w : World) (s : St) (rv : Value) (N : Nat)
    (hH : Hash w hb s rv [] N) (hG : GK w)
    (hbs : RdB w A n bs) (hnc : n ≤ c) (hc : n ≤ 140737488355000) (hoff : 0 < n → ∀ b o, A = some ⟨b, o, none⟩ → b ≠ hb ∧ ¬ inBlk rv b) (hz : ¬ touch hb rv 0) (hN : N + n < 2305843009213693952) :
    Calls Tryd.prog 23 #[.pointer (some ⟨hb, 0, none⟩), .slice A n c] w (Wrote hb w s rv bs (N + n)) := by
  obtain ⟨hH, hown⟩ := hH
  obtain ⟨RA, rc, rfl, hrc, hrm⟩ := hown.slice
  have e8 := hH.cellAt (i := 8) rfl
  have e9 := hH.cellAt (i := 9) rfl
  have f8 := hH.free 8
  have f9 := hH.free 9
  simp only [List.length_nil] at e8 hH hown hz hoff ⊢
  have hG' := Lib.hid hG
  clear hG
  go_enter Tryd.func23, Tryd.ntmps23
  go_wp2
  have hno := hown.ne hH (by decide)
  go_loopw [1] (fun v wr => ∃ (s' : St) (bs' : List By) (A' : Option Addr) (m c' : Nat), v = .slice A' m c' ∧ m ≤ c' ∧ m ≤ n ∧ RdB wr A' m bs' ∧ (0 < m → ∀ b o, A' = some ⟨b, o, none⟩ → b ≠ hb ∧ ¬ inBlk (.slice RA 0 rc) b) ∧
      Fr (only hb) w wr ∧ Blk wr hb 86 (heads s' (.slice RA 0 rc) (.int .u64 ((N + n : Nat) : Int))) ∧ fed s' bs' = fed s bs ∧ left_ bs' = left_ bs) (fun v _ => lenV v)
  case atStart =>
    refine ⟨s, bs, A, n, c, rfl, hnc, Nat.le_refl _, hbs.fr' (Fr.one _ _ _ _) (fun h b o e => (hoff h b o e).1), hoff, Fr.one _ _ _ _, ?_, rfl, rfl⟩
    exact hH.store 9 _
  case round =>
    obtain ⟨s', bs', A', m, c', rfl, hmc, hmn, hbs', hoff', hfr, hHr, hfe, hle⟩ := hrel
    clear e8 e9 f8 f9 hH hbs hoff
    have hfe' := Lib.hid hfe
    have hle' := Lib.hid hle
    have hbs2 := Lib.hid hbs'
    have hoff2 := Lib.hid hoff'
    clear hfe hle hbs' hoff'
    have hGr := hG'.out.fr hfr (fun h => hz (.inl h))
    have hGr' := Lib.hid hGr
    clear hGr
    by_cases hlt : 64 ≤ m
    · obtain ⟨b, o, rfl, hcell⟩ := hbs2.out.2 (by omega)
      have hcell' := Lib.hid hcell
      clear hcell
      by_cases hcap : c' = 64
      · subst hcap
        go_wp2_with fail
        refine (block_any hb b o m _ wr s' _ _ (bs'.take 64) hlt (by omega) (fun j hj => (hcell'.out j (by omega)).trans (by rw [take_getD _ hj])) hHr hGr'.out).mono ?_
        rintro e w2 ⟨rfl, hf2, hB2⟩
        have hcut := (hbs2.out.fr hf2 (fun b o e => (hoff2.out (by omega) b o e).1)).cut (k := 64) hlt hmc
        have hcut' := Lib.hid hcut
        have hfr3 := hfr.trans hf2 (fun _ _ h => h)
        have hl64 : 64 ≤ bs'.length := by rw [hbs2.out.1]; exact hlt
        have hfd := (fed_step s' bs' hl64).trans hfe'.out
        have hld := (left_step bs' hl64).trans hle'.out
        have hfd' := Lib.hid hfd
        have hld' := Lib.hid hld
        clear hcut hfd hld
        go_wp2
        go_roundw
        case measure => simp [lenV]; omega
        case rel =>
          refine ⟨blk s' (bs'.take 64), bs'.drop 64, some ⟨b, o, none⟩, 0, 0, rfl, by omega, by omega, (by have := hcut'.out; rw [show m - 64 = 0 by omega] at this; simpa using this), ?_, hfr3, hB2, hfd'.out, hld'.out⟩
          intro _ b' o' e'
          exact hoff2.out (by omega) b' o' e'
      · go_wp2_with fail
        refine (block_any hb b o m _ wr s' _ _ (bs'.take 64) hlt (by omega) (fun j hj => (hcell'.out j (by omega)).trans (by rw [take_getD _ hj])) hHr hGr'.out).mono ?_
        rintro e w2 ⟨rfl, hf2, hB2⟩
        have hcut := (hbs2.out.fr hf2 (fun b o e => (hoff2.out (by omega) b o e).1)).cut (k := 64) hlt hmc
        have hcut' := Lib.hid hcut
        have hfr3 := hfr.trans hf2 (fun _ _ h => h)
        have hl64 : 64 ≤ bs'.length := by rw [hbs2.out.1]; exact hlt
        have hfd := (fed_step s' bs' hl64).trans hfe'.out
        have hld := (left_step bs' hl64).trans hle'.out
        have hfd' := Lib.hid hfd
        have hld' := Lib.hid hld
        clear hcut hfd hld
        go_wp2
        go_roundw
        case measure => simp [lenV]; omega
        case rel =>
          refine ⟨blk s' (bs'.take 64), bs'.drop 64, _, m - 64, c' - 64, rfl, by omega, by omega, (by have := hcut'.out; rwa [if_neg hcap] at this), ?_, hfr3, hB2, hfd'.out, hld'.out⟩
          intro _ b' o' e'
          simp at e'
          obtain ⟨rfl, _⟩ := e'
          exact hoff2.out (by omega) _ o rfl
    · have e8 := hHr.cellAt (i := 8) rfl
      have f8 := hHr.free 8
      obtain ⟨i5, hi5, hz5, hs5, hb5⟩ := info_parts (P := Tryd.prog) (e := 5) (z := .int .u8 0) (size := 1) (bytes := 1) (by kernel_rfl)
      have hown' : OwB wr (.slice RA 0 rc) [] := hown.fr hfr (fun k hk e => hno (e ▸ hk))
      go_wp2_with (at_builtin; refine wpList_append_bytes _ rfl (.tmp 78) (.tmp 79) 22 rfl i5 Tryd.underlying22 hi5 hz5 hs5 hb5 _ rfl [] hown' A' m c' bs' rfl hbs2.out (by simp; omega) ?_; intro v3 w3 ho3 hf3 hk3; obtain ⟨A1, c1, rfl, h1, h2⟩ := ho3.slice; have hB3 := hHr.fr hf3 hno; have e8' := hB3.cellAt (i := 8) rfl; have f8' := hB3.free 8)
      go_end0
      have hml : bs'.length < 64 := by rw [hbs2.out.1]; omega
      have hB4 := hB3.store 8 (.slice A1 ([] ++ bs').length c1)
      refine ⟨rfl, .slice A1 ([] ++ bs').length c1, ?_, ⟨?_, ?_⟩, ?_⟩
      · exact ((hfr.mono (fun _ _ h => .inl h)).trans hf3 (fun _ _ h => .inr h)).setCell (p := ⟨hb, 8, none⟩) (fun _ => .inl rfl) _
      · rw [← hfe'.out, fed_small _ _ hml]
        exact hB4
      · rw [← hle'.out, left_small _ hml]
        exact ho3.fr (S := only hb) (Fr.one _ _ _ _) (fun k hk e => by
          subst e
          exact ho3.ne hB3 (by decide) hk)
      · intro k hk
        rcases hk3 k hk with h | h
        · exact .inl h
        · exact .inr (by have := hfr.size; omega)

set_option maxRecDepth 100000 in
set_option maxHeartbeats 2000000 in
theorem write_few (hb : Nat) (A : Option Addr) (n c : Nat) (bs rest : List By) (w : World) (s : St) (rv : Value) (N : Nat)
    (hH : Hash w hb s rv rest N) (hr0 : 0 < rest.length) (hr : rest.length + n < 64)
    (hbs : RdB w A n bs) (hnc : n ≤ c) (hoff : 0 < n → ∀ b o, A = some ⟨b, o, none⟩ → b ≠ hb ∧ ¬ inBlk rv b) (hN : N + n < 2305843009213693952) :
    Calls Tryd.prog 23 #[.pointer (some ⟨hb, 0, none⟩), .slice A n c] w (Wrote hb w s rv (rest ++ bs) (N + n)) := by
  obtain ⟨hH, hown⟩ := hH
  obtain ⟨RA, rc, rfl, hrc, hrm⟩ := hown.slice
  have e8 := hH.cellAt (i := 8) rfl
  have e9 := hH.cellAt (i := 9) rfl
  have f8 := hH.free 8
  have f9 := hH.free 9
  go_enter Tryd.func23, Tryd.ntmps23
  obtain ⟨i5, hi5, hz5, hs5, hb5⟩ := info_parts (P := Tryd.prog) (e := 5) (z := .int .u8 0) (size := 1) (bytes := 1) (by kernel_rfl)
  have hno := hown.ne hH (by decide)
  go_wp2
  have hf1 : Fr (only hb) w (w.setCell ⟨hb, 9, none⟩ (.int .u64 (↑N + ↑n))).drew := (Fr.one w hb 9 _).drew
  have hB1 : Blk (w.setCell ⟨hb, 9, none⟩ (.int .u64 (↑N + ↑n))).drew hb 86 (heads s (.slice RA rest.length rc) (.int .u64 (↑N + ↑n))) := (hH.store 9 _).drew
  have ho1 := hown.fr hf1 (fun k hk e => hno (e ▸ hk))
  have hb1 := hbs.fr' hf1 (fun h b o e => (hoff h b o e).1)
  go_region_law (refine step_append_bytes rfl (.tmp 36) (.tmp 39) 22 rfl i5 Tryd.underlying22 hi5 hz5 hs5 hb5 _ rfl rest ho1 A n c bs rfl hb1 (by omega) ?_; intro A1 c1 w3 ho3 hf3 hk3; have hB3 := hB1.fr hf3 hno; have e8' := hB3.cellAt (i := 8) rfl; have f8' := hB3.free 8; clear e8 e9 f8 f9)
  go_wp2
  all_goals
    go_end0
    have hml : (rest ++ bs).length < 64 := by rw [List.length_append, hb1.1]; omega
    have hB4 := hB3.store 8 (.slice A1 (rest.length + n) c1)
    refine ⟨rfl, .slice A1 (rest.length + n) c1, ?_, ⟨?_, ?_⟩, ?_⟩
    · exact ((hf1.mono (fun _ _ h => .inl h)).trans hf3 (fun _ _ h => .inr h)).setCell (p := ⟨hb, 8, none⟩) (fun _ => .inl rfl) _
    · rw [fed_small _ _ hml]
      exact hB4
    · rw [left_small _ hml]
      exact ho3.fr (S := only hb) (Fr.one _ _ _ _) (fun k hk e => by
        subst e
        exact ho3.ne hB3 (by decide) hk)
    · intro k hk
      rcases hk3 k hk with h | h
      · exact .inl h
      · exact .inr (by have := hf1.size; omega)

set_option maxRecDepth 100000 in
set_option maxHeartbeats 2000000 in
theorem write_fill (hb : Nat) (A : Option Addr) (n c : Nat) (bs rest : List By) (w : World) (s : St) (rv : Value) (N : Nat)
    (hH : Hash w hb s rv rest N) (hr0 : 0 < rest.length) (hr1 : rest.length < 64) (hr : 64 < rest.length + n) (hG : GK w)
    (hbs : RdB w A n bs) (hnc : n ≤ c) (hc : n ≤ 140737488355000) (hoff : 0 < n → ∀ b o, A = some ⟨b, o, none⟩ → b ≠ hb ∧ ¬ inBlk rv b) (hz : ¬ touch hb rv 0) (hN : N + n < 2305843009213693952) :
    Calls Tryd.prog 23 #[.pointer (some ⟨hb, 0, none⟩), .slice A n c] w (Wrote hb w s rv (rest ++ bs) (N + n)) := by
  obtain ⟨ab, ao, rfl, _⟩ := hbs.2 (by omega)
  have hoffb := hoff (by omega) ab ao rfl
  obtain ⟨hH, hown⟩ := hH
  obtain ⟨RA, rc, rfl, hrc, hrm⟩ := hown.slice
  have e8 := hH.cellAt (i := 8) rfl
  have e9 := hH.cellAt (i := 9) rfl
  have f8 := hH.free 8
  have f9 := hH.free 9
  obtain ⟨m, hm⟩ : ∃ m, 64 = rest.length + m := ⟨64 - rest.length, by omega⟩
  have HM := Lib.hid hm
  have hm1 : m ≤ 64 - rest.length := by omega
  have hm2 : 64 - rest.length ≤ m := by omega
  have hm3 : (64 : Int) - ↑rest.length = ↑m := by omega
  have hmn : m < n := by omega
  have hmc1 : m ≤ c := by omega
  clear hm
  have hG' := Lib.hid hG
  clear hG
  obtain ⟨i5, hi5, hz5, hs5, hb5⟩ := info_parts (P := Tryd.prog) (e := 5) (z := .int .u8 0) (size := 1) (bytes := 1) (by kernel_rfl)
  have hno := hown.ne hH (by decide)
  go_enter Tryd.func23, Tryd.ntmps23
  go_wp2
  have hf1 : Fr (only hb) w (w.setCell ⟨hb, 9, none⟩ (.int .u64 (↑N + ↑n))).drew := (Fr.one w hb 9 _).drew
  have hB1 : Blk (w.setCell ⟨hb, 9, none⟩ (.int .u64 (↑N + ↑n))).drew hb 86 (heads s (.slice RA rest.length rc) (.int .u64 (↑N + ↑n))) := (hH.store 9 _).drew
  have ho1 := hown.fr hf1 (fun k hk e => hno (e ▸ hk))
  have hb1 := hbs.fr hf1 (fun b o e => by cases e; exact hoffb.1)
  go_region_law (refine step_append_bytes rfl (.tmp 36) (.tmp 39) 22 rfl i5 Tryd.underlying22 hi5 hz5 hs5 hb5 (.slice RA rest.length rc) rfl rest ho1 (some ⟨ab, ao, none⟩) m c (bs.take m) rfl (hb1.front (by omega)) (by omega) ?_; intro A1 c1 w3 ho3 hf3 hk3; have hB3 := hB1.fr hf3 hno; have e8' := hB3.cellAt (i := 8) rfl; have f8' := hB3.free 8; clear e8 e9 f8 f9)
  have hl3 : (rest ++ bs.take m).length = 64 := by rw [List.length_append, List.length_take, hb1.1]; omega
  obtain ⟨hr4, hi4⟩ := ho3.rd rfl
  rw [← HM.out] at hr4
  obtain ⟨g, o, rfl, hcell⟩ := hr4.2 (by omega)
  have hig := hi4 g o rfl
  have hgb : g ≠ hb := fun e => ho3.ne hB3 (by decide) (e ▸ hig)
  have hl3' := Lib.hid hl3
  have hcell' := Lib.hid hcell
  have hB4 := hB3.store 8 (.slice (some ⟨g, o, none⟩) (rest.length + m) c1)
  have hG4 : GK (w3.setCell ⟨hb, 8, none⟩ (.slice (some ⟨g, o, none⟩) (rest.length + m) c1)) :=
    ((hG'.out.fr hf1 (fun h => hz (.inl h))).fr hf3 (fun h => hz (.inr h))).fr (Fr.one _ _ _ _) (fun h => hz (.inl h))
  have hG4' := Lib.hid hG4
  have hf1' := Lib.hid hf1
  have hb1' := Lib.hid hb1
  clear hl3 hcell hi4 hG4 hB1 ho1 hf1 hb1 hr4 hB3 hbs hH hown
  go_wp2_with fail
  refine (block_any hb g o (rest.length + m) c1 _ s (.slice (some ⟨g, o, none⟩) (rest.length + m) c1) (.int .u64 (↑N + ↑n)) (rest ++ bs.take m) (by omega) (by omega)
    (fun j hj => ((Fr.one _ _ _ _).cell (p := ⟨g, o + j, none⟩) (block_lt_of_cell (hcell'.out j hj)) hgb).trans (hcell'.out j hj)) hB4 hG4'.out).mono ?_
  rintro e w5 ⟨rfl, hf5, hB5⟩
  clear e8' f8'
  have e8 := hB5.cellAt (i := 8) rfl
  have f8 := hB5.free 8
  have hfw : Fr (touch hb (.slice RA rest.length rc)) w w5 :=
    (((hf1'.out.mono (S' := touch hb (.slice RA rest.length rc)) (fun _ _ h => .inl h)).trans hf3 (fun _ _ h => .inr h)).trans (Fr.one w3 hb 8 (.slice (some ⟨g, o, none⟩) (rest.length + m) c1)) (fun _ _ h => .inl h)).trans hf5 (fun _ _ h => .inl h)
  have ho5 : OwB w5 (.slice (some ⟨g, o, none⟩) 0 c1) [] := by
    have := (ho3.fr (Fr.one w3 hb 8 (.slice (some ⟨g, o, none⟩) (rest.length + m) c1)) (fun k hk e => hgb (by
      have h1 : some g = some k := hig.symm.trans hk
      cases h1; exact e))).fr hf5 (fun k hk e => hgb (by
      have h1 : some g = some k := hig.symm.trans hk
      cases h1; exact e))
    exact this.front (k := 0) (Nat.zero_le _)
  have hb5 := (((hb1'.out.fr hf3 (fun b o e => by cases e; exact hoffb.2)).fr (Fr.one w3 hb 8 (.slice (some ⟨g, o, none⟩) (rest.length + m) c1)) (fun b o e => by cases e; exact hoffb.1)).fr hf5 (fun b o e => by cases e; exact hoffb.1)).cut (k := m) (by omega) hnc
  have hno5 := ho5.ne hB5 (by decide)
  have hB6 := hB5.store 8 (.slice (some ⟨g, o, none⟩) 0 c1)
  have hf6 : Fr (touch hb (.slice RA rest.length rc)) w (w5.setCell ⟨hb, 8, none⟩ (.slice (some ⟨g, o, none⟩) 0 c1)) := hfw.trans (Fr.one _ _ _ _) (fun _ _ h => .inl h)
  have ho6 : OwB (w5.setCell ⟨hb, 8, none⟩ (.slice (some ⟨g, o, none⟩) 0 c1)) (.slice (some ⟨g, o, none⟩) 0 c1) [] := ho5.fr (Fr.one _ _ _ _) (fun k hk e => hno5 (e ▸ hk))
  rw [if_neg (by omega)] at hb5
  simp only [Option.map_some, Addr.add_lit] at hb5
  have hb6 := hb5.fr (Fr.one w5 hb 8 (.slice (some ⟨g, o, none⟩) 0 c1)) (fun b' o' e => by cases e; exact hoffb.1)
  have hG5 := hG4'.out.fr hf5 (fun h => hz (.inl h))
  have hg0 : ∀ k, inBlk (.slice (some ⟨g, o, none⟩) 0 c1) k → inBlk (.slice RA rest.length rc) k ∨ w.heap.size ≤ k := fun k hk => by
    rcases hk3 k hk with h | h
    · exact .inl h
    · exact .inr (Nat.le_trans hf1'.out.size h)
  have hfd0 : fed (blk s (rest ++ bs.take m)) (bs.drop m) = fed s (rest ++ bs) := by
    rw [← fed_block s _ _ hl3'.out, List.append_assoc, List.take_append_drop]
  have hld0 : left_ (bs.drop m) = left_ (rest ++ bs) := by
    rw [← left_block _ _ hl3'.out, List.append_assoc, List.take_append_drop]
  have hb6' := Lib.hid hb6
  have hG5' := Lib.hid hG5
  have hfd0' := Lib.hid hfd0
  have hld0' := Lib.hid hld0
  have hfw' := Lib.hid hfw
  have hg0' := Lib.hid hg0
  have hk3' := Lib.hid hk3
  have hf5' := Lib.hid hf5
  clear hb5 hB5 hf6 ho6 hf5 hfw hb6 hoff hG5 hfd0 hld0 hg0 hk3 hf3
  go_wp2
  clear e8 f8
  go_loopw [1] (fun v wr => ∃ (s' : St) (bs' : List By) (A' : Option Addr) (m' c' : Nat), v = .slice A' m' c' ∧ m' ≤ c' ∧ m' ≤ n ∧ RdB wr A' m' bs' ∧ (∀ b o, A' = some ⟨b, o, none⟩ → b ≠ hb ∧ ¬ inBlk (.slice RA rest.length rc) b) ∧
      Fr (only hb) w5 wr ∧ Blk wr hb 86 (heads s' (.slice (some ⟨g, o, none⟩) 0 c1) (.int .u64 (↑N + ↑n))) ∧ fed s' bs' = fed s (rest ++ bs) ∧ left_ bs' = left_ (rest ++ bs)) (fun v _ => lenV v)
  case atStart =>
    exact ⟨blk s (rest ++ bs.take m), bs.drop m, some ⟨ab, ao + m, none⟩, n - m, c - m, rfl, by omega, by omega, (by have := hb6'.out; simpa using this), (fun b o e => by cases e; exact hoffb), Fr.one _ _ _ _, hB6, hfd0'.out, hld0'.out⟩
  case round =>
    obtain ⟨s', bs', A', m', c', rfl, hmc, hmn', hbs', hoff', hfr, hHr, hfe, hle⟩ := hrel
    clear hB6
    have hfe' := Lib.hid hfe
    have hle' := Lib.hid hle
    have hbs2 := Lib.hid hbs'
    have hoff2 := Lib.hid hoff'
    clear hfe hle hbs' hoff'
    have hGr := hG5'.out.fr hfr (fun h => hz (.inl h))
    have hGr' := Lib.hid hGr
    clear hGr
    by_cases hlt : 64 ≤ m'
    · obtain ⟨b, ob, rfl, hcell⟩ := hbs2.out.2 (by omega)
      have hcell' := Lib.hid hcell
      clear hcell
      by_cases hcap : c' = 64
      · subst hcap
        go_wp2_with fail
        refine (block_any hb b ob m' _ wr s' _ _ (bs'.take 64) hlt (by omega) (fun j hj => (hcell'.out j (by omega)).trans (by rw [take_getD _ hj])) hHr hGr'.out).mono ?_
        rintro e w2 ⟨rfl, hf2, hB2⟩
        have hcut := (hbs2.out.fr hf2 (fun b o e => (hoff2.out b o e).1)).cut (k := 64) hlt hmc
        have hcut' := Lib.hid hcut
        have hfr3 := hfr.trans hf2 (fun _ _ h => h)
        have hl64 : 64 ≤ bs'.length := by rw [hbs2.out.1]; exact hlt
        have hfd := (fed_step s' bs' hl64).trans hfe'.out
        have hld := (left_step bs' hl64).trans hle'.out
        have hfd' := Lib.hid hfd
        have hld' := Lib.hid hld
        clear hcut hfd hld
        go_wp2
        go_roundw
        case measure => simp [lenV]; omega
        case rel =>
          refine ⟨blk s' (bs'.take 64), bs'.drop 64, some ⟨b, ob, none⟩, 0, 0, rfl, by omega, by omega, (by have := hcut'.out; rw [show m' - 64 = 0 by omega] at this; simpa using this), ?_, hfr3, hB2, hfd'.out, hld'.out⟩
          intro b' o' e'
          exact hoff2.out b' o' e'
      · go_wp2_with fail
        refine (block_any hb b ob m' _ wr s' _ _ (bs'.take 64) hlt (by omega) (fun j hj => (hcell'.out j (by omega)).trans (by rw [take_getD _ hj])) hHr hGr'.out).mono ?_
        rintro e w2 ⟨rfl, hf2, hB2⟩
        have hcut := (hbs2.out.fr hf2 (fun b o e => (hoff2.out b o e).1)).cut (k := 64) hlt hmc
        have hcut' := Lib.hid hcut
        have hfr3 := hfr.trans hf2 (fun _ _ h => h)
        have hl64 : 64 ≤ bs'.length := by rw [hbs2.out.1]; exact hlt
        have hfd := (fed_step s' bs' hl64).trans hfe'.out
        have hld := (left_step bs' hl64).trans hle'.out
        have hfd' := Lib.hid hfd
        have hld' := Lib.hid hld
        clear hcut hfd hld
        go_wp2
        go_roundw
        case measure => simp [lenV]; omega
        case rel =>
          refine ⟨blk s' (bs'.take 64), bs'.drop 64, _, m' - 64, c' - 64, rfl, by omega, by omega, (by have := hcut'.out; rwa [if_neg hcap] at this), ?_, hfr3, hB2, hfd'.out, hld'.out⟩
          intro b' o' e'
          simp at e'
          obtain ⟨rfl, _⟩ := e'
          exact hoff2.out _ ob rfl
    · have e8 := hHr.cellAt (i := 8) rfl
      have f8 := hHr.free 8
      have hown' : OwB wr (.slice (some ⟨g, o, none⟩) 0 c1) [] := ho5.fr hfr (fun k hk e => hno5 (e ▸ hk))
      go_wp2_with (at_builtin; refine wpList_append_bytes _ rfl (.tmp 78) (.tmp 79) 22 rfl i5 Tryd.underlying22 hi5 hz5 hs5 hb5 _ rfl [] hown' A' m' c' bs' rfl hbs2.out (by simp; omega) ?_; intro v3 w3 ho3 hf3 hk3; obtain ⟨A1, c1, rfl, h1, h2⟩ := ho3.slice; have hB3 := hHr.fr hf3 hno5; have e8' := hB3.cellAt (i := 8) rfl; have f8' := hB3.free 8)
      go_end0
      have hml : bs'.length < 64 := by rw [hbs2.out.1]; omega
      have hB4 := hB3.store 8 (.slice A1 ([] ++ bs').length c1)
      have hsz := hfw'.out.size
      refine ⟨rfl, .slice A1 ([] ++ bs').length c1, ?_, ⟨?_, ?_⟩, ?_⟩
      · exact ((hfw'.out.trans hfr (fun _ _ h => .inl h)).trans hf3 (fun k hk h => (hg0'.out k h).elim .inr (fun h => absurd h (by omega)))).setCell (p := ⟨hb, 8, none⟩) (fun _ => .inl rfl) _
      · rw [← hfe'.out, fed_small _ _ hml]
        exact hB4
      · rw [← hle'.out, left_small _ hml]
        exact ho3.fr (S := only hb) (Fr.one _ _ _ _) (fun k hk e => by
          subst e
          exact ho3.ne hB3 (by decide) hk)
      · intro k hk
        rcases hk3 k hk with h | h
        · exact hg0'.out k h
        · exact .inr (by have := hfr.size; omega)

set_option maxRecDepth 100000 in
set_option maxHeartbeats 2000000 in
theorem write_fill_eq (hb : Nat) (A : Option Addr) (n c : Nat) (bs rest : List By) (w : World) (s : St) (rv : Value) (N : Nat)
    (hH : Hash w hb s rv rest N) (hr0 : 0 < rest.length) (hr1 : rest.length < 64) (hr : 64 ≤ rest.length + n) (hr2 : rest.length + n ≤ 64) (hG : GK w)
    (hbs : RdB w A n bs) (hnc : n ≤ c) (_hc : n ≤ 140737488355000) (hoff : 0 < n → ∀ b o, A = some ⟨b, o, none⟩ → b ≠ hb ∧ ¬ inBlk rv b) (hz : ¬ touch hb rv 0) (hN : N + n < 2305843009213693952) :
    Calls Tryd.prog 23 #[.pointer (some ⟨hb, 0, none⟩), .slice A n c] w (Wrote hb w s rv (rest ++ bs) (N + n)) := by
  obtain ⟨ab, ao, rfl, _⟩ := hbs.2 (by omega)
  have hoffb := hoff (by omega) ab ao rfl
  obtain ⟨hH, hown⟩ := hH
  obtain ⟨RA, rc, rfl, hrc, hrm⟩ := hown.slice
  have e8 := hH.cellAt (i := 8) rfl
  have e9 := hH.cellAt (i := 9) rfl
  have f8 := hH.free 8
  have f9 := hH.free 9
  have HM := Lib.hid (show 64 = rest.length + n by omega)
  have hm1 : n ≤ 64 - rest.length := by omega
  have hm2 : 64 - rest.length ≤ n := by omega
  have hm3 : (64 : Int) - ↑rest.length = ↑n := by omega
  have hG' := Lib.hid hG
  clear hG
  obtain ⟨i5, hi5, hz5, hs5, hb5⟩ := info_parts (P := Tryd.prog) (e := 5) (z := .int .u8 0) (size := 1) (bytes := 1) (by kernel_rfl)
  have hno := hown.ne hH (by decide)
  go_enter Tryd.func23, Tryd.ntmps23
  go_wp2
  have hf1 : Fr (only hb) w (w.setCell ⟨hb, 9, none⟩ (.int .u64 (↑N + ↑n))).drew := (Fr.one w hb 9 _).drew
  have hB1 : Blk (w.setCell ⟨hb, 9, none⟩ (.int .u64 (↑N + ↑n))).drew hb 86 (heads s (.slice RA rest.length rc) (.int .u64 (↑N + ↑n))) := (hH.store 9 _).drew
  have ho1 := hown.fr hf1 (fun k hk e => hno (e ▸ hk))
  have hb1 := hbs.fr hf1 (fun b o e => by cases e; exact hoffb.1)
  go_region_law (refine step_append_bytes rfl (.tmp 36) (.tmp 39) 22 rfl i5 Tryd.underlying22 hi5 hz5 hs5 hb5 (.slice RA rest.length rc) rfl rest ho1 (some ⟨ab, ao, none⟩) n c (bs.take n) rfl (hb1.front (by omega)) (by omega) ?_; intro A1 c1 w3 ho3 hf3 hk3; have hB3 := hB1.fr hf3 hno; have e8' := hB3.cellAt (i := 8) rfl; have f8' := hB3.free 8; clear e8 e9 f8 f9)
  have hl3 : (rest ++ bs.take n).length = 64 := by rw [List.length_append, List.length_take, hb1.1]; omega
  obtain ⟨hr4, hi4⟩ := ho3.rd rfl
  rw [← HM.out] at hr4
  obtain ⟨g, o, rfl, hcell⟩ := hr4.2 (by omega)
  have hig := hi4 g o rfl
  have hgb : g ≠ hb := fun e => ho3.ne hB3 (by decide) (e ▸ hig)
  have hl3' := Lib.hid hl3
  have hcell' := Lib.hid hcell
  have hB4 := hB3.store 8 (.slice (some ⟨g, o, none⟩) (rest.length + n) c1)
  have hG4 : GK (w3.setCell ⟨hb, 8, none⟩ (.slice (some ⟨g, o, none⟩) (rest.length + n) c1)) :=
    ((hG'.out.fr hf1 (fun h => hz (.inl h))).fr hf3 (fun h => hz (.inr h))).fr (Fr.one _ _ _ _) (fun h => hz (.inl h))
  have hG4' := Lib.hid hG4
  have hf1' := Lib.hid hf1
  have hb1' := Lib.hid hb1
  clear hl3 hcell hi4 hG4 hB1 ho1 hf1 hb1 hr4 hB3 hbs hH hown
  go_wp2_with fail
  all_goals
    refine (block_any hb g o (rest.length + n) c1 _ s (.slice (some ⟨g, o, none⟩) (rest.length + n) c1) (.int .u64 (↑N + ↑n)) (rest ++ bs.take n) (by omega) (by omega)
      (fun j hj => ((Fr.one _ _ _ _).cell (p := ⟨g, o + j, none⟩) (block_lt_of_cell (hcell'.out j hj)) hgb).trans (hcell'.out j hj)) hB4 hG4'.out).mono ?_
    rintro e w5 ⟨rfl, hf5, hB5⟩
    clear e8' f8'
    have e8 := hB5.cellAt (i := 8) rfl
    have f8 := hB5.free 8
    have hfw : Fr (touch hb (.slice RA rest.length rc)) w w5 :=
      (((hf1'.out.mono (S' := touch hb (.slice RA rest.length rc)) (fun _ _ h => .inl h)).trans hf3 (fun _ _ h => .inr h)).trans (Fr.one w3 hb 8 (.slice (some ⟨g, o, none⟩) (rest.length + n) c1)) (fun _ _ h => .inl h)).trans hf5 (fun _ _ h => .inl h)
    have ho5 : OwB w5 (.slice (some ⟨g, o, none⟩) 0 c1) [] := by
      have := (ho3.fr (Fr.one w3 hb 8 (.slice (some ⟨g, o, none⟩) (rest.length + n) c1)) (fun k hk e => hgb (by
        have h1 : some g = some k := hig.symm.trans hk
        cases h1; exact e))).fr hf5 (fun k hk e => hgb (by
        have h1 : some g = some k := hig.symm.trans hk
        cases h1; exact e))
      exact this.front (k := 0) (Nat.zero_le _)
    have hb5 := (((hb1'.out.fr hf3 (fun b o e => by cases e; exact hoffb.2)).fr (Fr.one w3 hb 8 (.slice (some ⟨g, o, none⟩) (rest.length + n) c1)) (fun b o e => by cases e; exact hoffb.1)).fr hf5 (fun b o e => by cases e; exact hoffb.1)).cut (k := n) (by omega) hnc
    have hno5 := ho5.ne hB5 (by decide)
    have hB6 := hB5.store 8 (.slice (some ⟨g, o, none⟩) 0 c1)
    have hf6 : Fr (touch hb (.slice RA rest.length rc)) w (w5.setCell ⟨hb, 8, none⟩ (.slice (some ⟨g, o, none⟩) 0 c1)) := hfw.trans (Fr.one _ _ _ _) (fun _ _ h => .inl h)
    have ho6 : OwB (w5.setCell ⟨hb, 8, none⟩ (.slice (some ⟨g, o, none⟩) 0 c1)) (.slice (some ⟨g, o, none⟩) 0 c1) [] := ho5.fr (Fr.one _ _ _ _) (fun k hk e => hno5 (e ▸ hk))
    have hdn : bs.drop n = [] := List.drop_of_length_le (by rw [hb1'.out.1]; exact Nat.le_refl _)
    have hdn' := Lib.hid hdn
    clear hdn
    have hG5 := hG4'.out.fr hf5 (fun h => hz (.inl h))
    have hg0 : ∀ k, inBlk (.slice (some ⟨g, o, none⟩) 0 c1) k → inBlk (.slice RA rest.length rc) k ∨ w.heap.size ≤ k := fun k hk => by
      rcases hk3 k hk with h | h
      · exact .inl h
      · exact .inr (Nat.le_trans hf1'.out.size h)
    have hfd0 : fed (blk s (rest ++ bs.take n)) (bs.drop n) = fed s (rest ++ bs) := by
      rw [← fed_block s _ _ hl3'.out, List.append_assoc, List.take_append_drop]
    have hld0 : left_ (bs.drop n) = left_ (rest ++ bs) := by
      rw [← left_block _ _ hl3'.out, List.append_assoc, List.take_append_drop]
    have hG5' := Lib.hid hG5
    have hfd0' := Lib.hid hfd0
    have hld0' := Lib.hid hld0
    have hfw' := Lib.hid hfw
    have hg0' := Lib.hid hg0
    have hk3' := Lib.hid hk3
    have hf5' := Lib.hid hf5
    clear hb5 hB5 hf6 ho6 hf5 hfw hoff hG5 hfd0 hld0 hg0 hk3 hf3
    go_wp2
    clear e8 f8
    go_loopw [1] (fun v wr => ∃ (s' : St) (bs' : List By) (A' : Option Addr) (m' c' : Nat), v = .slice A' m' c' ∧ m' ≤ c' ∧ m' ≤ n ∧ RdB wr A' m' bs' ∧ (∀ b o, A' = some ⟨b, o, none⟩ → b ≠ hb ∧ ¬ inBlk (.slice RA rest.length rc) b) ∧
        Fr (only hb) w5 wr ∧ Blk wr hb 86 (heads s' (.slice (some ⟨g, o, none⟩) 0 c1) (.int .u64 (↑N + ↑n))) ∧ fed s' bs' = fed s (rest ++ bs) ∧ left_ bs' = left_ (rest ++ bs)) (fun v _ => lenV v)
    case atStart =>
      refine ⟨blk s (rest ++ bs.take n), bs.drop n, _, 0, _, rfl, Nat.zero_le _, Nat.zero_le _, ⟨by rw [hdn'.out]; rfl, fun h => absurd h (by omega)⟩, ?_, Fr.one _ _ _ _, hB6, hfd0'.out, hld0'.out⟩
      intro b o e
      simp at e
      obtain ⟨rfl, _⟩ := e
      exact hoffb
    case round =>
      obtain ⟨s', bs', A', m', c', rfl, hmc, hmn', hbs', hoff', hfr, hHr, hfe, hle⟩ := hrel
      clear hB6
      have hfe' := Lib.hid hfe
      have hle' := Lib.hid hle
      have hbs2 := Lib.hid hbs'
      have hoff2 := Lib.hid hoff'
      clear hfe hle hbs' hoff'
      have hGr := hG5'.out.fr hfr (fun h => hz (.inl h))
      have hGr' := Lib.hid hGr
      clear hGr
      by_cases hlt : 64 ≤ m'
      · exfalso; omega
      · have e8 := hHr.cellAt (i := 8) rfl
        have f8 := hHr.free 8
        have hown' : OwB wr (.slice (some ⟨g, o, none⟩) 0 c1) [] := ho5.fr hfr (fun k hk e => hno5 (e ▸ hk))
        go_wp2_with (at_builtin; refine wpList_append_bytes _ rfl (.tmp 78) (.tmp 79) 22 rfl i5 Tryd.underlying22 hi5 hz5 hs5 hb5 _ rfl [] hown' A' m' c' bs' rfl hbs2.out (by simp; omega) ?_; intro v3 w3 ho3 hf3 hk3; obtain ⟨A1, c1, rfl, h1, h2⟩ := ho3.slice; have hB3 := hHr.fr hf3 hno5; have e8' := hB3.cellAt (i := 8) rfl; have f8' := hB3.free 8)
        go_end0
        have hml : bs'.length < 64 := by rw [hbs2.out.1]; omega
        have hB4 := hB3.store 8 (.slice A1 ([] ++ bs').length c1)
        have hsz := hfw'.out.size
        refine ⟨rfl, .slice A1 ([] ++ bs').length c1, ?_, ⟨?_, ?_⟩, ?_⟩
        · exact ((hfw'.out.trans hfr (fun _ _ h => .inl h)).trans hf3 (fun k hk h => (hg0'.out k h).elim .inr (fun h => absurd h (by omega)))).setCell (p := ⟨hb, 8, none⟩) (fun _ => .inl rfl) _
        · rw [← hfe'.out, fed_small _ _ hml]
          exact hB4
        · rw [← hle'.out, left_small _ hml]
          exact ho3.fr (S := only hb) (Fr.one _ _ _ _) (fun k hk e => by
            subst e
            exact ho3.ne hB3 (by decide) hk)
        · intro k hk
          rcases hk3 k hk with h | h
          · exact hg0'.out k h
          · exact .inr (by have := hfr.size; omega)

theorem write_any (hb : Nat) (A : Option Addr) (n c : Nat) (bs rest : List By) (w : World) (s : St) (rv : Value) (N : Nat)
    (hH : Hash w hb s rv rest N) (hr : rest.length < 64) (hG : GK w)
    (hbs : RdB w A n bs) (hnc : n ≤ c) (hc : n ≤ 140737488355000) (hoff : 0 < n → ∀ b o, A = some ⟨b, o, none⟩ → b ≠ hb ∧ ¬ inBlk rv b) (hz : ¬ touch hb rv 0) (hN : N + n < 2305843009213693952) :
    Calls Tryd.prog 23 #[.pointer (some ⟨hb, 0, none⟩), .slice A n c] w (Wrote hb w s rv (rest ++ bs) (N + n)) := by
  rcases Nat.eq_zero_or_pos rest.length with h0 | h0
  · obtain rfl : rest = [] := List.eq_nil_of_length_eq_zero h0
    exact write_zero hb A n c bs w s rv N hH hG hbs hnc hc hoff hz hN
  · rcases Nat.lt_trichotomy (rest.length + n) 64 with h | h | h
    · exact write_few hb A n c bs rest w s rv N hH h0 h hbs hnc hoff hN
    · exact write_fill_eq hb A n c bs rest w s rv N hH h0 hr (by omega) (by omega) hG hbs hnc hc hoff hz hN
    · exact write_fill hb A n c bs rest w s rv N hH h0 hr h hG hbs hnc hc hoff hz hN
end Go.Proofs.YtelhoejoncnccaaDoor
