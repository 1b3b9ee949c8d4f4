/- The law of two that are apart: the walk. -/
import Derived.Test.YtelhoejoncnccaaDoorD2
import Derived.Deep.QuietTactic
import Derived.BigQuiet
import Derived.Deep.RegionLaw
import Derived.StillTailTactics
namespace Go.Proofs.YtelhoejoncnccaaDoor
open Go Go.RowKit
def upd {α : Type} (f : Nat → α) (p : Nat) (v : α) (q : Nat) : α := if q = p then v else f q
theorem upd_same {α : Type} (f : Nat → α) (p : Nat) (v : α) : upd f p v p = v := if_pos rfl
theorem upd_ne {α : Type} (f : Nat → α) {p q : Nat} (v : α) (h : q ≠ p) : upd f p v q = f q := if_neg h
/-- Two hashes, at b and b + 1, and two rows of bytes, all apart. -/
structure Two (w wr : World) (b : Nat) (rv av : Nat → Value) (X Y : Nat → List By) : Prop where
  fr : Fr none_ w wr
  h : ∀ p, p < 2 → Going wr (b + p) (rv p) (X p)
  a : ∀ p, p < 2 → OwB wr (av p) (Y p)
  b0 : w.heap.size ≤ b
  rv0 : ∀ p k, p < 2 → inBlk (rv p) k → w.heap.size ≤ k
  av0 : ∀ p k, p < 2 → inBlk (av p) k → w.heap.size ≤ k
  rr : ∀ p q k, p < 2 → q < 2 → p ≠ q → inBlk (rv p) k → ¬ inBlk (rv q) k
  aa : ∀ p q k, p < 2 → q < 2 → p ≠ q → inBlk (av p) k → ¬ inBlk (av q) k
  ra : ∀ p q k, p < 2 → q < 2 → inBlk (rv p) k → ¬ inBlk (av q) k
section
variable {S : Nat → Prop} {w wr wx : World} {b : Nat} {rv av : Nat → Value} {X Y : Nat → List By}
theorem Two.step (t : Two w wr b rv av X Y) (hf : Fr S wr wx) (h1 : ∀ p, p < 2 → ¬ S (b + p)) (h3 : ∀ p k, p < 2 → inBlk (rv p) k → ¬ S k) (h4 : ∀ p k, p < 2 → inBlk (av p) k → ¬ S k) (h5 : ∀ k, S k → w.heap.size ≤ k) : Two w wx b rv av X Y :=
  ⟨t.fr.trans hf (fun b hb s => absurd (h5 b s) (by omega)), fun p hp => (t.h p hp).fr hf (h1 p hp) (h3 p · hp), fun p hp => (t.a p hp).fr hf (h4 p · hp), t.b0, t.rv0, t.av0, t.rr, t.aa, t.ra⟩
theorem Two.still (t : Two w wr b rv av X Y) (hf : Fr none_ wr wx) : Two w wx b rv av X Y :=
  t.step hf (fun _ _ => id) (fun _ _ _ _ => id) (fun _ _ _ _ => id) (fun _ h => h.elim)
theorem Two.wrote (t : Two w wr b rv av X Y) {p : Nat} (hp : p < 2) {rv' : Value} {bs : List By} (hf : Fr (touch (b + p) (rv p)) wr wx) (hh : Going wx (b + p) rv' (X p ++ bs)) (hk : ∀ k, inBlk rv' k → inBlk (rv p) k ∨ wr.heap.size ≤ k) :
    Two w wx b (upd rv p rv') av (upd X p (X p ++ bs)) Y := by
  have hn : ∀ k, touch (b + p) (rv p) k → w.heap.size ≤ k := fun k h => by
    rcases h with h | h
    · have := t.b0; omega
    · exact t.rv0 p k hp h
  have hsz := t.fr.size
  refine ⟨t.fr.trans hf (fun b hb s => absurd (hn b s) (by omega)), fun q hq => ?_, fun q hq => (t.a q hq).fr hf (fun k h1 h2 => ?_), t.b0, fun q k hq h => ?_, t.av0, fun q q' k hq hq' hne h h' => ?_, t.aa, fun q q' k hq hq' h h' => ?_⟩
  · by_cases e : q = p
    · subst e
      rw [upd_same, upd_same]
      exact hh
    · rw [upd_ne _ _ e, upd_ne _ _ e]
      refine (t.h q hq).fr hf (fun h => ?_) (fun k h1 h2 => ?_)
      · rcases h with h | h
        · omega
        · exact ((t.h p hp).own.ne (t.h q hq).blk (by decide)) h
      · rcases h2 with h2 | h2
        · subst h2
          exact ((t.h q hq).own.ne (t.h p hp).blk (by decide)) h1
        · exact t.rr q p k hq hp e h1 h2
  · rcases h2 with h2 | h2
    · subst h2
      exact ((t.a q hq).ne (t.h p hp).blk (by decide)) h1
    · exact t.ra p q k hp hq h2 h1
  · by_cases e : q = p
    · subst e
      rw [upd_same] at h
      rcases hk k h with h | h
      · exact t.rv0 q k hq h
      · omega
    · rw [upd_ne _ _ e] at h
      exact t.rv0 q k hq h
  · by_cases e : q = p
    · subst e
      rw [upd_same] at h
      rw [upd_ne _ _ (Ne.symm hne)] at h'
      rcases hk k h with h | h
      · exact t.rr q q' k hq hq' hne h h'
      · have := (t.h q' hq').own.lt k h'; omega
    · rw [upd_ne _ _ e] at h
      by_cases e' : q' = p
      · subst e'
        rw [upd_same] at h'
        rcases hk k h' with h' | h'
        · exact t.rr q q' k hq hq' hne h h'
        · have := (t.h q hq).own.lt k h; omega
      · rw [upd_ne _ _ e'] at h'
        exact t.rr q q' k hq hq' hne h h'
  · by_cases e : q = p
    · subst e
      rw [upd_same] at h
      rcases hk k h with h | h
      · exact t.ra q q' k hq hq' h h'
      · have := (t.a q' hq').lt k h'; omega
    · rw [upd_ne _ _ e] at h
      exact t.ra q q' k hq hq' h h'
theorem Two.grew (t : Two w wr b rv av X Y) {p : Nat} (hp : p < 2) {av' : Value} {bs : List By} (hf : Fr (inBlk (av p)) wr wx) (ha : OwB wx av' (Y p ++ bs)) (hk : ∀ k, inBlk av' k → inBlk (av p) k ∨ wr.heap.size ≤ k) :
    Two w wx b rv (upd av p av') X (upd Y p (Y p ++ bs)) := by
  have hsz := t.fr.size
  refine ⟨t.fr.trans hf (fun b hb s => absurd (t.av0 p b hp s) (by omega)), fun q hq => (t.h q hq).fr hf ((t.a p hp).ne (t.h q hq).blk (by decide)) (fun k h => t.ra q p k hq hp h), fun q hq => ?_, t.b0, t.rv0, fun q k hq h => ?_, t.rr, fun q q' k hq hq' hne h h' => ?_, fun q q' k hq hq' h h' => ?_⟩
  · by_cases e : q = p
    · subst e
      rw [upd_same, upd_same]
      exact ha
    · rw [upd_ne _ _ e, upd_ne _ _ e]
      exact (t.a q hq).fr hf (fun k h => t.aa q p k hq hp e h)
  · by_cases e : q = p
    · subst e
      rw [upd_same] at h
      rcases hk k h with h | h
      · exact t.av0 q k hq h
      · omega
    · rw [upd_ne _ _ e] at h
      exact t.av0 q k hq h
  · by_cases e : q = p
    · subst e
      rw [upd_same] at h
      rw [upd_ne _ _ (Ne.symm hne)] at h'
      rcases hk k h with h | h
      · exact t.aa q q' k hq hq' hne h h'
      · have := (t.a q' hq').lt k h'; omega
    · rw [upd_ne _ _ e] at h
      by_cases e' : q' = p
      · subst e'
        rw [upd_same] at h'
        rcases hk k h' with h' | h'
        · exact t.aa q q' k hq hq' hne h h'
        · have := (t.a q hq).lt k h; omega
      · rw [upd_ne _ _ e'] at h'
        exact t.aa q q' k hq hq' hne h h'
  · by_cases e : q' = p
    · subst e
      rw [upd_same] at h'
      rcases hk k h' with h' | h'
      · exact t.ra q q' k hq hq' h h'
      · have := (t.h q hq).own.lt k h; omega
    · rw [upd_ne _ _ e] at h'
      exact t.ra q q' k hq hq' h h'
end
/-- The same, with the two arrays that hold them. -/
structure TwoA (w wr : World) (rv av : Nat → Value) (X Y : Nat → List By) : Prop where
  t : Two w wr (w.heap.size + 2) rv av X Y
  hs : Blk wr w.heap.size 35 [.pointer (some ⟨w.heap.size + 2, 0, none⟩), .pointer (some ⟨w.heap.size + 3, 0, none⟩)]
  al : Blk wr (w.heap.size + 1) 36 [av 0, av 1]
theorem TwoA.still {w wr wx : World} {rv av : Nat → Value} {X Y : Nat → List By} (t : TwoA w wr rv av X Y) (hf : Fr none_ wr wx) : TwoA w wx rv av X Y := ⟨t.t.still hf, t.hs.fr hf id, t.al.fr hf id⟩
theorem TwoA.wrote {w wr wx : World} {rv av : Nat → Value} {X Y : Nat → List By} (t : TwoA w wr rv av X Y) {p : Nat} (hp : p < 2) {rv' : Value} {bs : List By} (hf : Fr (touch (w.heap.size + 2 + p) (rv p)) wr wx) (hh : Going wx (w.heap.size + 2 + p) rv' (X p ++ bs)) (hk : ∀ k, inBlk rv' k → inBlk (rv p) k ∨ wr.heap.size ≤ k) :
    TwoA w wx (upd rv p rv') av (upd X p (X p ++ bs)) Y :=
  ⟨t.t.wrote hp hf hh hk, t.hs.fr hf (fun h => by
    rcases h with h | h
    · omega
    · exact (t.t.h p hp).own.ne t.hs (by decide) h), t.al.fr hf (fun h => by
    rcases h with h | h
    · omega
    · exact (t.t.h p hp).own.ne t.al (by decide) h)⟩
theorem TwoA.grew {w wr wx : World} {rv av : Nat → Value} {X Y : Nat → List By} (t : TwoA w wr rv av X Y) {p : Nat} (hp : p < 2) {av' : Value} {bs : List By} (hf : Fr (inBlk (av p)) wr wx) (ha : OwB wx av' (Y p ++ bs)) (hk : ∀ k, inBlk av' k → inBlk (av p) k ∨ wr.heap.size ≤ k) :
    TwoA w (wx.setCell ⟨w.heap.size + 1, p, none⟩ av') rv (upd av p av') X (upd Y p (Y p ++ bs)) := by
  have h1 := t.t.grew hp hf ha hk
  have h2 := t.hs.fr hf ((t.t.a p hp).ne t.hs (by decide))
  have h3 := t.al.fr hf ((t.t.a p hp).ne t.al (by decide))
  refine ⟨h1.step (Fr.one _ _ _ _) (fun q hq => by unfold only; omega) (fun q k hq h e => ?_) (fun q k hq h e => ?_) (fun k e => by unfold only at e; omega), h2.far (by simp) _, ?_⟩
  · unfold only at e
    subst e
    exact (h1.h q hq).own.ne h3 (by decide) h
  · unfold only at e
    subst e
    exact (h1.a q hq).ne h3 (by decide) h
  · have := h3.store p av'
    rcases (show p = 0 ∨ p = 1 by omega) with rfl | rfl
    · exact this
    · exact this
def hObj : Obj := .cells (heads st0 (.slice none 0 0) (.int .u64 0)).toArray 86
def sNil : Value := .slice none 0 0
theorem TwoA.start (w : World) : TwoA w ((((w.alloc (.cells #[.pointer (some ⟨w.heap.size + 1 + 1, 0, none⟩), .pointer (some ⟨w.heap.size + 1 + 1 + 1, 0, none⟩)] 35)).alloc (.cells #[.slice none 0 0, .slice none 0 0] 36)).alloc hObj).alloc hObj) (fun _ => sNil) (fun _ => sNil) (fun _ => []) (fun _ => []) := by
  refine ⟨⟨((((Fr.refl _ _).alloc _).alloc _).alloc _).alloc _, ?_, fun _ _ => OwB.nil _, by omega, fun _ _ _ h => absurd h nil_not, fun _ _ _ h => absurd h nil_not, fun _ _ _ _ _ _ h => absurd h nil_not, fun _ _ _ _ _ _ h => absurd h nil_not, fun _ _ _ _ _ h => absurd h nil_not⟩, ?_, ?_⟩
  · intro p hp
    have h0 := Going.new ((w.alloc (.cells #[.pointer (some ⟨w.heap.size + 1 + 1, 0, none⟩), .pointer (some ⟨w.heap.size + 1 + 1 + 1, 0, none⟩)] 35)).alloc (.cells #[.slice none 0 0, .slice none 0 0] 36))
    have h1 := Going.new (((w.alloc (.cells #[.pointer (some ⟨w.heap.size + 1 + 1, 0, none⟩), .pointer (some ⟨w.heap.size + 1 + 1 + 1, 0, none⟩)] 35)).alloc (.cells #[.slice none 0 0, .slice none 0 0] 36)).alloc hObj)
    simp only [World.size_alloc] at h0 h1
    rcases (show p = 0 ∨ p = 1 by omega) with rfl | rfl
    · exact h0.fr ((Fr.refl none_ _).alloc _) id (fun _ _ => id)
    · exact h1
  · exact (((Blk.new w 35 [.pointer (some ⟨w.heap.size + 1 + 1, 0, none⟩), .pointer (some ⟨w.heap.size + 1 + 1 + 1, 0, none⟩)]).alloc _).alloc _).alloc _
  · have := Blk.new (w.alloc (.cells #[.pointer (some ⟨w.heap.size + 1 + 1, 0, none⟩), .pointer (some ⟨w.heap.size + 1 + 1 + 1, 0, none⟩)] 35)) 36 [.slice none 0 0, .slice none 0 0]
    rw [World.size_alloc] at this
    exact (this.alloc _).alloc _
theorem TwoA.hcell {w wr : World} {rv av : Nat → Value} {X Y : Nat → List By} (t : TwoA w wr rv av X Y) {p : Nat} (hp : p < 2) : wr.cell? ⟨w.heap.size, p, none⟩ = some (.pointer (some ⟨w.heap.size + 2 + p, 0, none⟩)) := by
  rcases (show p = 0 ∨ p = 1 by omega) with rfl | rfl
  · exact t.hs.cellAt rfl
  · exact t.hs.cellAt rfl
theorem TwoA.acell {w wr : World} {rv av : Nat → Value} {X Y : Nat → List By} (t : TwoA w wr rv av X Y) {p : Nat} (hp : p < 2) : wr.cell? ⟨w.heap.size + 1, p, none⟩ = some (av p) := by
  rcases (show p = 0 ∨ p = 1 by omega) with rfl | rfl
  · exact t.al.cellAt rfl
  · exact t.al.cellAt rfl
set_option maxRecDepth 100000 in
set_option maxHeartbeats 4000000 in
theorem shaApart_any (A : Option Addr) (n c : Nat) (rows : List (List By)) (Q : Option Addr) (mq cq : Nat) (asks : Nat → Bool) (w : World) (hG : GK w) (hr : RdR w A n rows)
    (hq : 0 < mq → ∃ b o, Q = some ⟨b, o, none⟩ ∧ ∀ j, j < mq → w.cell? ⟨b, o + j, none⟩ = some (.bool (asks j))) :
    Calls Tryd.prog 6 #[.slice A n c, .slice Q mq cq] w fun e w' => e = .returned (.bool true) ∧ Fr none_ w w' := by
  obtain ⟨i5, hi5, hz5, hs5, hb5⟩ := info_parts (P := Tryd.prog) (e := 5) (z := .int .u8 0) (size := 1) (bytes := 1) (by kernel_rfl)
  have hG' := Lib.hid hG
  have hr' := Lib.hid hr
  have hq' := Lib.hid hq
  have hw0 := hG.lt
  clear hG hr hq
  go_enter Tryd.func6, Tryd.ntmps6
  go_wp2_with fail
  refine (new_any _).mono ?_
  rintro e w1 ⟨rfl, rfl⟩
  go_wp2_with fail
  refine (new_any _).mono ?_
  rintro e w1 ⟨rfl, rfl⟩
  go_wp2_with fail
  have hT0 := TwoA.start w
  refine (alive_any _ (hG'.out.fr hT0.t.fr id)).mono ?_
  rintro e w1 ⟨rfl, hf1⟩
  have hT := Lib.hid (hT0.still hf1)
  have hc0 := hT.out.hcell (p := 0) (by omega)
  have hc1 := hT.out.hcell (p := 1) (by omega)
  clear hT0 hf1
  go_wp2
  clear hc0 hc1
  go_loopw [7] (fun i wr => ∃ (k : Nat) (X : Nat → List By) (rv av : Nat → Value), i = .int .i64 k ∧ k ≤ n ∧ k ≤ 40 ∧ (∀ p, p < 2 → (X p).length ≤ 20000) ∧ TwoA w wr rv av X X) (fun i _ => 40 - (intOf i).toNat)
  case atStart => exact ⟨0, _, _, _, rfl, by omega, by omega, fun _ _ => by decide, hT.out⟩
  case round =>
    clear hT
    obtain ⟨k, X, rv, av, rfl, hkn, hk40, hX, hT⟩ := hrel
    have hX' := Lib.hid hX
    have hT' := Lib.hid hT
    clear hX hT
    by_cases hk : k < n ∧ k < 40
    · obtain ⟨hk1, hk2⟩ := hk
      have hk3 : (k : Int) < 40 := by omega
      have hp : k % 2 < 2 := Nat.mod_lt _ (by decide)
      obtain ⟨b, o, rfl, hcell⟩ := hr'.out.2 (by omega)
      obtain ⟨A1, m, c1, hcl, hmc, hcm, hrd⟩ := hcell k hk1
      have hrow : wr.cell? ⟨b, o + k, none⟩ = some (.slice A1 m c1) := (hT'.out.t.fr.cell (p := ⟨b, o + k, none⟩) (block_lt_of_cell hcl) id).trans hcl
      have hcm' : c1 ≤ 9223372036854775807 := hcm
      obtain ⟨r, hrr⟩ : ∃ r, r = rows.getD k [] := ⟨_, rfl⟩
      rw [← hrr] at hrd
      have hrd' := Lib.hid hrd
      have hcl' := Lib.hid hcl
      clear hcell hrd hcl hcm hrr
      obtain ⟨AA, ca, hav, hAc, hAm⟩ := (hT'.out.t.a (k % 2) hp).slice
      have ha := hT'.out.acell hp
      have hh := hT'.out.hcell hp
      rw [hav] at ha
      have hXl := hX'.out (k % 2) hp
      obtain ⟨x, hx⟩ : ∃ x, x = (X (k % 2)).length := ⟨_, rfl⟩
      rw [← hx] at ha hXl hav hAc
      have hav' := Lib.hid hav
      have hx' := Lib.hid hx
      clear hav hx hAm
      have q1 : (0 : Int) ≤ (k : Int) % 2 := by omega
      have q2 : (k : Int) % 2 < 2 := by omega
      have q3 : (k : Int).tmod 2 = (k : Int) % 2 := Int.tmod_eq_emod_of_nonneg (by omega)
      by_cases hm : x + m ≤ 20000
      · have hm1 : decide (20000 - (x : Int) < (m : Int)) = false := by simp; omega
        go_wp2
        go_quiet (fail)
        go_wp2
        refine wp_gen (fun W => Fr none_ wr W) ((Fr.refl _ _).drewN _) ?_
        rintro W hfW
        have hT1 := Lib.hid (hT'.out.still hfW)
        clear hrow ha hh hfW
        have hrow : W.cell? ⟨b, o + k, none⟩ = some (.slice A1 m c1) := (hT1.out.t.fr.cell (p := ⟨b, o + k, none⟩) (block_lt_of_cell hcl'.out) id).trans hcl'.out
        have hh := hT1.out.hcell hp
        refine wp_region_quiet_tail 8 (by kernel_rfl) (by kernel_rfl) ?_
        simp only [List.take_succ_cons, List.take_zero, List.drop_succ_cons, List.drop_zero]
        repeat (go_big_quiet_step (fail))
        refine wpQuiet_nil ?_
        rintro _ ⟨n1, rfl⟩
        go_wp2_with fail
        obtain ⟨V, hV⟩ : ∃ V, V = W.drewN n1 := ⟨_, rfl⟩
        rw [← hV]
        have hT2 := Lib.hid (hT1.out.still (hV ▸ (Fr.refl none_ W).drewN n1))
        clear hV hT1 hrow hh
        refine (write_go A1 m c1 r V (hT2.out.t.h _ hp) (hG'.out.fr hT2.out.t.fr id) (hrd'.out.fr hT2.out.t.fr (fun _ _ _ => id)) hmc (by omega) ?_ ?_ (by rw [← hx'.out]; omega)).mono ?_
        · intro h0 b' o' e
          have h1 := hrd'.out.lt b' o' e h0
          exact ⟨by omega, fun e => by have := hT2.out.t.rv0 _ _ hp e; omega⟩
        · intro e
          rcases e with e | e
          · omega
          · have := hT2.out.t.rv0 _ _ hp e; omega
        rintro e w3 ⟨rfl, rv3, hf3, hg3, hk3⟩
        have hT3 := Lib.hid (hT2.out.wrote hp hf3 hg3 hk3)
        clear hf3 hg3 hk3 hT2
        have hrow : w3.cell? ⟨b, o + k, none⟩ = some (.slice A1 m c1) := (hT3.out.t.fr.cell (p := ⟨b, o + k, none⟩) (block_lt_of_cell hcl'.out) id).trans hcl'.out
        have ha := hT3.out.acell hp
        rw [hav'.out] at ha
        have hA3 : ∀ z, z = w3.drew → OwB z (.slice AA x ca) (X (k % 2)) := fun z hz => by rw [hz, ← hav'.out]; exact (hT3.out.still (Fr.refl _ _).drew).t.a _ hp
        have hA3' := Lib.hid hA3
        clear hA3
        go_wp2
        go_cut [65] from 55 to 66 (fun _ wc => ∃ av4, TwoA w wc (upd rv (k % 2) rv3) (upd av (k % 2) av4) (upd X (k % 2) (X (k % 2) ++ r)) (upd X (k % 2) (X (k % 2) ++ r)))
        case first =>
          have q4 : ((k : Int) % 2).toNat = k % 2 := by omega
          go_region_law (refine step_append_bytes rfl (.tmp 60) (.tmp 64) 22 rfl i5 Tryd.underlying22 hi5 hz5 hs5 hb5 (.slice AA x ca) rfl (X (k % 2)) (hA3'.out _ rfl) A1 m c1 r rfl (hrd'.out.fr (hT3.out.still (Fr.refl _ _).drew).t.fr (fun _ _ _ => id)) (by rw [← hx'.out]; omega) ?_; intro A4 c4 w4 ho4 hf4 hk4; have hf5 : Fr (inBlk (av (k % 2))) w3.drew w4 := hav'.out.symm ▸ hf4; have hal := (hT3.out.still (Fr.refl _ _).drew).al.fr hf5 (((hT3.out.still (Fr.refl _ _).drew).t.a _ hp).ne (hT3.out.still (Fr.refl _ _).drew).al (by decide)); have hfz := hal.free (k % 2); obtain ⟨vv, hst⟩ : ∃ v, w4.cell? ⟨w.heap.size + 1, k % 2, none⟩ = some v := (by rcases (show k % 2 = 0 ∨ k % 2 = 1 by omega) with e | e <;> (rw [e]; exact ⟨_, hal.cellAt rfl⟩)))
          all_goals
            go_wp2_with fail
            go_meet
            case rel => exact ⟨_, (hT3.out.still (Fr.refl _ _).drew).grew hp hf5 ho4 (hav'.out.symm ▸ hk4)⟩
        case rest =>
          obtain ⟨av4, hT4⟩ := hcut
          obtain ⟨X4, hX4⟩ : ∃ X4, X4 = upd X (k % 2) (X (k % 2) ++ r) := ⟨_, rfl⟩
          rw [← hX4] at hT4
          have hXl4 : ∀ p, p < 2 → (X4 p).length ≤ 20000 := fun p hp4 => by
            rw [hX4]
            by_cases e : p = k % 2
            · subst e
              rw [upd_same, List.length_append, ← hx'.out, hrd'.out.1]
              exact hm
            · rw [upd_ne _ _ e]
              exact hX'.out p hp4
          have hXl4' := Lib.hid hXl4
          have hT4' := Lib.hid hT4
          clear hXl4 hT4 hX4 hT3 hA3' ha hrow
          by_cases hka : k < mq
          · obtain ⟨qb, qo, rfl, hqc⟩ := hq'.out (by omega)
            have hqa : wc.cell? ⟨qb, qo + k, none⟩ = some (.bool (asks k)) := (hT4'.out.t.fr.cell (p := ⟨qb, qo + k, none⟩) (block_lt_of_cell (hqc k hka)) id).trans (hqc k hka)
            clear hqc
            have hka1 : decide ((k : Int) < (mq : Int)) = true := by simp; omega
            obtain ⟨ask, hask⟩ : ∃ ask, ask = asks k := ⟨_, rfl⟩
            rw [← hask] at hqa
            clear hask
            cases ask with
            | false =>
              go_wp2
              go_quiet (fail)
              go_wp2
              go_roundw
              case measure => simp [intOf]; omega
              case rel => exact ⟨k + 1, X4, _, _, by go_num, by omega, by omega, hXl4'.out, hT4'.out.still ((Fr.refl _ _).drewN _)⟩
            | true =>
              obtain ⟨A5, c5, hv5, hc5, _⟩ := (hT4'.out.t.a (k % 2) hp).slice
              have ha := hT4'.out.acell hp
              have hh := hT4'.out.hcell hp
              rw [hv5] at ha
              have hv5' := Lib.hid hv5
              clear hv5
              obtain ⟨D, hD, lD⟩ : ∃ D, D = sha (X4 (k % 2)) ∧ D.length = 32 := ⟨_, rfl, rfl⟩
              have hD' := Lib.hid hD
              clear hD
              have hz1 := fun (w : World) (op : BinOp) (x y : Operand) => eqGuard_DA w D D op x y
              have hz3 := fun w : World => (neq_DA w D D lD lD).trans (by rw [beq_self_eq_true]; rfl : _ = Result.ok (.bool false) w)
              simp only [DA] at hz1 hz3
              have q4 : ((k : Int) % 2).toNat = k % 2 := by omega
              have hS : wc.drew.cell? ⟨qb, qo + k, none⟩ = some (.bool true) ∧ wc.drew.cell? ⟨w.heap.size, k % 2, none⟩ = some (.pointer (some ⟨w.heap.size + 2 + k % 2, 0, none⟩)) ∧ wc.drew.cell? ⟨w.heap.size + 1, k % 2, none⟩ = some (.slice A5 (X4 (k % 2)).length c5) := ⟨hqa, hh, ha⟩
              have step := fun (Y Z : World) (h : Y.cell? ⟨qb, qo + k, none⟩ = some (.bool true) ∧ Y.cell? ⟨w.heap.size, k % 2, none⟩ = some (.pointer (some ⟨w.heap.size + 2 + k % 2, 0, none⟩)) ∧ Y.cell? ⟨w.heap.size + 1, k % 2, none⟩ = some (.slice A5 (X4 (k % 2)).length c5)) (hf : Fr none_ Y Z) =>
                (⟨(hf.cell (block_lt_of_cell h.1) id).trans h.1, (hf.cell (block_lt_of_cell h.2.1) id).trans h.2.1, (hf.cell (block_lt_of_cell h.2.2) id).trans h.2.2⟩ : Z.cell? ⟨qb, qo + k, none⟩ = some (.bool true) ∧ Z.cell? ⟨w.heap.size, k % 2, none⟩ = some (.pointer (some ⟨w.heap.size + 2 + k % 2, 0, none⟩)) ∧ Z.cell? ⟨w.heap.size + 1, k % 2, none⟩ = some (.slice A5 (X4 (k % 2)).length c5))
              have step' := Lib.hid step
              have hS' := Lib.hid hS
              clear step hS
              go_wp2
              go_region_held3 (fun Y => Y.cell? ⟨qb, qo + k, none⟩ = some (.bool true) ∧ Y.cell? ⟨w.heap.size, k % 2, none⟩ = some (.pointer (some ⟨w.heap.size + 2 + k % 2, 0, none⟩)) ∧ Y.cell? ⟨w.heap.size + 1, k % 2, none⟩ = some (.slice A5 (X4 (k % 2)).length c5)) (first | exact hS'.out | exact step'.out _ _ hS'.out hfY | exact step'.out _ _ (step'.out _ _ hS'.out hfY) hfZ)
                (first
                  | (go_at_call 18; refine (shasum_is D A5 _ c5 (X4 (k % 2)) _ hD'.out (hG'.out.fr (hT4'.out.still ((Fr.refl _ _).drew.trans hfY (fun _ _ => id))).t.fr id) (((hT4'.out.still ((Fr.refl _ _).drew.trans hfY (fun _ _ => id))).t.a _ hp).rd hv5'.out).1 hc5 (by have := hXl4'.out _ hp; omega)).mono ?_; rw [DA]; rintro e Z ⟨rfl, hfZ⟩)
                  | (go_at_call 24; refine (sum_is D _ hD'.out ((hT4'.out.still (Fr.refl _ _).drew).t.h _ hp) (by have := hXl4'.out _ hp; omega) (hG'.out.fr (hT4'.out.still (Fr.refl _ _).drew).t.fr id)).mono ?_; rw [DA]; rintro e Y ⟨rfl, hfY⟩))
              go_wp2
              go_roundw
              case measure => simp [intOf]; omega
              case rel => exact ⟨k + 1, X4, _, _, by go_num, by omega, by omega, hXl4'.out, hT4'.out.still (((Fr.refl _ _).drew.trans hfY (fun _ _ => id)).trans hfZ (fun _ _ => id))⟩
          · have hka1 : decide ((k : Int) < (mq : Int)) = false := by simp; omega
            go_wp2
            go_quiet (fail)
            go_wp2
            go_roundw
            case measure => simp [intOf]; omega
            case rel => exact ⟨k + 1, X4, _, _, by go_num, by omega, by omega, hXl4'.out, hT4'.out.still ((Fr.refl _ _).drewN _)⟩
      · have hm1 : decide (20000 - (x : Int) < (m : Int)) = true := by simp; omega
        go_wp2
        go_quiet (fail)
        go_wp2
        go_ret
        exact ⟨rfl, hT'.out.t.fr.drewN _⟩
    · have hk2 : (n : Int) ≤ k ∨ ((k : Int) < n ∧ (40 : Int) ≤ k) := by omega
      obtain ⟨A5, c5, hv5, hc5, _⟩ := (hT'.out.t.a 0 (by decide)).slice
      obtain ⟨A6, c6, hv6, hc6, _⟩ := (hT'.out.t.a 1 (by decide)).slice
      have ha := hT'.out.acell (p := 0) (by decide)
      have hh := hT'.out.hcell (p := 0) (by decide)
      have ha1 := hT'.out.acell (p := 1) (by decide)
      have hh1 := hT'.out.hcell (p := 1) (by decide)
      rw [hv5] at ha
      rw [hv6] at ha1
      have hv5' := Lib.hid hv5
      have hv6' := Lib.hid hv6
      clear hv5 hv6
      obtain ⟨D, hD, lD⟩ : ∃ D, D = sha (X 0) ∧ D.length = 32 := ⟨_, rfl, rfl⟩
      obtain ⟨E, hE, lE⟩ : ∃ D, D = sha (X 1) ∧ D.length = 32 := ⟨_, rfl, rfl⟩
      have hD' := Lib.hid hD
      have hE' := Lib.hid hE
      clear hD hE
      have hz1 := fun (w : World) (op : BinOp) (x y : Operand) => eqGuard_DA w D D op x y
      have hz3 := fun w : World => (eql_DA w D D lD lD).trans (by rw [beq_self_eq_true] : _ = Result.ok (.bool true) w)
      have hz4 := fun (w : World) (op : BinOp) (x y : Operand) => eqGuard_DA w E E op x y
      have hz6 := fun w : World => (eql_DA w E E lE lE).trans (by rw [beq_self_eq_true] : _ = Result.ok (.bool true) w)
      simp only [DA] at hz1 hz3 hz4 hz6
      obtain ⟨S, hSd⟩ : ∃ S : World → Prop, S = fun Y => Y.cell? ⟨w.heap.size, 0, none⟩ = some (.pointer (some ⟨w.heap.size + 2 + 0, 0, none⟩)) ∧ Y.cell? ⟨w.heap.size + 1, 0, none⟩ = some (.slice A5 (X 0).length c5) ∧ Y.cell? ⟨w.heap.size, 1, none⟩ = some (.pointer (some ⟨w.heap.size + 2 + 1, 0, none⟩)) ∧ Y.cell? ⟨w.heap.size + 1, 1, none⟩ = some (.slice A6 (X 1).length c6) := ⟨_, rfl⟩
      have hS : S wr.drew := by rw [hSd]; exact ⟨hh, ha, hh1, ha1⟩
      have step : ∀ Y Z, S Y → Fr none_ Y Z → S Z := fun Y Z h hf => by
        rw [hSd] at h ⊢
        exact ⟨(hf.cell (block_lt_of_cell h.1) id).trans h.1, (hf.cell (block_lt_of_cell h.2.1) id).trans h.2.1, (hf.cell (block_lt_of_cell h.2.2.1) id).trans h.2.2.1, (hf.cell (block_lt_of_cell h.2.2.2) id).trans h.2.2.2⟩
      subst hSd
      have step' := Lib.hid step
      have hS' := Lib.hid hS
      clear step hS
      have hl0 := hX'.out 0 (by decide)
      have hl1 := hX'.out 1 (by decide)
      have still := Lib.hid (fun (Z : World) (hf : Fr none_ wr Z) => hT'.out.still hf)
      clear hk
      rcases hk2 with hk2 | ⟨hk2, hk3⟩
      all_goals
        go_wp2
        go_region_held3 (fun Y => Y.cell? ⟨w.heap.size, 0, none⟩ = some (.pointer (some ⟨w.heap.size + 2 + 0, 0, none⟩)) ∧ Y.cell? ⟨w.heap.size + 1, 0, none⟩ = some (.slice A5 (X 0).length c5) ∧ Y.cell? ⟨w.heap.size, 1, none⟩ = some (.pointer (some ⟨w.heap.size + 2 + 1, 0, none⟩)) ∧ Y.cell? ⟨w.heap.size + 1, 1, none⟩ = some (.slice A6 (X 1).length c6)) (first | exact hS'.out | exact step'.out _ _ hS'.out hf1 | exact step'.out _ _ (step'.out _ _ hS'.out hf1) hf2 | exact step'.out _ _ (step'.out _ _ (step'.out _ _ hS'.out hf1) hf2) hf3 | exact step'.out _ _ (step'.out _ _ (step'.out _ _ (step'.out _ _ hS'.out hf1) hf2) hf3) hf4)
          (first
            | (go_at_call 18; refine (shasum_is E A6 _ c6 (X 1) _ hE'.out (hG'.out.fr (still.out _ ((((Fr.refl none_ wr).drew.trans hf1 (fun _ _ => id)).trans hf2 (fun _ _ => id)).trans hf3 (fun _ _ => id))).t.fr id) (((still.out _ ((((Fr.refl none_ wr).drew.trans hf1 (fun _ _ => id)).trans hf2 (fun _ _ => id)).trans hf3 (fun _ _ => id))).t.a 1 (by decide)).rd hv6'.out).1 hc6 (by omega)).mono ?_; rw [DA]; rintro e Y4 ⟨rfl, hf4⟩)
            | (go_at_call 24; refine (sum_is E _ hE'.out ((still.out _ (((Fr.refl none_ wr).drew.trans hf1 (fun _ _ => id)).trans hf2 (fun _ _ => id))).t.h 1 (by decide)) (by omega) (hG'.out.fr (still.out _ (((Fr.refl none_ wr).drew.trans hf1 (fun _ _ => id)).trans hf2 (fun _ _ => id))).t.fr id)).mono ?_; rw [DA]; rintro e Y3 ⟨rfl, hf3⟩)
            | (go_at_call 18; refine (shasum_is D A5 _ c5 (X 0) _ hD'.out (hG'.out.fr (still.out _ ((Fr.refl none_ wr).drew.trans hf1 (fun _ _ => id))).t.fr id) (((still.out _ ((Fr.refl none_ wr).drew.trans hf1 (fun _ _ => id))).t.a 0 (by decide)).rd hv5'.out).1 hc5 (by omega)).mono ?_; rw [DA]; rintro e Y2 ⟨rfl, hf2⟩)
            | (go_at_call 24; refine (sum_is D _ hD'.out ((still.out _ (Fr.refl none_ wr).drew).t.h 0 (by decide)) (by omega) (hG'.out.fr (still.out _ (Fr.refl none_ wr).drew).t.fr id)).mono ?_; rw [DA]; rintro e Y1 ⟨rfl, hf1⟩))
        go_wp2
        go_ret
        exact ⟨rfl, hT'.out.t.fr.trans (((((Fr.refl none_ wr).drew.trans hf1 (fun _ _ => id)).trans hf2 (fun _ _ => id)).trans hf3 (fun _ _ => id)).trans hf4 (fun _ _ => id)) (fun _ _ => id)⟩
end Go.Proofs.YtelhoejoncnccaaDoor
